import Derived.Test.YtimicmlpaaohoaaAbQuiet
import Derived.Test.YtimicmlpaaohoaaAbP154
namespace Go.Ab
open Go.Proofs
set_option linter.unusedVariables false
set_option maxRecDepth 100000
/-! sinew/sinewref02.Sum -/
def g47mu : Nat → Bool := fun _ => false
noncomputable def g47T : Tbl := tget []
theorem g47t : SimT Try.prog g47T := simT_nil
noncomputable def s47 : Fn := sealF (afn Try.prog g47mu g47T big (areg Try.prog g47mu g47T) 47)
theorem sim47 : Sim Try.prog 47 s47 := (afn_sim g47t (fun m => areg_sound g47t hmix m) 47 (by kernel_rfl)).sealed
noncomputable def g47C (p : List Nat) : Code := sub (match Try.f47.body with | some c => c | none => .skip) p
noncomputable def g47X (c : Code) (K : Kon) : Env → St → Res := aexec Try.prog g47mu g47T big 33 (areg Try.prog g47mu g47T 33) c K
noncomputable def g47kr : Kon := aresK Try.prog Try.f47.results.toList
theorem g47reg {c : Code} {K : Kon} {G : Env → St → Res} {id : Nat} {ops : Array Oper} {l1 l2 : List Nat} (hc : c = .region id ops false) (hl : List.range ops.size = l1 ++ l2) (h : (fun env st => aops Try.prog g47mu g47T 33 ops l2 env st (K .normal)) = G) : g47X c K = fun env st => aops Try.prog g47mu g47T 33 ops l1 env st G := reg_cut hc hl h
theorem g47seq {c x y : Code} {K : Kon} {G : Env → St → Res} (hc : c = .seq x y) (hy : g47X y K = G) : g47X c K = g47X x (kSeq G K) := seq_cut hc hy
theorem g47blk {c x : Code} {K : Kon} {i : Nat} (hc : c = .block i x) : g47X c K = g47X x (kBlk i K) := blk_cut hc
theorem g47loop {c x : Code} {K : Kon} (hc : c = .loop x) : g47X c K = aloop (g47X x) K big := loop_cut hc
theorem g47cond {c x y : Code} {K : Kon} {v : Operand} {F G : Env → St → Res} (hc : c = .cond v x y) (hx : g47X x K = F) (hy : g47X y K = G) : g47X c K = condF v F G := cond_cut hc hx hy
noncomputable def g47k0 : Kon := kSeq (g47X (g47C [1, 1, 1]) (g47kr)) (g47kr)
noncomputable def g47k1 : Kon := kBlk 0 (g47k0)
noncomputable def g47k2 (L11010 : V → V → V → St → Res) : Kon := kSeq (fun env st => L11010 (env 0) (env 3) (env 4) st) (g47k1)
noncomputable def g47k3 (L11010 : V → V → V → St → Res) : Kon := kSeq (g47X (g47C [1, 1, 0, 1, 0, 0, 1, 1]) (g47k2 L11010)) (g47k2 L11010)
noncomputable def g47k4 (L11010 : V → V → V → St → Res) : Kon := kBlk 1 (g47k3 L11010)
noncomputable def g47k5 (L11010 : V → V → V → St → Res) : Kon := kBlk 2 (g47k4 L11010)
noncomputable def g47bz5ra (L11010 : V → V → V → St → Res) : Nat → V → V → V → V → St → Res
| 0, _, _, _, _, _ => none
| n + 1, x0, x3, x4, x5, st =>
 A.bin .lss x5 (.int .i64 8) fun a1 =>
 A.cond a1
 (A.bin .mul (.int .i64 2) x3 fun a2 =>
 A.bin .gtr a2 (.int .i64 4294967295) fun a3 =>
 A.cond a3
 (A.bin .sub a2 (.int .i64 4294967295) fun a4 =>
 A.bin .sub a4 (.int .i64 1) fun a5 =>
 A.bin .xor a5 (.int .i64 79764919) fun a6 =>
 A.bin .add x5 (.int .i64 1) fun a7 =>
 (g47bz5ra L11010 n) x0 a6 x4 a7 st)
 (A.bin .add x5 (.int .i64 1) fun a8 =>
 (g47bz5ra L11010 n) x0 a2 x4 a8 st))
 (A.bin .add x4 (.int .i64 1) fun a9 =>
 L11010 x0 x3 a9 st)
theorem g47nz5ra : g47C [1, 1, 0, 1, 0, 0, 1, 0, 0, 1, 1, 0] = .loop (g47C [1, 1, 0, 1, 0, 0, 1, 0, 0, 1, 1, 0, 0]) := by kernel_rfl
noncomputable def g47k6 (L11010 : V → V → V → St → Res) (Lz5ra : V → V → V → V → St → Res) : Kon := kSeq (fun env st => Lz5ra (env 0) (env 3) (env 4) (env 5) st) (g47k5 L11010)
theorem g47ez5ra (L11010 : V → V → V → St → Res) : g47X (g47C [1, 1, 0, 1, 0, 0, 1, 0, 0, 1, 1, 0]) (g47k5 L11010) = fun env st => g47bz5ra L11010 big (env 0) (env 3) (env 4) (env 5) st := by
  have key : ∀ n, aloop (g47X (g47C [1, 1, 0, 1, 0, 0, 1, 0, 0, 1, 1, 0, 0])) (g47k5 L11010) n = fun env st => g47bz5ra L11010 n (env 0) (env 3) (env 4) (env 5) st := by
    intro n
    induction n with
    | zero => rfl
    | succ n ih =>
      have h : aloop (g47X (g47C [1, 1, 0, 1, 0, 0, 1, 0, 0, 1, 1, 0, 0])) (g47k5 L11010) (n + 1) = g47X (g47C [1, 1, 0, 1, 0, 0, 1, 0, 0, 1, 1, 0, 0]) (kSeq (aloop (g47X (g47C [1, 1, 0, 1, 0, 0, 1, 0, 0, 1, 1, 0, 0])) (g47k5 L11010) n) (g47k5 L11010)) := rfl
      rw [h, ih]
      refine Eq.trans (Eq.refl _) ?_
      funext env st
      kernel_rfl
  exact (g47loop g47nz5ra).trans (key big)
noncomputable def g47bz1ft (L11010 : V → V → V → St → Res) (x0 : V) (x3 : V) (x4 : V) (st : St) : Res :=
 g47bz5ra L11010 big x0 x3 x4 (.int .i64 0) st
theorem g47nz1ft : g47C [1, 1, 0, 1, 0, 0, 1, 0, 0, 1] = .seq (g47C [1, 1, 0, 1, 0, 0, 1, 0, 0, 1, 0]) (g47C [1, 1, 0, 1, 0, 0, 1, 0, 0, 1, 1]) := by kernel_rfl
theorem g47nz2vn : g47C [1, 1, 0, 1, 0, 0, 1, 0, 0, 1, 1] = .block 2 (g47C [1, 1, 0, 1, 0, 0, 1, 0, 0, 1, 1, 0]) := by kernel_rfl
theorem g47ez1ft (L11010 : V → V → V → St → Res) : g47X (g47C [1, 1, 0, 1, 0, 0, 1, 0, 0, 1]) (g47k4 L11010) = fun env st => g47bz1ft L11010 (env 0) (env 3) (env 4) st := by
  refine Eq.trans (g47seq g47nz1ft ((g47blk g47nz2vn).trans (g47ez5ra L11010))) ?_
  funext env st
  kernel_rfl
noncomputable def g47b11010 : Nat → V → V → V → St → Res
| 0, _, _, _, _ => none
| n + 1, x0, x3, x4, st =>
 A.lenS x0 fun a1 =>
 A.bin .lss x4 a1 fun a2 =>
 A.cond a2
 (A.idxS x0 x4 fun a3 =>
 A.toInt .i64 a3 fun a4 =>
 A.bin .shl a4 (.int .u64 24) fun a5 =>
 A.bin .xor x3 a5 fun a6 =>
 g47bz1ft (g47b11010 n) x0 a6 x4 st)
 (A.bin .xor x3 (.int .i64 4294967295) fun a7 =>
 some (.ret a7.er1, st))
theorem g47n11010 : g47C [1, 1, 0, 1, 0] = .loop (g47C [1, 1, 0, 1, 0, 0]) := by kernel_rfl
theorem g47nz38 : g47C [1, 1, 0, 1, 0, 0] = .seq (g47C [1, 1, 0, 1, 0, 0, 0]) (g47C [1, 1, 0, 1, 0, 0, 1]) := by kernel_rfl
theorem g47nz6h : g47C [1, 1, 0, 1, 0, 0, 1] = .seq (g47C [1, 1, 0, 1, 0, 0, 1, 0]) (g47C [1, 1, 0, 1, 0, 0, 1, 1]) := by kernel_rfl
theorem g47nzcy : g47C [1, 1, 0, 1, 0, 0, 1, 0] = .block 1 (g47C [1, 1, 0, 1, 0, 0, 1, 0, 0]) := by kernel_rfl
theorem g47nzpw : g47C [1, 1, 0, 1, 0, 0, 1, 0, 0] = .seq (g47C [1, 1, 0, 1, 0, 0, 1, 0, 0, 0]) (g47C [1, 1, 0, 1, 0, 0, 1, 0, 0, 1]) := by kernel_rfl
theorem g47e11010 : g47X (g47C [1, 1, 0, 1, 0]) (g47k1) = fun env st => g47b11010 big (env 0) (env 3) (env 4) st := by
  have key : ∀ n, aloop (g47X (g47C [1, 1, 0, 1, 0, 0])) (g47k1) n = fun env st => g47b11010 n (env 0) (env 3) (env 4) st := by
    intro n
    induction n with
    | zero => rfl
    | succ n ih =>
      have h : aloop (g47X (g47C [1, 1, 0, 1, 0, 0])) (g47k1) (n + 1) = g47X (g47C [1, 1, 0, 1, 0, 0]) (kSeq (aloop (g47X (g47C [1, 1, 0, 1, 0, 0])) (g47k1) n) (g47k1)) := rfl
      rw [h, ih]
      refine Eq.trans (g47seq g47nz38 ((g47seq g47nz6h rfl).trans ((g47blk g47nzcy).trans (g47seq g47nzpw (g47ez1ft (g47b11010 n)))))) ?_
      funext env st
      kernel_rfl
  exact (g47loop g47n11010).trans (key big)
noncomputable def f47 (x0 : V) (st : St) : Res :=
 g47b11010 big x0 (.int .i64 4294967295) (.int .i64 0) st
theorem g47nr : g47C [] = .seq (g47C [0]) (g47C [1]) := by kernel_rfl
theorem g47n1 : g47C [1] = .seq (g47C [1, 0]) (g47C [1, 1]) := by kernel_rfl
theorem g47n11 : g47C [1, 1] = .seq (g47C [1, 1, 0]) (g47C [1, 1, 1]) := by kernel_rfl
theorem g47n110 : g47C [1, 1, 0] = .seq (g47C [1, 1, 0, 0]) (g47C [1, 1, 0, 1]) := by kernel_rfl
theorem g47n1101 : g47C [1, 1, 0, 1] = .block 0 (g47C [1, 1, 0, 1, 0]) := by kernel_rfl
theorem g47er (env : Env) (st : St) : g47X (g47C []) g47kr env st = f47 (env 0) st := by
  rw [(g47seq g47nr (g47seq g47n1 ((g47seq g47n11 rfl).trans (g47seq g47n110 ((g47blk g47n1101).trans (g47e11010))))))]
  kernel_rfl
theorem s47_eq (x0 : V) (st : St) : s47 [x0] st = f47 x0 st := by
  have h : afn Try.prog g47mu g47T big (areg Try.prog g47mu g47T) 47 [x0] st = g47X (g47C []) g47kr (fun t => [x0].getD t (.tup [])) st := by kernel_rfl
  rw [s47, sealF_eq]
  exact h.trans (g47er _ st)
/-! sinew/sinewref03.Pack -/
def g33mu : Nat → Bool := fun _ => false
noncomputable def g33T : Tbl := tget [(45, s45), (46, s46), (47, s47)]
theorem g33t : SimT Try.prog g33T := simT_cons sim45 ( simT_cons sim46 ( simT_cons sim47 (simT_nil)))
noncomputable def s33 : Fn := sealF (fun args st => fg (afn Try.prog g33mu g33T big (areg Try.prog g33mu g33T) 33 args st) st)
theorem sim33 : Sim Try.prog 33 s33 := (afn_sim g33t (fun m => areg_sound g33t hmix m) 33 (by kernel_rfl)).fg.sealed
noncomputable def g33C (p : List Nat) : Code := sub (match Try.f33.body with | some c => c | none => .skip) p
noncomputable def g33X (c : Code) (K : Kon) : Env → St → Res := aexec Try.prog g33mu g33T big 22 (areg Try.prog g33mu g33T 22) c K
noncomputable def g33kr : Kon := aresK Try.prog Try.f33.results.toList
theorem g33reg {c : Code} {K : Kon} {G : Env → St → Res} {id : Nat} {ops : Array Oper} {l1 l2 : List Nat} (hc : c = .region id ops false) (hl : List.range ops.size = l1 ++ l2) (h : (fun env st => aops Try.prog g33mu g33T 22 ops l2 env st (K .normal)) = G) : g33X c K = fun env st => aops Try.prog g33mu g33T 22 ops l1 env st G := reg_cut hc hl h
theorem g33seq {c x y : Code} {K : Kon} {G : Env → St → Res} (hc : c = .seq x y) (hy : g33X y K = G) : g33X c K = g33X x (kSeq G K) := seq_cut hc hy
theorem g33blk {c x : Code} {K : Kon} {i : Nat} (hc : c = .block i x) : g33X c K = g33X x (kBlk i K) := blk_cut hc
theorem g33loop {c x : Code} {K : Kon} (hc : c = .loop x) : g33X c K = aloop (g33X x) K big := loop_cut hc
theorem g33cond {c x y : Code} {K : Kon} {v : Operand} {F G : Env → St → Res} (hc : c = .cond v x y) (hx : g33X x K = F) (hy : g33X y K = G) : g33X c K = condF v F G := cond_cut hc hx hy
noncomputable def g33b111 (x4 : V) (st : St) : Res :=
 A.lenS x4 fun a1 =>
 A.ret (s46 [a1.er1] st) fun a2 z3 =>
 A.ret (s47 [x4.er1] z3) fun a4 z5 =>
 A.ret (s46 [a4.er1] z5) fun a6 z7 =>
 A.bin .add a2 a6 fun a8 =>
 A.bin .add a8 x4 fun a9 =>
 some (.ret (.tup [a9.er1, ((.int .i64 0) : V).er1]), z7)
theorem g33e111 : g33X (g33C [1, 1, 1]) (g33kr) = fun env st => g33b111 (env 4) st := by
  refine Eq.trans (Eq.refl (g33X (g33C [1, 1, 1]) (g33kr))) ?_
  funext env st
  kernel_rfl
noncomputable def f33 (x0 : V) (st : St) : Res :=
 A.box x0 st fun a1 z2 =>
 A.load true 4 a1 z2 fun a3 z4 =>
 A.ret (s45 [a3.er1] z4) fun a5 z6 =>
 A.ext a5 0 fun a7 =>
 A.ext a5 1 fun a8 =>
 A.un .not a8 fun a9 =>
 A.cond a9
 (some (.ret (.tup [((.str []) : V).er1, ((.int .i64 1) : V).er1]), z6))
 (g33b111 a7 z6)
theorem g33nr : g33C [] = .seq (g33C [0]) (g33C [1]) := by kernel_rfl
theorem g33n1 : g33C [1] = .seq (g33C [1, 0]) (g33C [1, 1]) := by kernel_rfl
theorem g33n11 : g33C [1, 1] = .seq (g33C [1, 1, 0]) (g33C [1, 1, 1]) := by kernel_rfl
theorem g33er (env : Env) (st : St) : g33X (g33C []) g33kr env st = f33 (env 0) st := by
  rw [(g33seq g33nr (g33seq g33n1 (g33seq g33n11 (g33e111))))]
  kernel_rfl
theorem s33_eq (x0 : V) (st : St) : s33 [x0] st = fg (f33 x0 st) st := by
  have h : afn Try.prog g33mu g33T big (areg Try.prog g33mu g33T) 33 [x0] st = g33X (g33C []) g33kr (fun t => [x0].getD t (.tup [])) st := by kernel_rfl
  rw [s33, sealF_eq]
  show fg _ st = fg _ st
  refine congrArg (fun r => fg r st) ?_
  exact h.trans (g33er _ st)
/-! sinew/sinewref15.packet -/
def g34mu : Nat → Bool := fun _ => false
noncomputable def g34T : Tbl := tget [(33, s33)]
theorem g34t : SimT Try.prog g34T := simT_cons sim33 (simT_nil)
noncomputable def s34 : Fn := sealF (fun args st => fg (afn Try.prog g34mu g34T big (areg Try.prog g34mu g34T) 34 args st) st)
theorem sim34 : Sim Try.prog 34 s34 := (afn_sim g34t (fun m => areg_sound g34t hmix m) 34 (by kernel_rfl)).fg.sealed
noncomputable def f34 (x0 : V) (x1 : V) (st : St) : Res :=
 A.box x0 st fun a1 z2 =>
 A.faddr 0 a1 fun a3 =>
 A.load false 1 a3 z2 fun a4 _ =>
 A.faddr 1 a1 fun a5 =>
 A.load false 1 a5 z2 fun a6 _ =>
 A.faddr 2 a1 fun a7 =>
 A.load false 1 a7 z2 fun a8 _ =>
 A.bin .add a8 x1 fun a9 =>
 A.faddr 3 a1 fun a10 =>
 A.load false 1 a10 z2 fun a11 _ =>
 A.bslice 1 (.int .i64 0) 4 [(0, a4), (1, a6), (2, a9), (3, a11)] fun a12 =>
 A.faddr 4 a1 fun a13 =>
 A.load false 1 a13 z2 fun a14 _ =>
 A.iaddr 1 a14 x1 fun a15 =>
 A.load false 1 a15 z2 fun a16 _ =>
 A.bslice 1 (.str []) 1 [(0, a16)] fun a17 =>
 A.build [(.int .i64 0), (.lst [] 1), (.lst [] 1), (.lst [] 1)] [(0, 1, (.int .i64 1)), (1, 1, a12), (2, 1, a17)] fun a18 =>
 A.noP (A.ret (s33 [a18.er1] z2) kid) fun a19 z20 =>
 A.ext a19 0 fun a21 =>
 A.ext a19 1 fun a22 =>
 some (.ret a21.er1, z20)
theorem s34_eq (x0 : V) (x1 : V) (st : St) : s34 [x0, x1] st = fg (f34 x0 x1 st) st := by
  rw [s34, sealF_eq]
  show fg _ st = fg _ st
  refine congrArg (fun r => fg r st) ?_
  kernel_rfl
/-! sinew/sinewref15.Put -/
def g14mu : Nat → Bool := fun _ => false
noncomputable def g14T : Tbl := tget [(33, s33), (34, s34)]
theorem g14t : SimT Try.prog g14T := simT_cons sim33 ( simT_cons sim34 (simT_nil))
noncomputable def s14 : Fn := sealF (fun args st => fg (afn Try.prog g14mu g14T big (areg Try.prog g14mu g14T) 14 args st) st)
theorem sim14 : Sim Try.prog 14 s14 := (afn_sim g14t (fun m => areg_sound g14t hmix m) 14 (by kernel_rfl)).fg.sealed
noncomputable def g14C (p : List Nat) : Code := sub (match Try.f14.body with | some c => c | none => .skip) p
noncomputable def g14X (c : Code) (K : Kon) : Env → St → Res := aexec Try.prog g14mu g14T big 50 (areg Try.prog g14mu g14T 50) c K
noncomputable def g14kr : Kon := aresK Try.prog Try.f14.results.toList
theorem g14reg {c : Code} {K : Kon} {G : Env → St → Res} {id : Nat} {ops : Array Oper} {l1 l2 : List Nat} (hc : c = .region id ops false) (hl : List.range ops.size = l1 ++ l2) (h : (fun env st => aops Try.prog g14mu g14T 50 ops l2 env st (K .normal)) = G) : g14X c K = fun env st => aops Try.prog g14mu g14T 50 ops l1 env st G := reg_cut hc hl h
theorem g14seq {c x y : Code} {K : Kon} {G : Env → St → Res} (hc : c = .seq x y) (hy : g14X y K = G) : g14X c K = g14X x (kSeq G K) := seq_cut hc hy
theorem g14blk {c x : Code} {K : Kon} {i : Nat} (hc : c = .block i x) : g14X c K = g14X x (kBlk i K) := blk_cut hc
theorem g14loop {c x : Code} {K : Kon} (hc : c = .loop x) : g14X c K = aloop (g14X x) K big := loop_cut hc
theorem g14cond {c x y : Code} {K : Kon} {v : Operand} {F G : Env → St → Res} (hc : c = .cond v x y) (hx : g14X x K = F) (hy : g14X y K = G) : g14X c K = condF v F G := cond_cut hc hx hy
noncomputable def g14bz73 (x2 : V) (x4 : V) (st : St) : Res :=
 A.faddr 4 x2 fun a1 =>
 A.load false 1 a1 st fun a2 z3 =>
 A.lenL a2 fun a4 =>
 A.bin .gtr a4 (.int .i64 64) fun a5 =>
 A.cond a5
 (A.load true 5 x2 z3 fun a6 z7 =>
 A.store 5 x4 a6 z7 fun z8 =>
 A.res (rcell (A.load true 5 x4 z8 kid) (rtmp (.lst [] 1) (rtmp (.int .i64 0) (some [])))) z8)
 (A.load true 5 x2 z3 fun a9 _ =>
 A.load true 5 x2 z3 fun a10 _ =>
 A.faddr 4 x2 fun a11 =>
 A.load false 1 a11 z3 fun a12 _ =>
 A.lenL a12 fun a13 =>
 A.bin .sub a13 (.int .i64 1) fun a14 =>
 A.noP (A.ret (s34 [a10.er1, a14.er1] z3) kid) fun a15 z16 =>
 A.chk (ldv true 5 x2 z16) a9
 (A.bslice 1 (.str []) 1 [(0, a15)] fun a17 =>
 A.noP (A.store 5 x4 a9 z16 fun s => kid (.tup []) s) fun a18 z19 =>
 A.res (rcell (A.load true 5 x4 z19 kid) (rtmp a17 (rtmp (.int .i64 0) (some [])))) z19))
theorem g14ez73 : g14X (g14C [1, 1, 1, 1, 1, 1, 1]) (g14kr) = fun env st => g14bz73 (env 2) (env 4) st := by
  refine Eq.trans (Eq.refl (g14X (g14C [1, 1, 1, 1, 1, 1, 1]) (g14kr))) ?_
  funext env st
  kernel_rfl
noncomputable def g14b1111 (x2 : V) (x4 : V) (x7 : V) (st : St) : Res :=
 A.faddr 4 x2 fun a1 =>
 A.load false 1 a1 st fun a2 z3 =>
 A.app 1 (.lst [] 1) (elemsOf 5 1 a2 z3) z3 fun a4 z5 =>
 A.bslice 1 (.str []) 1 [(0, x7)] fun a6 =>
 A.app 1 a4 (elemsOf 5 1 a6 z5) z5 fun a7 z8 =>
 A.faddr 4 x2 fun a9 =>
 A.store 1 a9 a7 z8 fun z10 =>
 g14bz73 x2 x4 z10
theorem g14n1111 : g14C [1, 1, 1, 1] = .seq (g14C [1, 1, 1, 1, 0]) (g14C [1, 1, 1, 1, 1]) := by kernel_rfl
theorem g14n11111 : g14C [1, 1, 1, 1, 1] = .seq (g14C [1, 1, 1, 1, 1, 0]) (g14C [1, 1, 1, 1, 1, 1]) := by kernel_rfl
theorem g14nz3j : g14C [1, 1, 1, 1, 1, 1] = .seq (g14C [1, 1, 1, 1, 1, 1, 0]) (g14C [1, 1, 1, 1, 1, 1, 1]) := by kernel_rfl
theorem g14e1111 : g14X (g14C [1, 1, 1, 1]) (g14kr) = fun env st => g14b1111 (env 2) (env 4) (env 7) st := by
  refine Eq.trans (g14seq g14n1111 (g14seq g14n11111 (g14seq g14nz3j (g14ez73)))) ?_
  funext env st
  kernel_rfl
noncomputable def g14b111 (x2 : V) (x4 : V) (x7 : V) (st : St) : Res :=
 A.faddr 4 x2 fun a1 =>
 A.load false 1 a1 st fun a2 z3 =>
 A.lenL a2 fun a4 =>
 A.bin .geq a4 (.int .i64 4096) fun a5 =>
 A.cond a5
 (A.load true 5 x2 z3 fun a6 z7 =>
 A.store 5 x4 a6 z7 fun z8 =>
 A.res (rcell (A.load true 5 x4 z8 kid) (rtmp (.lst [] 1) (rtmp (.int .i64 2) (some [])))) z8)
 (g14b1111 x2 x4 x7 z3)
theorem g14n111 : g14C [1, 1, 1] = .seq (g14C [1, 1, 1, 0]) (g14C [1, 1, 1, 1]) := by kernel_rfl
theorem g14e111 : g14X (g14C [1, 1, 1]) (g14kr) = fun env st => g14b111 (env 2) (env 4) (env 7) st := by
  refine Eq.trans (g14seq g14n111 (g14e1111)) ?_
  funext env st
  kernel_rfl
noncomputable def g14k0 : Kon := kSeq (fun env st => g14b111 (env 2) (env 4) (env 7) st) (g14kr)
noncomputable def g14b1101 (x2 : V) (x4 : V) (x7 : V) (x21 : V) (st : St) : Res :=
 A.cond x21
 (A.load true 5 x2 st fun a1 z2 =>
 A.store 5 x4 a1 z2 fun z3 =>
 A.res (rcell (A.load true 5 x4 z3 kid) (rtmp (.lst [] 1) (rtmp (.int .i64 1) (some [])))) z3)
 (g14b111 x2 x4 x7 st)
theorem g14e1101 : g14X (g14C [1, 1, 0, 1]) (g14k0) = fun env st => g14b1101 (env 2) (env 4) (env 7) (env 21) st := by
  refine Eq.trans (Eq.refl (g14X (g14C [1, 1, 0, 1]) (g14k0))) ?_
  funext env st
  kernel_rfl
noncomputable def g14b11 (x2 : V) (x4 : V) (x7 : V) (x8 : V) (st : St) : Res :=
 A.eql 2 true x8 (.int .i64 0) fun a1 =>
 A.guard a1 false
 (A.lenS x7 fun a2 =>
 A.bin .gtr a2 (.int .i64 32768) fun a3 =>
 g14b1101 x2 x4 x7 a3 st)
 (g14b1101 x2 x4 x7 (.bool true) st)
theorem g14n11 : g14C [1, 1] = .seq (g14C [1, 1, 0]) (g14C [1, 1, 1]) := by kernel_rfl
theorem g14n110 : g14C [1, 1, 0] = .seq (g14C [1, 1, 0, 0]) (g14C [1, 1, 0, 1]) := by kernel_rfl
theorem g14e11 : g14X (g14C [1, 1]) (g14kr) = fun env st => g14b11 (env 2) (env 4) (env 7) (env 8) st := by
  refine Eq.trans ((g14seq g14n11 (g14e111)).trans (g14seq g14n110 (g14e1101))) ?_
  funext env st
  kernel_rfl
noncomputable def f14 (x0 : V) (x1 : V) (st : St) : Res :=
 A.box x0 st fun a1 z2 =>
 A.box x1 z2 fun a3 z4 =>
 A.box (.agg [(.int .i64 0), (.int .i64 0), (.int .i64 0), (.int .i64 0), (.lst [] 1)]) z4 fun a5 z6 =>
 A.load true 4 a3 z6 fun a7 z8 =>
 A.ret (s33 [a7.er1] z8) fun a9 z10 =>
 A.ext a9 0 fun a11 =>
 A.ext a9 1 fun a12 =>
 g14b11 a1 a5 a11 a12 z10
theorem g14nr : g14C [] = .seq (g14C [0]) (g14C [1]) := by kernel_rfl
theorem g14n1 : g14C [1] = .seq (g14C [1, 0]) (g14C [1, 1]) := by kernel_rfl
theorem g14er (env : Env) (st : St) : g14X (g14C []) g14kr env st = f14 (env 0) (env 1) st := by
  rw [(g14seq g14nr (g14seq g14n1 (g14e11)))]
  kernel_rfl
theorem s14_eq (x0 : V) (x1 : V) (st : St) : s14 [x0, x1] st = fg (f14 x0 x1 st) st := by
  have h : afn Try.prog g14mu g14T big (areg Try.prog g14mu g14T) 14 [x0, x1] st = g14X (g14C []) g14kr (fun t => [x0, x1].getD t (.tup [])) st := by kernel_rfl
  rw [s14, sealF_eq]
  show fg _ st = fg _ st
  refine congrArg (fun r => fg r st) ?_
  exact h.trans (g14er _ st)
/-! sinew/sinewref01.Same -/
def g15mu : Nat → Bool := fun _ => false
noncomputable def g15T : Tbl := tget []
theorem g15t : SimT Try.prog g15T := simT_nil
noncomputable def s15 : Fn := sealF (afn Try.prog g15mu g15T big (areg Try.prog g15mu g15T) 15)
theorem sim15 : Sim Try.prog 15 s15 := (afn_sim g15t (fun m => areg_sound g15t hmix m) 15 (by kernel_rfl)).sealed
noncomputable def g15C (p : List Nat) : Code := sub (match Try.f15.body with | some c => c | none => .skip) p
noncomputable def g15X (c : Code) (K : Kon) : Env → St → Res := aexec Try.prog g15mu g15T big 26 (areg Try.prog g15mu g15T 26) c K
noncomputable def g15kr : Kon := aresK Try.prog Try.f15.results.toList
theorem g15reg {c : Code} {K : Kon} {G : Env → St → Res} {id : Nat} {ops : Array Oper} {l1 l2 : List Nat} (hc : c = .region id ops false) (hl : List.range ops.size = l1 ++ l2) (h : (fun env st => aops Try.prog g15mu g15T 26 ops l2 env st (K .normal)) = G) : g15X c K = fun env st => aops Try.prog g15mu g15T 26 ops l1 env st G := reg_cut hc hl h
theorem g15seq {c x y : Code} {K : Kon} {G : Env → St → Res} (hc : c = .seq x y) (hy : g15X y K = G) : g15X c K = g15X x (kSeq G K) := seq_cut hc hy
theorem g15blk {c x : Code} {K : Kon} {i : Nat} (hc : c = .block i x) : g15X c K = g15X x (kBlk i K) := blk_cut hc
theorem g15loop {c x : Code} {K : Kon} (hc : c = .loop x) : g15X c K = aloop (g15X x) K big := loop_cut hc
theorem g15cond {c x y : Code} {K : Kon} {v : Operand} {F G : Env → St → Res} (hc : c = .cond v x y) (hx : g15X x K = F) (hy : g15X y K = G) : g15X c K = condF v F G := cond_cut hc hx hy
noncomputable def g15k0 : Kon := kSeq (g15X (g15C [1, 1, 1]) (g15kr)) (g15kr)
noncomputable def g15k1 : Kon := kBlk 0 (g15k0)
noncomputable def g15b11010 : Nat → V → V → V → St → Res
| 0, _, _, _, _ => none
| n + 1, x0, x1, x5, st =>
 A.lenL x0 fun a1 =>
 A.bin .lss x5 a1 fun a2 =>
 A.cond a2
 (A.iaddr 1 x0 x5 fun a3 =>
 A.load false 1 a3 st fun a4 _ =>
 A.iaddr 1 x1 x5 fun a5 =>
 A.load false 1 a5 st fun a6 _ =>
 A.eql 3 true a4 a6 fun a7 =>
 A.cond a7
 (some (.ret ((.bool false) : V).er1, st))
 (A.bin .add x5 (.int .i64 1) fun a8 =>
 (g15b11010 n) x0 x1 a8 st))
 (some (.ret ((.bool true) : V).er1, st))
theorem g15n11010 : g15C [1, 1, 0, 1, 0] = .loop (g15C [1, 1, 0, 1, 0, 0]) := by kernel_rfl
noncomputable def g15k2 (L11010 : V → V → V → St → Res) : Kon := kSeq (fun env st => L11010 (env 0) (env 1) (env 5) st) (g15k1)
theorem g15e11010 : g15X (g15C [1, 1, 0, 1, 0]) (g15k1) = fun env st => g15b11010 big (env 0) (env 1) (env 5) st := by
  have key : ∀ n, aloop (g15X (g15C [1, 1, 0, 1, 0, 0])) (g15k1) n = fun env st => g15b11010 n (env 0) (env 1) (env 5) st := by
    intro n
    induction n with
    | zero => rfl
    | succ n ih =>
      have h : aloop (g15X (g15C [1, 1, 0, 1, 0, 0])) (g15k1) (n + 1) = g15X (g15C [1, 1, 0, 1, 0, 0]) (kSeq (aloop (g15X (g15C [1, 1, 0, 1, 0, 0])) (g15k1) n) (g15k1)) := rfl
      rw [h, ih]
      refine Eq.trans (Eq.refl _) ?_
      funext env st
      kernel_rfl
  exact (g15loop g15n11010).trans (key big)
noncomputable def f15 (x0 : V) (x1 : V) (st : St) : Res :=
 A.lenL x0 fun a1 =>
 A.lenL x1 fun a2 =>
 A.eql 2 true a1 a2 fun a3 =>
 A.cond a3
 (some (.ret ((.bool false) : V).er1, st))
 (g15b11010 big x0 x1 (.int .i64 0) st)
theorem g15nr : g15C [] = .seq (g15C [0]) (g15C [1]) := by kernel_rfl
theorem g15n1 : g15C [1] = .seq (g15C [1, 0]) (g15C [1, 1]) := by kernel_rfl
theorem g15n11 : g15C [1, 1] = .seq (g15C [1, 1, 0]) (g15C [1, 1, 1]) := by kernel_rfl
theorem g15n110 : g15C [1, 1, 0] = .seq (g15C [1, 1, 0, 0]) (g15C [1, 1, 0, 1]) := by kernel_rfl
theorem g15n1101 : g15C [1, 1, 0, 1] = .block 0 (g15C [1, 1, 0, 1, 0]) := by kernel_rfl
theorem g15er (env : Env) (st : St) : g15X (g15C []) g15kr env st = f15 (env 0) (env 1) st := by
  rw [(g15seq g15nr (g15seq g15n1 ((g15seq g15n11 rfl).trans (g15seq g15n110 ((g15blk g15n1101).trans (g15e11010))))))]
  kernel_rfl
theorem s15_eq (x0 : V) (x1 : V) (st : St) : s15 [x0, x1] st = f15 x0 x1 st := by
  have h : afn Try.prog g15mu g15T big (areg Try.prog g15mu g15T) 15 [x0, x1] st = g15X (g15C []) g15kr (fun t => [x0, x1].getD t (.tup [])) st := by kernel_rfl
  rw [s15, sealF_eq]
  exact h.trans (g15er _ st)
/-! sinew/sinewref15.Tick -/
def g17mu : Nat → Bool := fun _ => false
noncomputable def g17T : Tbl := tget [(34, s34)]
theorem g17t : SimT Try.prog g17T := simT_cons sim34 (simT_nil)
noncomputable def s17 : Fn := sealF (fun args st => fg (afn Try.prog g17mu g17T big (areg Try.prog g17mu g17T) 17 args st) st)
theorem sim17 : Sim Try.prog 17 s17 := (afn_sim g17t (fun m => areg_sound g17t hmix m) 17 (by kernel_rfl)).fg.sealed
noncomputable def g17C (p : List Nat) : Code := sub (match Try.f17.body with | some c => c | none => .skip) p
noncomputable def g17X (c : Code) (K : Kon) : Env → St → Res := aexec Try.prog g17mu g17T big 23 (areg Try.prog g17mu g17T 23) c K
noncomputable def g17kr : Kon := aresK Try.prog Try.f17.results.toList
theorem g17reg {c : Code} {K : Kon} {G : Env → St → Res} {id : Nat} {ops : Array Oper} {l1 l2 : List Nat} (hc : c = .region id ops false) (hl : List.range ops.size = l1 ++ l2) (h : (fun env st => aops Try.prog g17mu g17T 23 ops l2 env st (K .normal)) = G) : g17X c K = fun env st => aops Try.prog g17mu g17T 23 ops l1 env st G := reg_cut hc hl h
theorem g17seq {c x y : Code} {K : Kon} {G : Env → St → Res} (hc : c = .seq x y) (hy : g17X y K = G) : g17X c K = g17X x (kSeq G K) := seq_cut hc hy
theorem g17blk {c x : Code} {K : Kon} {i : Nat} (hc : c = .block i x) : g17X c K = g17X x (kBlk i K) := blk_cut hc
theorem g17loop {c x : Code} {K : Kon} (hc : c = .loop x) : g17X c K = aloop (g17X x) K big := loop_cut hc
theorem g17cond {c x y : Code} {K : Kon} {v : Operand} {F G : Env → St → Res} (hc : c = .cond v x y) (hx : g17X x K = F) (hy : g17X y K = G) : g17X c K = condF v F G := cond_cut hc hx hy
noncomputable def g17k0 : Kon := kSeq (g17X (g17C [1, 1, 1]) (g17kr)) (g17kr)
noncomputable def g17k1 : Kon := kBlk 0 (g17k0)
noncomputable def g17k2 (L11010 : V → V → V → St → Res) : Kon := kSeq (fun env st => L11010 (env 1) (env 3) (env 4) st) (g17k1)
noncomputable def g17bz6h (L11010 : V → V → V → St → Res) (x1 : V) (x3 : V) (x4 : V) (st : St) : Res :=
 A.load true 5 x1 st fun a1 z2 =>
 A.ret (s34 [a1.er1, x4.er1] z2) fun a3 z4 =>
 A.bslice 1 (.str []) 1 [(0, a3)] fun a5 =>
 A.app 1 x3 (elemsOf 5 1 a5 z4) z4 fun a6 z7 =>
 A.bin .add x4 (.int .i64 1) fun a8 =>
 L11010 x1 a6 a8 z7
theorem g17ez6h (L11010 : V → V → V → St → Res) : g17X (g17C [1, 1, 0, 1, 0, 0, 1]) (g17k2 L11010) = fun env st => g17bz6h L11010 (env 1) (env 3) (env 4) st := by
  refine Eq.trans (Eq.refl (g17X (g17C [1, 1, 0, 1, 0, 0, 1]) (g17k2 L11010))) ?_
  funext env st
  kernel_rfl
noncomputable def g17b11010 : Nat → V → V → V → St → Res
| 0, _, _, _, _ => none
| n + 1, x1, x3, x4, st =>
 A.faddr 4 x1 fun a1 =>
 A.load false 1 a1 st fun a2 z3 =>
 A.lenL a2 fun a4 =>
 A.bin .lss x4 a4 fun a5 =>
 A.guard a5 true
 (A.bin .lss x4 (.int .i64 64) fun a6 =>
 A.cond a6
 (g17bz6h (g17b11010 n) x1 x3 x4 z3)
 (some (.ret x3.er1, z3)))
 (some (.ret x3.er1, z3))
theorem g17n11010 : g17C [1, 1, 0, 1, 0] = .loop (g17C [1, 1, 0, 1, 0, 0]) := by kernel_rfl
theorem g17nz38 : g17C [1, 1, 0, 1, 0, 0] = .seq (g17C [1, 1, 0, 1, 0, 0, 0]) (g17C [1, 1, 0, 1, 0, 0, 1]) := by kernel_rfl
theorem g17e11010 : g17X (g17C [1, 1, 0, 1, 0]) (g17k1) = fun env st => g17b11010 big (env 1) (env 3) (env 4) st := by
  have key : ∀ n, aloop (g17X (g17C [1, 1, 0, 1, 0, 0])) (g17k1) n = fun env st => g17b11010 n (env 1) (env 3) (env 4) st := by
    intro n
    induction n with
    | zero => rfl
    | succ n ih =>
      have h : aloop (g17X (g17C [1, 1, 0, 1, 0, 0])) (g17k1) (n + 1) = g17X (g17C [1, 1, 0, 1, 0, 0]) (kSeq (aloop (g17X (g17C [1, 1, 0, 1, 0, 0])) (g17k1) n) (g17k1)) := rfl
      rw [h, ih]
      refine Eq.trans (g17seq g17nz38 (g17ez6h (g17b11010 n))) ?_
      funext env st
      kernel_rfl
  exact (g17loop g17n11010).trans (key big)
noncomputable def f17 (x0 : V) (st : St) : Res :=
 A.box x0 st fun a1 z2 =>
 g17b11010 big a1 (.lst [] 1) (.int .i64 0) z2
theorem g17nr : g17C [] = .seq (g17C [0]) (g17C [1]) := by kernel_rfl
theorem g17n1 : g17C [1] = .seq (g17C [1, 0]) (g17C [1, 1]) := by kernel_rfl
theorem g17n11 : g17C [1, 1] = .seq (g17C [1, 1, 0]) (g17C [1, 1, 1]) := by kernel_rfl
theorem g17n110 : g17C [1, 1, 0] = .seq (g17C [1, 1, 0, 0]) (g17C [1, 1, 0, 1]) := by kernel_rfl
theorem g17n1101 : g17C [1, 1, 0, 1] = .block 0 (g17C [1, 1, 0, 1, 0]) := by kernel_rfl
theorem g17er (env : Env) (st : St) : g17X (g17C []) g17kr env st = f17 (env 0) st := by
  rw [(g17seq g17nr (g17seq g17n1 ((g17seq g17n11 rfl).trans (g17seq g17n110 ((g17blk g17n1101).trans (g17e11010))))))]
  kernel_rfl
theorem s17_eq (x0 : V) (st : St) : s17 [x0] st = fg (f17 x0 st) st := by
  have h : afn Try.prog g17mu g17T big (areg Try.prog g17mu g17T) 17 [x0] st = g17X (g17C []) g17kr (fun t => [x0].getD t (.tup [])) st := by kernel_rfl
  rw [s17, sealF_eq]
  show fg _ st = fg _ st
  refine congrArg (fun r => fg r st) ?_
  exact h.trans (g17er _ st)
/-! sinew/sinewlaw15.made -/
def g18mu : Nat → Bool := fun _ => false
noncomputable def g18T : Tbl := tget [(33, s33)]
theorem g18t : SimT Try.prog g18T := simT_cons sim33 (simT_nil)
noncomputable def s18 : Fn := sealF (fun args st => fg (afn Try.prog g18mu g18T big (areg Try.prog g18mu g18T) 18 args st) st)
theorem sim18 : Sim Try.prog 18 s18 := (afn_sim g18t (fun m => areg_sound g18t hmix m) 18 (by kernel_rfl)).fg.sealed
noncomputable def g18C (p : List Nat) : Code := sub (match Try.f18.body with | some c => c | none => .skip) p
noncomputable def g18X (c : Code) (K : Kon) : Env → St → Res := aexec Try.prog g18mu g18T big 56 (areg Try.prog g18mu g18T 56) c K
noncomputable def g18kr : Kon := aresK Try.prog Try.f18.results.toList
theorem g18reg {c : Code} {K : Kon} {G : Env → St → Res} {id : Nat} {ops : Array Oper} {l1 l2 : List Nat} (hc : c = .region id ops false) (hl : List.range ops.size = l1 ++ l2) (h : (fun env st => aops Try.prog g18mu g18T 56 ops l2 env st (K .normal)) = G) : g18X c K = fun env st => aops Try.prog g18mu g18T 56 ops l1 env st G := reg_cut hc hl h
theorem g18seq {c x y : Code} {K : Kon} {G : Env → St → Res} (hc : c = .seq x y) (hy : g18X y K = G) : g18X c K = g18X x (kSeq G K) := seq_cut hc hy
theorem g18blk {c x : Code} {K : Kon} {i : Nat} (hc : c = .block i x) : g18X c K = g18X x (kBlk i K) := blk_cut hc
theorem g18loop {c x : Code} {K : Kon} (hc : c = .loop x) : g18X c K = aloop (g18X x) K big := loop_cut hc
theorem g18cond {c x y : Code} {K : Kon} {v : Operand} {F G : Env → St → Res} (hc : c = .cond v x y) (hx : g18X x K = F) (hy : g18X y K = G) : g18X c K = condF v F G := cond_cut hc hx hy
noncomputable def g18b1111 (x3 : V) (st : St) : Res :=
 A.load true 4 x3 st fun a1 z2 =>
 A.ret (s33 [a1.er1] z2) fun a3 z4 =>
 A.ext a3 0 fun a5 =>
 A.ext a3 1 fun a6 =>
 some (.ret a5.er1, z4)
theorem g18e1111 : g18X (g18C [1, 1, 1, 1]) (g18kr) = fun env st => g18b1111 (env 3) st := by
  refine Eq.trans (Eq.refl (g18X (g18C [1, 1, 1, 1]) (g18kr))) ?_
  funext env st
  kernel_rfl
noncomputable def g18b111 (x1 : V) (x3 : V) (st : St) : Res :=
 A.faddr 0 x3 fun a1 =>
 A.load false 1 a1 st fun a2 z3 =>
 A.eql 2 false a2 (.int .i64 1) fun a4 =>
 A.cond a4
 (A.faddr 1 x1 fun a5 =>
 A.load true 4 a5 z3 fun a6 z7 =>
 A.ret (s33 [a6.er1] z7) fun a8 z9 =>
 A.ext a8 0 fun a10 =>
 A.ext a8 1 fun a11 =>
 A.bslice 1 (.str []) 1 [(0, a10)] fun a12 =>
 A.faddr 2 x3 fun a13 =>
 A.store 1 a13 a12 z9 fun z14 =>
 g18b1111 x3 z14)
 (g18b1111 x3 z3)
theorem g18n111 : g18C [1, 1, 1] = .seq (g18C [1, 1, 1, 0]) (g18C [1, 1, 1, 1]) := by kernel_rfl
theorem g18e111 : g18X (g18C [1, 1, 1]) (g18kr) = fun env st => g18b111 (env 1) (env 3) st := by
  refine Eq.trans (g18seq g18n111 (g18e1111)) ?_
  funext env st
  kernel_rfl
noncomputable def g18k0 : Kon := kSeq (fun env st => g18b111 (env 1) (env 3) st) (g18kr)
noncomputable def g18k1 : Kon := kBlk 0 (g18k0)
noncomputable def g18k2 (L11010 : V → V → V → St → Res) : Kon := kSeq (fun env st => L11010 (env 1) (env 3) (env 4) st) (g18k1)
noncomputable def g18k3 (L11010 : V → V → V → St → Res) : Kon := kSeq (g18X (g18C [1, 1, 0, 1, 0, 0, 1, 1]) (g18k2 L11010)) (g18k2 L11010)
noncomputable def g18k4 (L11010 : V → V → V → St → Res) : Kon := kBlk 1 (g18k3 L11010)
noncomputable def g18bz2vn (L11010 : V → V → V → St → Res) (x1 : V) (x3 : V) (x4 : V) (x5 : V) (st : St) : Res :=
 A.faddr 1 x3 fun a1 =>
 A.load false 1 a1 st fun a2 z3 =>
 A.bslice 1 (.int .i64 0) 1 [(0, x5)] fun a4 =>
 A.app 1 a2 (elemsOf 5 1 a4 z3) z3 fun a5 z6 =>
 A.faddr 1 x3 fun a7 =>
 A.store 1 a7 a5 z6 fun z8 =>
 A.bin .add x4 (.int .i64 1) fun a9 =>
 L11010 x1 x3 a9 z8
theorem g18ez2vn (L11010 : V → V → V → St → Res) : g18X (g18C [1, 1, 0, 1, 0, 0, 1, 0, 0, 1, 1]) (g18k4 L11010) = fun env st => g18bz2vn L11010 (env 1) (env 3) (env 4) (env 5) st := by
  refine Eq.trans (Eq.refl (g18X (g18C [1, 1, 0, 1, 0, 0, 1, 0, 0, 1, 1]) (g18k4 L11010))) ?_
  funext env st
  kernel_rfl
noncomputable def g18k5 (L11010 : V → V → V → St → Res) : Kon := kSeq (fun env st => g18bz2vn L11010 (env 1) (env 3) (env 4) (env 5) st) (g18k4 L11010)
noncomputable def g18bz5r9 (L11010 : V → V → V → St → Res) (x1 : V) (x3 : V) (x4 : V) (x5 : V) (x26 : V) (st : St) : Res :=
 A.cond x26
 (A.faddr 6 x1 fun a1 =>
 A.load false 1 a1 st fun a2 z3 =>
 A.iaddr 1 a2 x4 fun a4 =>
 A.load false 1 a4 z3 fun a5 z6 =>
 g18bz2vn L11010 x1 x3 x4 a5 z6)
 (g18bz2vn L11010 x1 x3 x4 x5 st)
theorem g18ez5r9 (L11010 : V → V → V → St → Res) : g18X (g18C [1, 1, 0, 1, 0, 0, 1, 0, 0, 1, 0, 1]) (g18k5 L11010) = fun env st => g18bz5r9 L11010 (env 1) (env 3) (env 4) (env 5) (env 26) st := by
  refine Eq.trans (Eq.refl (g18X (g18C [1, 1, 0, 1, 0, 0, 1, 0, 0, 1, 0, 1]) (g18k5 L11010))) ?_
  funext env st
  kernel_rfl
noncomputable def g18b11010 : Nat → V → V → V → St → Res
| 0, _, _, _, _ => none
| n + 1, x1, x3, x4, st =>
 A.faddr 0 x3 fun a1 =>
 A.load false 1 a1 st fun a2 z3 =>
 A.bin .sub (.int .i64 5) a2 fun a4 =>
 A.bin .lss x4 a4 fun a5 =>
 A.cond a5
 (A.faddr 6 x1 fun a6 =>
 A.load false 1 a6 z3 fun a7 z8 =>
 A.lenL a7 fun a9 =>
 A.bin .lss x4 a9 fun a10 =>
 g18bz5r9 (g18b11010 n) x1 x3 x4 (.int .i64 1) a10 z8)
 (g18b111 x1 x3 z3)
theorem g18n11010 : g18C [1, 1, 0, 1, 0] = .loop (g18C [1, 1, 0, 1, 0, 0]) := by kernel_rfl
theorem g18nz38 : g18C [1, 1, 0, 1, 0, 0] = .seq (g18C [1, 1, 0, 1, 0, 0, 0]) (g18C [1, 1, 0, 1, 0, 0, 1]) := by kernel_rfl
theorem g18nz6h : g18C [1, 1, 0, 1, 0, 0, 1] = .seq (g18C [1, 1, 0, 1, 0, 0, 1, 0]) (g18C [1, 1, 0, 1, 0, 0, 1, 1]) := by kernel_rfl
theorem g18nzcy : g18C [1, 1, 0, 1, 0, 0, 1, 0] = .block 1 (g18C [1, 1, 0, 1, 0, 0, 1, 0, 0]) := by kernel_rfl
theorem g18nzpw : g18C [1, 1, 0, 1, 0, 0, 1, 0, 0] = .seq (g18C [1, 1, 0, 1, 0, 0, 1, 0, 0, 0]) (g18C [1, 1, 0, 1, 0, 0, 1, 0, 0, 1]) := by kernel_rfl
theorem g18nz1ft : g18C [1, 1, 0, 1, 0, 0, 1, 0, 0, 1] = .seq (g18C [1, 1, 0, 1, 0, 0, 1, 0, 0, 1, 0]) (g18C [1, 1, 0, 1, 0, 0, 1, 0, 0, 1, 1]) := by kernel_rfl
theorem g18nz2vm : g18C [1, 1, 0, 1, 0, 0, 1, 0, 0, 1, 0] = .seq (g18C [1, 1, 0, 1, 0, 0, 1, 0, 0, 1, 0, 0]) (g18C [1, 1, 0, 1, 0, 0, 1, 0, 0, 1, 0, 1]) := by kernel_rfl
theorem g18e11010 : g18X (g18C [1, 1, 0, 1, 0]) (g18k1) = fun env st => g18b11010 big (env 1) (env 3) (env 4) st := by
  have key : ∀ n, aloop (g18X (g18C [1, 1, 0, 1, 0, 0])) (g18k1) n = fun env st => g18b11010 n (env 1) (env 3) (env 4) st := by
    intro n
    induction n with
    | zero => rfl
    | succ n ih =>
      have h : aloop (g18X (g18C [1, 1, 0, 1, 0, 0])) (g18k1) (n + 1) = g18X (g18C [1, 1, 0, 1, 0, 0]) (kSeq (aloop (g18X (g18C [1, 1, 0, 1, 0, 0])) (g18k1) n) (g18k1)) := rfl
      rw [h, ih]
      refine Eq.trans (g18seq g18nz38 ((g18seq g18nz6h rfl).trans ((g18blk g18nzcy).trans (g18seq g18nzpw ((g18seq g18nz1ft (g18ez2vn (g18b11010 n))).trans (g18seq g18nz2vm (g18ez5r9 (g18b11010 n)))))))) ?_
      funext env st
      kernel_rfl
  exact (g18loop g18n11010).trans (key big)
noncomputable def f18 (x0 : V) (st : St) : Res :=
 A.box x0 st fun a1 z2 =>
 A.faddr 7 a1 fun a3 =>
 A.load false 1 a3 z2 fun a4 z5 =>
 A.bin .and a4 (.int .i64 1) fun a6 =>
 A.bin .add (.int .i64 1) a6 fun a7 =>
 A.build [(.int .i64 0), (.lst [] 1), (.lst [] 1), (.lst [] 1)] [(0, 1, a7)] fun a8 =>
 A.box (.agg [(.int .i64 0), (.lst [] 1), (.lst [] 1), (.lst [] 1)]) z5 fun a9 z10 =>
 A.store 4 a9 a8 z10 fun z11 =>
 g18b11010 big a1 a9 (.int .i64 0) z11
theorem g18nr : g18C [] = .seq (g18C [0]) (g18C [1]) := by kernel_rfl
theorem g18n1 : g18C [1] = .seq (g18C [1, 0]) (g18C [1, 1]) := by kernel_rfl
theorem g18n11 : g18C [1, 1] = .seq (g18C [1, 1, 0]) (g18C [1, 1, 1]) := by kernel_rfl
theorem g18n110 : g18C [1, 1, 0] = .seq (g18C [1, 1, 0, 0]) (g18C [1, 1, 0, 1]) := by kernel_rfl
theorem g18n1101 : g18C [1, 1, 0, 1] = .block 0 (g18C [1, 1, 0, 1, 0]) := by kernel_rfl
theorem g18er (env : Env) (st : St) : g18X (g18C []) g18kr env st = f18 (env 0) st := by
  rw [(g18seq g18nr (g18seq g18n1 ((g18seq g18n11 (g18e111)).trans (g18seq g18n110 ((g18blk g18n1101).trans (g18e11010))))))]
  kernel_rfl
theorem s18_eq (x0 : V) (st : St) : s18 [x0] st = fg (f18 x0 st) st := by
  have h : afn Try.prog g18mu g18T big (areg Try.prog g18mu g18T) 18 [x0] st = g18X (g18C []) g18kr (fun t => [x0].getD t (.tup [])) st := by kernel_rfl
  rw [s18, sealF_eq]
  show fg _ st = fg _ st
  refine congrArg (fun r => fg r st) ?_
  exact h.trans (g18er _ st)
/-! sinew/sinewref03.number -/
def g65mu : Nat → Bool := fun _ => false
noncomputable def g65T : Tbl := tget []
theorem g65t : SimT Try.prog g65T := simT_nil
noncomputable def s65 : Fn := sealF (afn Try.prog g65mu g65T big (areg Try.prog g65mu g65T) 65)
theorem sim65 : Sim Try.prog 65 s65 := (afn_sim g65t (fun m => areg_sound g65t hmix m) 65 (by kernel_rfl)).sealed
noncomputable def f65 (x0 : V) (st : St) : Res :=
 A.idxS x0 (.int .i64 0) fun a1 =>
 A.toInt .i64 a1 fun a2 =>
 A.bin .shl a2 (.int .u64 24) fun a3 =>
 A.idxS x0 (.int .i64 1) fun a4 =>
 A.toInt .i64 a4 fun a5 =>
 A.bin .shl a5 (.int .u64 16) fun a6 =>
 A.bin .or a3 a6 fun a7 =>
 A.idxS x0 (.int .i64 2) fun a8 =>
 A.toInt .i64 a8 fun a9 =>
 A.bin .shl a9 (.int .u64 8) fun a10 =>
 A.bin .or a7 a10 fun a11 =>
 A.idxS x0 (.int .i64 3) fun a12 =>
 A.toInt .i64 a12 fun a13 =>
 A.bin .or a11 a13 fun a14 =>
 some (.ret a14.er1, st)
theorem s65_eq (x0 : V) (st : St) : s65 [x0] st = f65 x0 st := by
  rw [s65, sealF_eq]
  kernel_rfl
/-! sinew/sinewref01.Num -/
def g77mu : Nat → Bool := fun _ => false
noncomputable def g77T : Tbl := tget []
theorem g77t : SimT Try.prog g77T := simT_nil
noncomputable def s77 : Fn := sealF (afn Try.prog g77mu g77T big (areg Try.prog g77mu g77T) 77)
theorem sim77 : Sim Try.prog 77 s77 := (afn_sim g77t (fun m => areg_sound g77t hmix m) 77 (by kernel_rfl)).sealed
noncomputable def g77C (p : List Nat) : Code := sub (match Try.f77.body with | some c => c | none => .skip) p
noncomputable def g77X (c : Code) (K : Kon) : Env → St → Res := aexec Try.prog g77mu g77T big 52 (areg Try.prog g77mu g77T 52) c K
noncomputable def g77kr : Kon := aresK Try.prog Try.f77.results.toList
theorem g77reg {c : Code} {K : Kon} {G : Env → St → Res} {id : Nat} {ops : Array Oper} {l1 l2 : List Nat} (hc : c = .region id ops false) (hl : List.range ops.size = l1 ++ l2) (h : (fun env st => aops Try.prog g77mu g77T 52 ops l2 env st (K .normal)) = G) : g77X c K = fun env st => aops Try.prog g77mu g77T 52 ops l1 env st G := reg_cut hc hl h
theorem g77seq {c x y : Code} {K : Kon} {G : Env → St → Res} (hc : c = .seq x y) (hy : g77X y K = G) : g77X c K = g77X x (kSeq G K) := seq_cut hc hy
theorem g77blk {c x : Code} {K : Kon} {i : Nat} (hc : c = .block i x) : g77X c K = g77X x (kBlk i K) := blk_cut hc
theorem g77loop {c x : Code} {K : Kon} (hc : c = .loop x) : g77X c K = aloop (g77X x) K big := loop_cut hc
theorem g77cond {c x y : Code} {K : Kon} {v : Operand} {F G : Env → St → Res} (hc : c = .cond v x y) (hx : g77X x K = F) (hy : g77X y K = G) : g77X c K = condF v F G := cond_cut hc hx hy
noncomputable def g77k0 : Kon := kSeq (g77X (g77C [1, 1, 1, 1, 1, 1, 1, 1]) (g77kr)) (g77kr)
noncomputable def g77k1 : Kon := kBlk 0 (g77k0)
noncomputable def g77bz1kq : Nat → V → V → V → V → St → Res
| 0, _, _, _, _, _ => none
| n + 1, x0, x5, x6, x7, st =>
 A.bin .leq x7 x5 fun a1 =>
 A.cond a1
 (A.bin .mul x6 (.int .i64 256) fun a2 =>
 A.idxS x0 x7 fun a3 =>
 A.toInt .i64 a3 fun a4 =>
 A.bin .add a2 a4 fun a5 =>
 A.bin .add x7 (.int .i64 1) fun a6 =>
 (g77bz1kq n) x0 x5 a5 a6 st)
 (A.bin .add x5 (.int .i64 1) fun a7 =>
 some (.ret (.tup [x6.er1, a7.er1, ((.int .i64 0) : V).er1]), st))
theorem g77nz1kq : g77C [1, 1, 1, 1, 1, 1, 1, 0, 1, 0] = .loop (g77C [1, 1, 1, 1, 1, 1, 1, 0, 1, 0, 0]) := by kernel_rfl
noncomputable def g77k2 (Lz1kq : V → V → V → V → St → Res) : Kon := kSeq (fun env st => Lz1kq (env 0) (env 5) (env 6) (env 7) st) (g77k1)
theorem g77ez1kq : g77X (g77C [1, 1, 1, 1, 1, 1, 1, 0, 1, 0]) (g77k1) = fun env st => g77bz1kq big (env 0) (env 5) (env 6) (env 7) st := by
  have key : ∀ n, aloop (g77X (g77C [1, 1, 1, 1, 1, 1, 1, 0, 1, 0, 0])) (g77k1) n = fun env st => g77bz1kq n (env 0) (env 5) (env 6) (env 7) st := by
    intro n
    induction n with
    | zero => rfl
    | succ n ih =>
      have h : aloop (g77X (g77C [1, 1, 1, 1, 1, 1, 1, 0, 1, 0, 0])) (g77k1) (n + 1) = g77X (g77C [1, 1, 1, 1, 1, 1, 1, 0, 1, 0, 0]) (kSeq (aloop (g77X (g77C [1, 1, 1, 1, 1, 1, 1, 0, 1, 0, 0])) (g77k1) n) (g77k1)) := rfl
      rw [h, ih]
      refine Eq.trans (Eq.refl _) ?_
      funext env st
      kernel_rfl
  exact (g77loop g77nz1kq).trans (key big)
noncomputable def g77bz3j (x0 : V) (x5 : V) (st : St) : Res :=
 g77bz1kq big x0 x5 (.int .i64 0) (.int .i64 1) st
theorem g77nz3j : g77C [1, 1, 1, 1, 1, 1] = .seq (g77C [1, 1, 1, 1, 1, 1, 0]) (g77C [1, 1, 1, 1, 1, 1, 1]) := by kernel_rfl
theorem g77nz73 : g77C [1, 1, 1, 1, 1, 1, 1] = .seq (g77C [1, 1, 1, 1, 1, 1, 1, 0]) (g77C [1, 1, 1, 1, 1, 1, 1, 1]) := by kernel_rfl
theorem g77nze6 : g77C [1, 1, 1, 1, 1, 1, 1, 0] = .seq (g77C [1, 1, 1, 1, 1, 1, 1, 0, 0]) (g77C [1, 1, 1, 1, 1, 1, 1, 0, 1]) := by kernel_rfl
theorem g77nzsd : g77C [1, 1, 1, 1, 1, 1, 1, 0, 1] = .block 0 (g77C [1, 1, 1, 1, 1, 1, 1, 0, 1, 0]) := by kernel_rfl
theorem g77ez3j : g77X (g77C [1, 1, 1, 1, 1, 1]) (g77kr) = fun env st => g77bz3j (env 0) (env 5) st := by
  refine Eq.trans (g77seq g77nz3j ((g77seq g77nz73 rfl).trans (g77seq g77nze6 ((g77blk g77nzsd).trans (g77ez1kq))))) ?_
  funext env st
  kernel_rfl
noncomputable def g77k3 : Kon := kSeq (fun env st => g77bz3j (env 0) (env 5) st) (g77kr)
noncomputable def g77k4 : Kon := kSeq (g77X (g77C [1, 1, 1, 1, 1, 0, 1]) (g77k3)) (g77k3)
noncomputable def g77bz70_8 (x0 : V) (x5 : V) (x28 : V) (st : St) : Res :=
 A.guard x28 false
 (A.eql 2 false x5 (.int .i64 8) fun a1 =>
 A.guardT a1 true
 (A.idxS x0 (.int .i64 1) fun a2 =>
 A.bin .gtr a2 (.int .u8 127) fun a3 =>
 A.cond a3
 (some (.ret (.tup [((.int .i64 0) : V).er1, ((.int .i64 0) : V).er1, ((.int .i64 10) : V).er1]), st))
 (g77bz3j x0 x5 st))
 (g77bz3j x0 x5 st)
 (A.guardT a1 true
 (A.idxS (.tup []) (.int .i64 1) fun a4 =>
 A.bin .gtr a4 (.int .u8 127) fun a5 =>
 A.cond a5
 (some (.ret (.tup [((.int .i64 0) : V).er1, ((.int .i64 0) : V).er1, ((.int .i64 10) : V).er1]), st))
 (g77bz3j x0 x5 st))
 (g77bz3j x0 x5 st)
 (A.guardT a1 true
 (A.bin .gtr (.tup []) (.int .u8 127) fun a6 =>
 A.cond a6
 (some (.ret (.tup [((.int .i64 0) : V).er1, ((.int .i64 0) : V).er1, ((.int .i64 10) : V).er1]), st))
 (g77bz3j x0 x5 st))
 (g77bz3j x0 x5 st)
 (A.pick a1 (.tup []) (.bool false) fun a7 =>
 A.cond a7
 (some (.ret (.tup [((.int .i64 0) : V).er1, ((.int .i64 0) : V).er1, ((.int .i64 10) : V).er1]), st))
 (g77bz3j x0 x5 st)))))
 (some (.ret (.tup [((.int .i64 0) : V).er1, ((.int .i64 0) : V).er1, ((.int .i64 10) : V).er1]), st))
theorem g77ez70_8 : (fun env st => aops Try.prog g77mu g77T 52 (rops (g77C [1, 1, 1, 1, 1, 0, 0])) [8, 9, 10, 11, 12, 13, 14, 15] env st ((g77k4) .normal)) = fun env st => g77bz70_8 (env 0) (env 5) (env 28) st := by
  refine Eq.trans (Eq.refl _) ?_
  funext env st
  kernel_rfl
noncomputable def g77b11111 (x0 : V) (x5 : V) (st : St) : Res :=
 A.bin .gtr x5 (.int .i64 0) fun a1 =>
 A.guard a1 true
 (A.idxS x0 (.int .i64 1) fun a2 =>
 A.eql 2 false a2 (.int .u8 0) fun a3 =>
 g77bz70_8 x0 x5 a3 st)
 (g77bz70_8 x0 x5 (.bool false) st)
theorem g77n11111 : g77C [1, 1, 1, 1, 1] = .seq (g77C [1, 1, 1, 1, 1, 0]) (g77C [1, 1, 1, 1, 1, 1]) := by kernel_rfl
theorem g77nz3i : g77C [1, 1, 1, 1, 1, 0] = .seq (g77C [1, 1, 1, 1, 1, 0, 0]) (g77C [1, 1, 1, 1, 1, 0, 1]) := by kernel_rfl
theorem g77rgz70 : g77C [1, 1, 1, 1, 1, 0, 0] = .region 8 (rops (g77C [1, 1, 1, 1, 1, 0, 0])) false := by kernel_rfl
theorem g77rgz70l : List.range (rops (g77C [1, 1, 1, 1, 1, 0, 0])).size = [0, 1, 2, 3, 4, 5, 6, 7] ++ [8, 9, 10, 11, 12, 13, 14, 15] := by kernel_rfl
theorem g77e11111 : g77X (g77C [1, 1, 1, 1, 1]) (g77kr) = fun env st => g77b11111 (env 0) (env 5) st := by
  refine Eq.trans ((g77seq g77n11111 (g77ez3j)).trans ((g77seq g77nz3i rfl).trans (g77reg g77rgz70 g77rgz70l (g77ez70_8)))) ?_
  funext env st
  kernel_rfl
noncomputable def g77b111 (x0 : V) (x5 : V) (st : St) : Res :=
 A.bin .gtr x5 (.int .i64 8) fun a1 =>
 A.cond a1
 (some (.ret (.tup [((.int .i64 0) : V).er1, ((.int .i64 0) : V).er1, ((.int .i64 10) : V).er1]), st))
 (A.lenS x0 fun a2 =>
 A.bin .sub a2 (.int .i64 1) fun a3 =>
 A.bin .lss a3 x5 fun a4 =>
 A.cond a4
 (some (.ret (.tup [((.int .i64 0) : V).er1, ((.int .i64 0) : V).er1, ((.int .i64 11) : V).er1]), st))
 (g77b11111 x0 x5 st))
theorem g77n111 : g77C [1, 1, 1] = .seq (g77C [1, 1, 1, 0]) (g77C [1, 1, 1, 1]) := by kernel_rfl
theorem g77n1111 : g77C [1, 1, 1, 1] = .seq (g77C [1, 1, 1, 1, 0]) (g77C [1, 1, 1, 1, 1]) := by kernel_rfl
theorem g77e111 : g77X (g77C [1, 1, 1]) (g77kr) = fun env st => g77b111 (env 0) (env 5) st := by
  refine Eq.trans (g77seq g77n111 (g77seq g77n1111 (g77e11111))) ?_
  funext env st
  kernel_rfl
noncomputable def f77 (x0 : V) (st : St) : Res :=
 A.lenS x0 fun a1 =>
 A.eql 2 false a1 (.int .i64 0) fun a2 =>
 A.cond a2
 (some (.ret (.tup [((.int .i64 0) : V).er1, ((.int .i64 0) : V).er1, ((.int .i64 11) : V).er1]), st))
 (A.idxS x0 (.int .i64 0) fun a3 =>
 A.toInt .i64 a3 fun a4 =>
 g77b111 x0 a4 st)
theorem g77nr : g77C [] = .seq (g77C [0]) (g77C [1]) := by kernel_rfl
theorem g77n1 : g77C [1] = .seq (g77C [1, 0]) (g77C [1, 1]) := by kernel_rfl
theorem g77n11 : g77C [1, 1] = .seq (g77C [1, 1, 0]) (g77C [1, 1, 1]) := by kernel_rfl
theorem g77er (env : Env) (st : St) : g77X (g77C []) g77kr env st = f77 (env 0) st := by
  rw [(g77seq g77nr (g77seq g77n1 (g77seq g77n11 (g77e111))))]
  kernel_rfl
theorem s77_eq (x0 : V) (st : St) : s77 [x0] st = f77 x0 st := by
  have h : afn Try.prog g77mu g77T big (areg Try.prog g77mu g77T) 77 [x0] st = g77X (g77C []) g77kr (fun t => [x0].getD t (.tup [])) st := by kernel_rfl
  rw [s77, sealF_eq]
  exact h.trans (g77er _ st)
/-! sinew/sinewref01.Str -/
def g86mu : Nat → Bool := fun _ => false
noncomputable def g86T : Tbl := tget [(77, s77)]
theorem g86t : SimT Try.prog g86T := simT_cons sim77 (simT_nil)
noncomputable def s86 : Fn := sealF (afn Try.prog g86mu g86T big (areg Try.prog g86mu g86T) 86)
theorem sim86 : Sim Try.prog 86 s86 := (afn_sim g86t (fun m => areg_sound g86t hmix m) 86 (by kernel_rfl)).sealed
noncomputable def g86C (p : List Nat) : Code := sub (match Try.f86.body with | some c => c | none => .skip) p
noncomputable def g86X (c : Code) (K : Kon) : Env → St → Res := aexec Try.prog g86mu g86T big 34 (areg Try.prog g86mu g86T 34) c K
noncomputable def g86kr : Kon := aresK Try.prog Try.f86.results.toList
theorem g86reg {c : Code} {K : Kon} {G : Env → St → Res} {id : Nat} {ops : Array Oper} {l1 l2 : List Nat} (hc : c = .region id ops false) (hl : List.range ops.size = l1 ++ l2) (h : (fun env st => aops Try.prog g86mu g86T 34 ops l2 env st (K .normal)) = G) : g86X c K = fun env st => aops Try.prog g86mu g86T 34 ops l1 env st G := reg_cut hc hl h
theorem g86seq {c x y : Code} {K : Kon} {G : Env → St → Res} (hc : c = .seq x y) (hy : g86X y K = G) : g86X c K = g86X x (kSeq G K) := seq_cut hc hy
theorem g86blk {c x : Code} {K : Kon} {i : Nat} (hc : c = .block i x) : g86X c K = g86X x (kBlk i K) := blk_cut hc
theorem g86loop {c x : Code} {K : Kon} (hc : c = .loop x) : g86X c K = aloop (g86X x) K big := loop_cut hc
theorem g86cond {c x y : Code} {K : Kon} {v : Operand} {F G : Env → St → Res} (hc : c = .cond v x y) (hx : g86X x K = F) (hy : g86X y K = G) : g86X c K = condF v F G := cond_cut hc hx hy
noncomputable def g86b1111 (x0 : V) (x5 : V) (x6 : V) (st : St) : Res :=
 A.lenS x0 fun a1 =>
 A.bin .sub a1 x6 fun a2 =>
 A.bin .gtr x5 a2 fun a3 =>
 A.cond a3
 (some (.ret (.tup [((.str []) : V).er1, ((.int .i64 0) : V).er1, ((.int .i64 11) : V).er1]), st))
 (A.bin .add x6 x5 fun a4 =>
 A.sliceS x0 (some x6) (some a4) fun a5 =>
 A.bin .add x6 x5 fun a6 =>
 some (.ret (.tup [a5.er1, a6.er1, ((.int .i64 0) : V).er1]), st))
theorem g86e1111 : g86X (g86C [1, 1, 1, 1]) (g86kr) = fun env st => g86b1111 (env 0) (env 5) (env 6) st := by
  refine Eq.trans (Eq.refl (g86X (g86C [1, 1, 1, 1]) (g86kr))) ?_
  funext env st
  kernel_rfl
noncomputable def g86b11 (x0 : V) (x5 : V) (x6 : V) (x7 : V) (st : St) : Res :=
 A.eql 2 true x7 (.int .i64 0) fun a1 =>
 A.cond a1
 (some (.ret (.tup [((.str []) : V).er1, ((.int .i64 0) : V).er1, x7.er1]), st))
 (A.bin .gtr x5 (.int .i64 65536) fun a2 =>
 A.cond a2
 (some (.ret (.tup [((.str []) : V).er1, ((.int .i64 0) : V).er1, ((.int .i64 12) : V).er1]), st))
 (g86b1111 x0 x5 x6 st))
theorem g86n11 : g86C [1, 1] = .seq (g86C [1, 1, 0]) (g86C [1, 1, 1]) := by kernel_rfl
theorem g86n111 : g86C [1, 1, 1] = .seq (g86C [1, 1, 1, 0]) (g86C [1, 1, 1, 1]) := by kernel_rfl
theorem g86e11 : g86X (g86C [1, 1]) (g86kr) = fun env st => g86b11 (env 0) (env 5) (env 6) (env 7) st := by
  refine Eq.trans (g86seq g86n11 (g86seq g86n111 (g86e1111))) ?_
  funext env st
  kernel_rfl
noncomputable def f86 (x0 : V) (st : St) : Res :=
 A.ret (s77 [x0.er1] st) fun a1 z2 =>
 A.ext a1 0 fun a3 =>
 A.ext a1 1 fun a4 =>
 A.ext a1 2 fun a5 =>
 g86b11 x0 a3 a4 a5 z2
theorem g86nr : g86C [] = .seq (g86C [0]) (g86C [1]) := by kernel_rfl
theorem g86n1 : g86C [1] = .seq (g86C [1, 0]) (g86C [1, 1]) := by kernel_rfl
theorem g86er (env : Env) (st : St) : g86X (g86C []) g86kr env st = f86 (env 0) st := by
  rw [(g86seq g86nr (g86seq g86n1 (g86e11)))]
  kernel_rfl
theorem s86_eq (x0 : V) (st : St) : s86 [x0] st = f86 x0 st := by
  have h : afn Try.prog g86mu g86T big (areg Try.prog g86mu g86T) 86 [x0] st = g86X (g86C []) g86kr (fun t => [x0].getD t (.tup [])) st := by kernel_rfl
  rw [s86, sealF_eq]
  exact h.trans (g86er _ st)
end Go.Ab
