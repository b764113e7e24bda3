import Derived.Test.YtjmkmfolpimieaaAbQuiet
import Derived.Test.YtjmkmfolpimieaaAbP160
namespace Go.Ab
open Go.Proofs
set_option linter.unusedVariables false
set_option maxRecDepth 100000
/-! sinew/sinewref16.New -/
def g14mu : Nat → Bool := fun _ => false
noncomputable def g14T : Tbl := tget []
theorem g14t : SimT Try.prog g14T := simT_nil
noncomputable def s14 : Fn := sealF (afn Try.prog g14mu g14T big (areg Try.prog g14mu g14T) 14)
theorem sim14 : Sim Try.prog 14 s14 := (afn_sim g14t (fun m => areg_sound g14t hmix m) 14 (by kernel_rfl)).sealed
noncomputable def f14 (x0 : V) (st : St) : Res :=
 A.box (.agg [(.int .i64 0), (.int .i64 0), (.lst [] 1)]) st fun a1 z2 =>
 A.bin .lss x0 (.int .i64 1) fun a3 =>
 A.guard a3 false
 (A.bin .gtr x0 (.int .i64 65) fun a4 =>
 A.cond a4
 (A.build [(.int .i64 0), (.int .i64 0), (.lst [] 1)] [] fun a5 =>
 A.store 3 a1 a5 z2 fun z6 =>
 A.res (rcell (A.load true 3 a1 z6 kid) (rtmp (.int .i64 1) (some []))) z6)
 (A.build [(.int .i64 0), (.int .i64 0), (.lst [] 1)] [(0, 1, x0)] fun a7 =>
 A.store 3 a1 a7 z2 fun z8 =>
 A.res (rcell (A.load true 3 a1 z8 kid) (rtmp (.int .i64 0) (some []))) z8))
 (A.build [(.int .i64 0), (.int .i64 0), (.lst [] 1)] [] fun a9 =>
 A.store 3 a1 a9 z2 fun z10 =>
 A.res (rcell (A.load true 3 a1 z10 kid) (rtmp (.int .i64 1) (some []))) z10)
theorem s14_eq (x0 : V) (st : St) : s14 [x0] st = f14 x0 st := by
  rw [s14, sealF_eq]
  kernel_rfl
/-! sinew/sinewref16.Send -/
def g15mu : Nat → Bool := fun _ => false
noncomputable def g15T : Tbl := tget []
theorem g15t : SimT Try.prog g15T := simT_nil
noncomputable def s15 : Fn := sealF (afn Try.prog g15mu g15T big (areg Try.prog g15mu g15T) 15)
theorem sim15 : Sim Try.prog 15 s15 := (afn_sim g15t (fun m => areg_sound g15t hmix m) 15 (by kernel_rfl)).sealed
noncomputable def g15C (p : List Nat) : Code := sub (match Try.f15.body with | some c => c | none => .skip) p
noncomputable def g15X (c : Code) (K : Kon) : Env → St → Res := aexec Try.prog g15mu g15T big 62 (areg Try.prog g15mu g15T 62) c K
noncomputable def g15kr : Kon := aresK Try.prog Try.f15.results.toList
theorem g15reg {c : Code} {K : Kon} {G : Env → St → Res} {id : Nat} {ops : Array Oper} {l1 l2 : List Nat} (hc : c = .region id ops false) (hl : List.range ops.size = l1 ++ l2) (h : (fun env st => aops Try.prog g15mu g15T 62 ops l2 env st (K .normal)) = G) : g15X c K = fun env st => aops Try.prog g15mu g15T 62 ops l1 env st G := reg_cut hc hl h
theorem g15seq {c x y : Code} {K : Kon} {G : Env → St → Res} (hc : c = .seq x y) (hy : g15X y K = G) : g15X c K = g15X x (kSeq G K) := seq_cut hc hy
theorem g15blk {c x : Code} {K : Kon} {i : Nat} (hc : c = .block i x) : g15X c K = g15X x (kBlk i K) := blk_cut hc
theorem g15loop {c x : Code} {K : Kon} (hc : c = .loop x) : g15X c K = aloop (g15X x) K big := loop_cut hc
theorem g15cond {c x y : Code} {K : Kon} {v : Operand} {F G : Env → St → Res} (hc : c = .cond v x y) (hx : g15X x K = F) (hy : g15X y K = G) : g15X c K = condF v F G := cond_cut hc hx hy
noncomputable def g15b1111111 (x4 : V) (x8 : V) (st : St) : Res :=
 A.load true 3 x4 st fun a1 _ =>
 A.faddr 1 x4 fun a2 =>
 A.load false 1 a2 st fun a3 _ =>
 A.noP (A.store 3 x8 a1 st fun s => kid (.tup []) s) fun a4 z5 =>
 A.chk (ldv false 1 a2 z5) a3
 (A.res (rcell (A.load true 3 x8 z5 kid) (rtmp a3 (rtmp (.int .i64 0) (some [])))) z5)
theorem g15e1111111 : g15X (g15C [1, 1, 1, 1, 1, 1, 1]) (g15kr) = fun env st => g15b1111111 (env 4) (env 8) st := by
  refine Eq.trans (Eq.refl (g15X (g15C [1, 1, 1, 1, 1, 1, 1]) (g15kr))) ?_
  funext env st
  kernel_rfl
noncomputable def g15b111111 (x1 : V) (x2 : V) (x3 : V) (x4 : V) (x8 : V) (x11 : V) (st : St) : Res :=
 A.faddr 1 x4 fun a1 =>
 A.load false 1 a1 st fun a2 z3 =>
 A.build [(.int .i64 0), (.int .i64 0), (.int .i64 0), (.str [])] [(0, 1, a2), (1, 1, x1), (2, 1, x2), (3, 1, x3)] fun a4 =>
 A.bslice 4 (.agg [(.int .i64 0), (.int .i64 0), (.int .i64 0), (.str [])]) 1 [(0, a4)] fun a5 =>
 A.app 4 x11 (elemsOf 5 4 a5 z3) z3 fun a6 z7 =>
 A.faddr 2 x4 fun a8 =>
 A.store 1 a8 a6 z7 fun z9 =>
 g15b1111111 x4 x8 z9
theorem g15n111111 : g15C [1, 1, 1, 1, 1, 1] = .seq (g15C [1, 1, 1, 1, 1, 1, 0]) (g15C [1, 1, 1, 1, 1, 1, 1]) := by kernel_rfl
theorem g15e111111 : g15X (g15C [1, 1, 1, 1, 1, 1]) (g15kr) = fun env st => g15b111111 (env 1) (env 2) (env 3) (env 4) (env 8) (env 11) st := by
  refine Eq.trans (g15seq g15n111111 (g15e1111111)) ?_
  funext env st
  kernel_rfl
noncomputable def g15b111 (x1 : V) (x2 : V) (x3 : V) (x4 : V) (x8 : V) (st : St) : Res :=
 A.faddr 1 x4 fun a1 =>
 A.load false 1 a1 st fun a2 z3 =>
 A.bin .add a2 (.int .i64 1) fun a4 =>
 A.faddr 1 x4 fun a5 =>
 A.store 1 a5 a4 z3 fun z6 =>
 A.faddr 2 x4 fun a7 =>
 A.load false 1 a7 z6 fun a8 z9 =>
 A.app 4 (.lst [] 1) (elemsOf 5 4 a8 z9) z9 fun a10 z11 =>
 g15b111111 x1 x2 x3 x4 x8 a10 z11
theorem g15n111 : g15C [1, 1, 1] = .seq (g15C [1, 1, 1, 0]) (g15C [1, 1, 1, 1]) := by kernel_rfl
theorem g15n1111 : g15C [1, 1, 1, 1] = .seq (g15C [1, 1, 1, 1, 0]) (g15C [1, 1, 1, 1, 1]) := by kernel_rfl
theorem g15n11111 : g15C [1, 1, 1, 1, 1] = .seq (g15C [1, 1, 1, 1, 1, 0]) (g15C [1, 1, 1, 1, 1, 1]) := by kernel_rfl
theorem g15e111 : g15X (g15C [1, 1, 1]) (g15kr) = fun env st => g15b111 (env 1) (env 2) (env 3) (env 4) (env 8) st := by
  refine Eq.trans (g15seq g15n111 (g15seq g15n1111 (g15seq g15n11111 (g15e111111)))) ?_
  funext env st
  kernel_rfl
noncomputable def g15b11 (x1 : V) (x2 : V) (x3 : V) (x4 : V) (x8 : V) (st : St) : Res :=
 A.faddr 2 x4 fun a1 =>
 A.load false 1 a1 st fun a2 z3 =>
 A.lenL a2 fun a4 =>
 A.bin .geq a4 (.int .i64 16384) fun a5 =>
 A.cond a5
 (A.load true 3 x4 z3 fun a6 z7 =>
 A.store 3 x8 a6 z7 fun z8 =>
 A.res (rcell (A.load true 3 x8 z8 kid) (rtmp (.int .i64 0) (rtmp (.int .i64 2) (some [])))) z8)
 (g15b111 x1 x2 x3 x4 x8 z3)
theorem g15n11 : g15C [1, 1] = .seq (g15C [1, 1, 0]) (g15C [1, 1, 1]) := by kernel_rfl
theorem g15e11 : g15X (g15C [1, 1]) (g15kr) = fun env st => g15b11 (env 1) (env 2) (env 3) (env 4) (env 8) st := by
  refine Eq.trans (g15seq g15n11 (g15e111)) ?_
  funext env st
  kernel_rfl
noncomputable def g15k0 : Kon := kSeq (fun env st => g15b11 (env 1) (env 2) (env 3) (env 4) (env 8) st) (g15kr)
noncomputable def g15b101 (x1 : V) (x2 : V) (x3 : V) (x4 : V) (x8 : V) (x34 : V) (st : St) : Res :=
 A.cond x34
 (A.load true 3 x4 st fun a1 z2 =>
 A.store 3 x8 a1 z2 fun z3 =>
 A.res (rcell (A.load true 3 x8 z3 kid) (rtmp (.int .i64 0) (rtmp (.int .i64 1) (some [])))) z3)
 (g15b11 x1 x2 x3 x4 x8 st)
theorem g15e101 : g15X (g15C [1, 0, 1]) (g15k0) = fun env st => g15b101 (env 1) (env 2) (env 3) (env 4) (env 8) (env 34) st := by
  refine Eq.trans (Eq.refl (g15X (g15C [1, 0, 1]) (g15k0))) ?_
  funext env st
  kernel_rfl
noncomputable def g15k1 : Kon := kSeq (fun env st => g15b101 (env 1) (env 2) (env 3) (env 4) (env 8) (env 34) st) (g15k0)
noncomputable def g15b100_19 (x1 : V) (x2 : V) (x3 : V) (x4 : V) (x8 : V) (x30 : V) (st : St) : Res :=
 A.guard x30 false
 (A.lenS x3 fun a1 =>
 A.bin .gtr a1 (.int .i64 1048640) fun a2 =>
 g15b101 x1 x2 x3 x4 x8 a2 st)
 (g15b101 x1 x2 x3 x4 x8 (.bool true) st)
theorem g15e100_19 : (fun env st => aops Try.prog g15mu g15T 62 (rops (g15C [1, 0, 0])) [19, 20, 21, 22] env st ((g15k1) .normal)) = fun env st => g15b100_19 (env 1) (env 2) (env 3) (env 4) (env 8) (env 30) st := by
  refine Eq.trans (Eq.refl _) ?_
  funext env st
  kernel_rfl
noncomputable def g15b100_9 (x1 : V) (x2 : V) (x3 : V) (x4 : V) (x8 : V) (x20 : V) (st : St) : Res :=
 A.guard x20 false
 (A.bin .lss x2 (.int .i64 0) fun a1 =>
 A.guard a1 false
 (A.faddr 0 x4 fun a2 =>
 A.load false 1 a2 st fun a3 z4 =>
 A.bin .geq x2 a3 fun a5 =>
 g15b100_19 x1 x2 x3 x4 x8 a5 z4)
 (g15b100_19 x1 x2 x3 x4 x8 (.bool true) st))
 (g15b100_19 x1 x2 x3 x4 x8 (.bool true) st)
theorem g15e100_9 : (fun env st => aops Try.prog g15mu g15T 62 (rops (g15C [1, 0, 0])) [9, 10, 11, 12, 13, 14, 15, 16, 17, 18, 19, 20, 21, 22] env st ((g15k1) .normal)) = fun env st => g15b100_9 (env 1) (env 2) (env 3) (env 4) (env 8) (env 20) st := by
  refine Eq.trans (ops_cut (l1 := [9, 10, 11, 12, 13, 14, 15, 16, 17, 18]) (l2 := [19, 20, 21, 22]) (g15e100_19)) ?_
  funext env st
  kernel_rfl
noncomputable def f15 (x0 : V) (x1 : V) (x2 : V) (x3 : V) (st : St) : Res :=
 A.box x0 st fun a1 z2 =>
 A.box (.agg [(.int .i64 0), (.int .i64 0), (.lst [] 1)]) z2 fun a3 z4 =>
 A.bin .lss x1 (.int .i64 0) fun a5 =>
 A.guard a5 false
 (A.faddr 0 a1 fun a6 =>
 A.load false 1 a6 z4 fun a7 z8 =>
 A.bin .geq x1 a7 fun a9 =>
 g15b100_9 x1 x2 x3 a1 a3 a9 z8)
 (g15b100_9 x1 x2 x3 a1 a3 (.bool true) z4)
theorem g15nr : g15C [] = .seq (g15C [0]) (g15C [1]) := by kernel_rfl
theorem g15n1 : g15C [1] = .seq (g15C [1, 0]) (g15C [1, 1]) := by kernel_rfl
theorem g15n10 : g15C [1, 0] = .seq (g15C [1, 0, 0]) (g15C [1, 0, 1]) := by kernel_rfl
theorem g15rg100 : g15C [1, 0, 0] = .region 1 (rops (g15C [1, 0, 0])) false := by kernel_rfl
theorem g15rg100l : List.range (rops (g15C [1, 0, 0])).size = [0, 1, 2, 3, 4, 5, 6, 7, 8] ++ [9, 10, 11, 12, 13, 14, 15, 16, 17, 18, 19, 20, 21, 22] := by kernel_rfl
theorem g15er (env : Env) (st : St) : g15X (g15C []) g15kr env st = f15 (env 0) (env 1) (env 2) (env 3) st := by
  rw [(g15seq g15nr ((g15seq g15n1 (g15e11)).trans ((g15seq g15n10 (g15e101)).trans (g15reg g15rg100 g15rg100l (g15e100_9)))))]
  kernel_rfl
theorem s15_eq (x0 : V) (x1 : V) (x2 : V) (x3 : V) (st : St) : s15 [x0, x1, x2, x3] st = f15 x0 x1 x2 x3 st := by
  have h : afn Try.prog g15mu g15T big (areg Try.prog g15mu g15T) 15 [x0, x1, x2, x3] st = g15X (g15C []) g15kr (fun t => [x0, x1, x2, x3].getD t (.tup [])) st := by kernel_rfl
  rw [s15, sealF_eq]
  exact h.trans (g15er _ st)
/-! sinew/sinewref16.place -/
def g26mu : Nat → Bool := fun _ => false
noncomputable def g26T : Tbl := tget []
theorem g26t : SimT Try.prog g26T := simT_nil
noncomputable def s26 : Fn := sealF (afn Try.prog g26mu g26T big (areg Try.prog g26mu g26T) 26)
theorem sim26 : Sim Try.prog 26 s26 := (afn_sim g26t (fun m => areg_sound g26t hmix m) 26 (by kernel_rfl)).sealed
noncomputable def g26C (p : List Nat) : Code := sub (match Try.f26.body with | some c => c | none => .skip) p
noncomputable def g26X (c : Code) (K : Kon) : Env → St → Res := aexec Try.prog g26mu g26T big 22 (areg Try.prog g26mu g26T 22) c K
noncomputable def g26kr : Kon := aresK Try.prog Try.f26.results.toList
theorem g26reg {c : Code} {K : Kon} {G : Env → St → Res} {id : Nat} {ops : Array Oper} {l1 l2 : List Nat} (hc : c = .region id ops false) (hl : List.range ops.size = l1 ++ l2) (h : (fun env st => aops Try.prog g26mu g26T 22 ops l2 env st (K .normal)) = G) : g26X c K = fun env st => aops Try.prog g26mu g26T 22 ops l1 env st G := reg_cut hc hl h
theorem g26seq {c x y : Code} {K : Kon} {G : Env → St → Res} (hc : c = .seq x y) (hy : g26X y K = G) : g26X c K = g26X x (kSeq G K) := seq_cut hc hy
theorem g26blk {c x : Code} {K : Kon} {i : Nat} (hc : c = .block i x) : g26X c K = g26X x (kBlk i K) := blk_cut hc
theorem g26loop {c x : Code} {K : Kon} (hc : c = .loop x) : g26X c K = aloop (g26X x) K big := loop_cut hc
theorem g26cond {c x y : Code} {K : Kon} {v : Operand} {F G : Env → St → Res} (hc : c = .cond v x y) (hx : g26X x K = F) (hy : g26X y K = G) : g26X c K = condF v F G := cond_cut hc hx hy
noncomputable def g26k0 : Kon := kSeq (g26X (g26C [1, 1]) (g26kr)) (g26kr)
noncomputable def g26k1 : Kon := kBlk 0 (g26k0)
noncomputable def g26b1010 : Nat → V → V → V → St → Res
| 0, _, _, _, _ => none
| n + 1, x1, x2, x5, st =>
 A.faddr 2 x2 fun a1 =>
 A.load false 1 a1 st fun a2 z3 =>
 A.lenL a2 fun a4 =>
 A.bin .lss x5 a4 fun a5 =>
 A.cond a5
 (A.faddr 2 x2 fun a6 =>
 A.load false 1 a6 z3 fun a7 z8 =>
 A.iaddr 4 a7 x5 fun a9 =>
 A.faddr 0 a9 fun a10 =>
 A.load false 1 a10 z8 fun a11 z12 =>
 A.eql 2 false a11 x1 fun a13 =>
 A.cond a13
 (some (.ret x5.er1, z12))
 (A.bin .add x5 (.int .i64 1) fun a14 =>
 (g26b1010 n) x1 x2 a14 z12))
 (some (.ret ((.int .i64 (-1)) : V).er1, z3))
theorem g26n1010 : g26C [1, 0, 1, 0] = .loop (g26C [1, 0, 1, 0, 0]) := by kernel_rfl
noncomputable def g26k2 (L1010 : V → V → V → St → Res) : Kon := kSeq (fun env st => L1010 (env 1) (env 2) (env 5) st) (g26k1)
theorem g26e1010 : g26X (g26C [1, 0, 1, 0]) (g26k1) = fun env st => g26b1010 big (env 1) (env 2) (env 5) st := by
  have key : ∀ n, aloop (g26X (g26C [1, 0, 1, 0, 0])) (g26k1) n = fun env st => g26b1010 n (env 1) (env 2) (env 5) st := by
    intro n
    induction n with
    | zero => rfl
    | succ n ih =>
      have h : aloop (g26X (g26C [1, 0, 1, 0, 0])) (g26k1) (n + 1) = g26X (g26C [1, 0, 1, 0, 0]) (kSeq (aloop (g26X (g26C [1, 0, 1, 0, 0])) (g26k1) n) (g26k1)) := rfl
      rw [h, ih]
      refine Eq.trans (Eq.refl _) ?_
      funext env st
      kernel_rfl
  exact (g26loop g26n1010).trans (key big)
noncomputable def f26 (x0 : V) (x1 : V) (st : St) : Res :=
 A.box x0 st fun a1 z2 =>
 g26b1010 big x1 a1 (.int .i64 0) z2
theorem g26nr : g26C [] = .seq (g26C [0]) (g26C [1]) := by kernel_rfl
theorem g26n1 : g26C [1] = .seq (g26C [1, 0]) (g26C [1, 1]) := by kernel_rfl
theorem g26n10 : g26C [1, 0] = .seq (g26C [1, 0, 0]) (g26C [1, 0, 1]) := by kernel_rfl
theorem g26n101 : g26C [1, 0, 1] = .block 0 (g26C [1, 0, 1, 0]) := by kernel_rfl
theorem g26er (env : Env) (st : St) : g26X (g26C []) g26kr env st = f26 (env 0) (env 1) st := by
  rw [(g26seq g26nr ((g26seq g26n1 rfl).trans (g26seq g26n10 ((g26blk g26n101).trans (g26e1010)))))]
  kernel_rfl
theorem s26_eq (x0 : V) (x1 : V) (st : St) : s26 [x0, x1] st = f26 x0 x1 st := by
  have h : afn Try.prog g26mu g26T big (areg Try.prog g26mu g26T) 26 [x0, x1] st = g26X (g26C []) g26kr (fun t => [x0, x1].getD t (.tup [])) st := by kernel_rfl
  rw [s26, sealF_eq]
  exact h.trans (g26er _ st)
/-! sinew/sinewref16.Arrive -/
def g16mu : Nat → Bool := fun _ => false
noncomputable def g16T : Tbl := tget [(26, s26)]
theorem g16t : SimT Try.prog g16T := simT_cons sim26 (simT_nil)
noncomputable def s16 : Fn := sealF (afn Try.prog g16mu g16T big (areg Try.prog g16mu g16T) 16)
theorem sim16 : Sim Try.prog 16 s16 := (afn_sim g16t (fun m => areg_sound g16t hmix m) 16 (by kernel_rfl)).sealed
noncomputable def g16C (p : List Nat) : Code := sub (match Try.f16.body with | some c => c | none => .skip) p
noncomputable def g16X (c : Code) (K : Kon) : Env → St → Res := aexec Try.prog g16mu g16T big 38 (areg Try.prog g16mu g16T 38) c K
noncomputable def g16kr : Kon := aresK Try.prog Try.f16.results.toList
theorem g16reg {c : Code} {K : Kon} {G : Env → St → Res} {id : Nat} {ops : Array Oper} {l1 l2 : List Nat} (hc : c = .region id ops false) (hl : List.range ops.size = l1 ++ l2) (h : (fun env st => aops Try.prog g16mu g16T 38 ops l2 env st (K .normal)) = G) : g16X c K = fun env st => aops Try.prog g16mu g16T 38 ops l1 env st G := reg_cut hc hl h
theorem g16seq {c x y : Code} {K : Kon} {G : Env → St → Res} (hc : c = .seq x y) (hy : g16X y K = G) : g16X c K = g16X x (kSeq G K) := seq_cut hc hy
theorem g16blk {c x : Code} {K : Kon} {i : Nat} (hc : c = .block i x) : g16X c K = g16X x (kBlk i K) := blk_cut hc
theorem g16loop {c x : Code} {K : Kon} (hc : c = .loop x) : g16X c K = aloop (g16X x) K big := loop_cut hc
theorem g16cond {c x y : Code} {K : Kon} {v : Operand} {F G : Env → St → Res} (hc : c = .cond v x y) (hx : g16X x K = F) (hy : g16X y K = G) : g16X c K = condF v F G := cond_cut hc hx hy
noncomputable def g16b111111 (x2 : V) (x4 : V) (x5 : V) (x7 : V) (x8 : V) (x9 : V) (st : St) : Res :=
 A.faddr 2 x2 fun a1 =>
 A.load false 1 a1 st fun a2 z3 =>
 A.bin .add x7 (.int .i64 1) fun a4 =>
 A.slice 4 a2 (some a4) none none fun a5 =>
 A.app 4 x9 (elemsOf 5 4 a5 z3) z3 fun a6 z7 =>
 A.faddr 2 x2 fun a8 =>
 A.store 1 a8 a6 z7 fun z9 =>
 A.load true 3 x2 z9 fun a10 _ =>
 A.load true 4 x8 z9 fun a11 _ =>
 A.noP (A.store 3 x4 a10 z9 fun s => kid (.tup []) s) fun a12 z13 =>
 A.chk (ldv true 4 x8 z13) a11
 (A.noP (A.store 4 x5 a11 z13 fun s => kid (.tup []) s) fun a14 z15 =>
 A.res (rcell (A.load true 3 x4 z15 kid) (rcell (A.load true 4 x5 z15 kid) (rtmp (.int .i64 0) (some [])))) z15)
theorem g16e111111 : g16X (g16C [1, 1, 1, 1, 1, 1]) (g16kr) = fun env st => g16b111111 (env 2) (env 4) (env 5) (env 7) (env 8) (env 9) st := by
  refine Eq.trans (Eq.refl (g16X (g16C [1, 1, 1, 1, 1, 1]) (g16kr))) ?_
  funext env st
  kernel_rfl
noncomputable def g16b111 (x2 : V) (x4 : V) (x5 : V) (x7 : V) (st : St) : Res :=
 A.faddr 2 x2 fun a1 =>
 A.load false 1 a1 st fun a2 z3 =>
 A.iaddr 4 a2 x7 fun a4 =>
 A.load true 4 a4 z3 fun a5 z6 =>
 A.box (.agg [(.int .i64 0), (.int .i64 0), (.int .i64 0), (.str [])]) z6 fun a7 z8 =>
 A.store 4 a7 a5 z8 fun z9 =>
 A.faddr 2 x2 fun a10 =>
 A.load false 1 a10 z9 fun a11 z12 =>
 A.slice 4 a11 none (some x7) none fun a13 =>
 A.app 4 (.lst [] 1) (elemsOf 5 4 a13 z12) z12 fun a14 z15 =>
 g16b111111 x2 x4 x5 x7 a7 a14 z15
theorem g16n111 : g16C [1, 1, 1] = .seq (g16C [1, 1, 1, 0]) (g16C [1, 1, 1, 1]) := by kernel_rfl
theorem g16n1111 : g16C [1, 1, 1, 1] = .seq (g16C [1, 1, 1, 1, 0]) (g16C [1, 1, 1, 1, 1]) := by kernel_rfl
theorem g16n11111 : g16C [1, 1, 1, 1, 1] = .seq (g16C [1, 1, 1, 1, 1, 0]) (g16C [1, 1, 1, 1, 1, 1]) := by kernel_rfl
theorem g16e111 : g16X (g16C [1, 1, 1]) (g16kr) = fun env st => g16b111 (env 2) (env 4) (env 5) (env 7) st := by
  refine Eq.trans (g16seq g16n111 (g16seq g16n1111 (g16seq g16n11111 (g16e111111)))) ?_
  funext env st
  kernel_rfl
noncomputable def f16 (x0 : V) (x1 : V) (st : St) : Res :=
 A.box x0 st fun a1 z2 =>
 A.box (.agg [(.int .i64 0), (.int .i64 0), (.lst [] 1)]) z2 fun a3 z4 =>
 A.box (.agg [(.int .i64 0), (.int .i64 0), (.int .i64 0), (.str [])]) z4 fun a5 z6 =>
 A.load true 3 a1 z6 fun a7 z8 =>
 A.ret (s26 [a7.er1, x1.er1] z8) fun a9 z10 =>
 A.bin .lss a9 (.int .i64 0) fun a11 =>
 A.cond a11
 (A.load true 3 a1 z10 fun a12 z13 =>
 A.build [(.int .i64 0), (.int .i64 0), (.int .i64 0), (.str [])] [] fun a14 =>
 A.store 3 a3 a12 z13 fun z15 =>
 A.store 4 a5 a14 z15 fun z16 =>
 A.res (rcell (A.load true 3 a3 z16 kid) (rcell (A.load true 4 a5 z16 kid) (rtmp (.int .i64 3) (some [])))) z16)
 (g16b111 a1 a3 a5 a9 z10)
theorem g16nr : g16C [] = .seq (g16C [0]) (g16C [1]) := by kernel_rfl
theorem g16n1 : g16C [1] = .seq (g16C [1, 0]) (g16C [1, 1]) := by kernel_rfl
theorem g16n11 : g16C [1, 1] = .seq (g16C [1, 1, 0]) (g16C [1, 1, 1]) := by kernel_rfl
theorem g16er (env : Env) (st : St) : g16X (g16C []) g16kr env st = f16 (env 0) (env 1) st := by
  rw [(g16seq g16nr (g16seq g16n1 (g16seq g16n11 (g16e111))))]
  kernel_rfl
theorem s16_eq (x0 : V) (x1 : V) (st : St) : s16 [x0, x1] st = f16 x0 x1 st := by
  have h : afn Try.prog g16mu g16T big (areg Try.prog g16mu g16T) 16 [x0, x1] st = g16X (g16C []) g16kr (fun t => [x0, x1].getD t (.tup [])) st := by kernel_rfl
  rw [s16, sealF_eq]
  exact h.trans (g16er _ st)
/-! sinew/sinewref16.Copy -/
def g17mu : Nat → Bool := fun _ => false
noncomputable def g17T : Tbl := tget [(15, s15), (26, s26)]
theorem g17t : SimT Try.prog g17T := simT_cons sim15 ( simT_cons sim26 (simT_nil))
noncomputable def s17 : Fn := sealF (afn Try.prog g17mu g17T big (areg Try.prog g17mu g17T) 17)
theorem sim17 : Sim Try.prog 17 s17 := (afn_sim g17t (fun m => areg_sound g17t hmix m) 17 (by kernel_rfl)).sealed
noncomputable def g17C (p : List Nat) : Code := sub (match Try.f17.body with | some c => c | none => .skip) p
noncomputable def g17X (c : Code) (K : Kon) : Env → St → Res := aexec Try.prog g17mu g17T big 37 (areg Try.prog g17mu g17T 37) c K
noncomputable def g17kr : Kon := aresK Try.prog Try.f17.results.toList
theorem g17reg {c : Code} {K : Kon} {G : Env → St → Res} {id : Nat} {ops : Array Oper} {l1 l2 : List Nat} (hc : c = .region id ops false) (hl : List.range ops.size = l1 ++ l2) (h : (fun env st => aops Try.prog g17mu g17T 37 ops l2 env st (K .normal)) = G) : g17X c K = fun env st => aops Try.prog g17mu g17T 37 ops l1 env st G := reg_cut hc hl h
theorem g17seq {c x y : Code} {K : Kon} {G : Env → St → Res} (hc : c = .seq x y) (hy : g17X y K = G) : g17X c K = g17X x (kSeq G K) := seq_cut hc hy
theorem g17blk {c x : Code} {K : Kon} {i : Nat} (hc : c = .block i x) : g17X c K = g17X x (kBlk i K) := blk_cut hc
theorem g17loop {c x : Code} {K : Kon} (hc : c = .loop x) : g17X c K = aloop (g17X x) K big := loop_cut hc
theorem g17cond {c x y : Code} {K : Kon} {v : Operand} {F G : Env → St → Res} (hc : c = .cond v x y) (hx : g17X x K = F) (hy : g17X y K = G) : g17X c K = condF v F G := cond_cut hc hx hy
noncomputable def g17b111 (x2 : V) (x4 : V) (x7 : V) (st : St) : Res :=
 A.load true 3 x2 st fun a1 _ =>
 A.faddr 2 x2 fun a2 =>
 A.load false 1 a2 st fun a3 _ =>
 A.iaddr 4 a3 x7 fun a4 =>
 A.faddr 1 a4 fun a5 =>
 A.load false 1 a5 st fun a6 _ =>
 A.faddr 2 x2 fun a7 =>
 A.load false 1 a7 st fun a8 _ =>
 A.iaddr 4 a8 x7 fun a9 =>
 A.faddr 2 a9 fun a10 =>
 A.load false 1 a10 st fun a11 _ =>
 A.faddr 2 x2 fun a12 =>
 A.load false 1 a12 st fun a13 _ =>
 A.iaddr 4 a13 x7 fun a14 =>
 A.faddr 3 a14 fun a15 =>
 A.load false 1 a15 st fun a16 _ =>
 A.noP (A.ret (s15 [a1.er1, a6.er1, a11.er1, a16.er1] st) kid) fun a17 z18 =>
 A.ext a17 0 fun a19 =>
 A.ext a17 1 fun a20 =>
 A.ext a17 2 fun a21 =>
 A.noP (A.store 3 x4 a19 z18 fun s => kid (.tup []) s) fun a22 z23 =>
 A.res (rcell (A.load true 3 x4 z23 kid) (rtmp a20 (rtmp a21 (some [])))) z23
theorem g17e111 : g17X (g17C [1, 1, 1]) (g17kr) = fun env st => g17b111 (env 2) (env 4) (env 7) st := by
  refine Eq.trans (Eq.refl (g17X (g17C [1, 1, 1]) (g17kr))) ?_
  funext env st
  kernel_rfl
noncomputable def f17 (x0 : V) (x1 : V) (st : St) : Res :=
 A.box x0 st fun a1 z2 =>
 A.box (.agg [(.int .i64 0), (.int .i64 0), (.lst [] 1)]) z2 fun a3 z4 =>
 A.load true 3 a1 z4 fun a5 z6 =>
 A.ret (s26 [a5.er1, x1.er1] z6) fun a7 z8 =>
 A.bin .lss a7 (.int .i64 0) fun a9 =>
 A.cond a9
 (A.load true 3 a1 z8 fun a10 z11 =>
 A.store 3 a3 a10 z11 fun z12 =>
 A.res (rcell (A.load true 3 a3 z12 kid) (rtmp (.int .i64 0) (rtmp (.int .i64 3) (some [])))) z12)
 (g17b111 a1 a3 a7 z8)
theorem g17nr : g17C [] = .seq (g17C [0]) (g17C [1]) := by kernel_rfl
theorem g17n1 : g17C [1] = .seq (g17C [1, 0]) (g17C [1, 1]) := by kernel_rfl
theorem g17n11 : g17C [1, 1] = .seq (g17C [1, 1, 0]) (g17C [1, 1, 1]) := by kernel_rfl
theorem g17er (env : Env) (st : St) : g17X (g17C []) g17kr env st = f17 (env 0) (env 1) st := by
  rw [(g17seq g17nr (g17seq g17n1 (g17seq g17n11 (g17e111))))]
  kernel_rfl
theorem s17_eq (x0 : V) (x1 : V) (st : St) : s17 [x0, x1] st = f17 x0 x1 st := by
  have h : afn Try.prog g17mu g17T big (areg Try.prog g17mu g17T) 17 [x0, x1] st = g17X (g17C []) g17kr (fun t => [x0, x1].getD t (.tup [])) st := by kernel_rfl
  rw [s17, sealF_eq]
  exact h.trans (g17er _ st)
/-! sinew/sinewref16.Pick -/
def g18mu : Nat → Bool := fun _ => false
noncomputable def g18T : Tbl := tget []
theorem g18t : SimT Try.prog g18T := simT_nil
noncomputable def s18 : Fn := sealF (afn Try.prog g18mu g18T big (areg Try.prog g18mu g18T) 18)
theorem sim18 : Sim Try.prog 18 s18 := (afn_sim g18t (fun m => areg_sound g18t hmix m) 18 (by kernel_rfl)).sealed
noncomputable def g18C (p : List Nat) : Code := sub (match Try.f18.body with | some c => c | none => .skip) p
noncomputable def g18X (c : Code) (K : Kon) : Env → St → Res := aexec Try.prog g18mu g18T big 27 (areg Try.prog g18mu g18T 27) c K
noncomputable def g18kr : Kon := aresK Try.prog Try.f18.results.toList
theorem g18reg {c : Code} {K : Kon} {G : Env → St → Res} {id : Nat} {ops : Array Oper} {l1 l2 : List Nat} (hc : c = .region id ops false) (hl : List.range ops.size = l1 ++ l2) (h : (fun env st => aops Try.prog g18mu g18T 27 ops l2 env st (K .normal)) = G) : g18X c K = fun env st => aops Try.prog g18mu g18T 27 ops l1 env st G := reg_cut hc hl h
theorem g18seq {c x y : Code} {K : Kon} {G : Env → St → Res} (hc : c = .seq x y) (hy : g18X y K = G) : g18X c K = g18X x (kSeq G K) := seq_cut hc hy
theorem g18blk {c x : Code} {K : Kon} {i : Nat} (hc : c = .block i x) : g18X c K = g18X x (kBlk i K) := blk_cut hc
theorem g18loop {c x : Code} {K : Kon} (hc : c = .loop x) : g18X c K = aloop (g18X x) K big := loop_cut hc
theorem g18cond {c x y : Code} {K : Kon} {v : Operand} {F G : Env → St → Res} (hc : c = .cond v x y) (hx : g18X x K = F) (hy : g18X y K = G) : g18X c K = condF v F G := cond_cut hc hx hy
noncomputable def g18b11111 (x2 : V) (x5 : V) (st : St) : Res :=
 A.faddr 2 x2 fun a1 =>
 A.load false 1 a1 st fun a2 z3 =>
 A.iaddr 4 a2 x5 fun a4 =>
 A.faddr 0 a4 fun a5 =>
 A.load false 1 a5 z3 fun a6 z7 =>
 some (.ret a6.er1, z7)
theorem g18e11111 : g18X (g18C [1, 1, 1, 1, 1]) (g18kr) = fun env st => g18b11111 (env 2) (env 5) st := by
  refine Eq.trans (Eq.refl (g18X (g18C [1, 1, 1, 1, 1]) (g18kr))) ?_
  funext env st
  kernel_rfl
noncomputable def g18b1111 (x2 : V) (x5 : V) (st : St) : Res :=
 A.bin .lss x5 (.int .i64 0) fun a1 =>
 A.cond a1
 (A.bin .sub (.int .i64 0) x5 fun a2 =>
 g18b11111 x2 a2 st)
 (g18b11111 x2 x5 st)
theorem g18n1111 : g18C [1, 1, 1, 1] = .seq (g18C [1, 1, 1, 1, 0]) (g18C [1, 1, 1, 1, 1]) := by kernel_rfl
theorem g18e1111 : g18X (g18C [1, 1, 1, 1]) (g18kr) = fun env st => g18b1111 (env 2) (env 5) st := by
  refine Eq.trans (g18seq g18n1111 (g18e11111)) ?_
  funext env st
  kernel_rfl
noncomputable def g18b111 (x1 : V) (x2 : V) (x5 : V) (st : St) : Res :=
 A.eql 2 false x1 (.int .i64 (-9223372036854775808)) fun a1 =>
 A.cond a1
 (g18b1111 x2 (.int .i64 0) st)
 (g18b1111 x2 x5 st)
theorem g18n111 : g18C [1, 1, 1] = .seq (g18C [1, 1, 1, 0]) (g18C [1, 1, 1, 1]) := by kernel_rfl
theorem g18e111 : g18X (g18C [1, 1, 1]) (g18kr) = fun env st => g18b111 (env 1) (env 2) (env 5) st := by
  refine Eq.trans (g18seq g18n111 (g18e1111)) ?_
  funext env st
  kernel_rfl
noncomputable def f18 (x0 : V) (x1 : V) (st : St) : Res :=
 A.box x0 st fun a1 z2 =>
 A.faddr 2 a1 fun a3 =>
 A.load false 1 a3 z2 fun a4 z5 =>
 A.lenL a4 fun a6 =>
 A.eql 2 false a6 (.int .i64 0) fun a7 =>
 A.cond a7
 (some (.ret ((.int .i64 (-1)) : V).er1, z5))
 (A.faddr 2 a1 fun a8 =>
 A.load false 1 a8 z5 fun a9 z10 =>
 A.lenL a9 fun a11 =>
 A.bin .rem x1 a11 fun a12 =>
 g18b111 x1 a1 a12 z10)
theorem g18nr : g18C [] = .seq (g18C [0]) (g18C [1]) := by kernel_rfl
theorem g18n1 : g18C [1] = .seq (g18C [1, 0]) (g18C [1, 1]) := by kernel_rfl
theorem g18n11 : g18C [1, 1] = .seq (g18C [1, 1, 0]) (g18C [1, 1, 1]) := by kernel_rfl
theorem g18er (env : Env) (st : St) : g18X (g18C []) g18kr env st = f18 (env 0) (env 1) st := by
  rw [(g18seq g18nr (g18seq g18n1 (g18seq g18n11 (g18e111))))]
  kernel_rfl
theorem s18_eq (x0 : V) (x1 : V) (st : St) : s18 [x0, x1] st = f18 x0 x1 st := by
  have h : afn Try.prog g18mu g18T big (areg Try.prog g18mu g18T) 18 [x0, x1] st = g18X (g18C []) g18kr (fun t => [x0, x1].getD t (.tup [])) st := by kernel_rfl
  rw [s18, sealF_eq]
  exact h.trans (g18er _ st)
/-! sinew/sinewref10.same -/
def g27mu : Nat → Bool := fun _ => false
noncomputable def g27T : Tbl := tget []
theorem g27t : SimT Try.prog g27T := simT_nil
noncomputable def s27 : Fn := sealF (afn Try.prog g27mu g27T big (areg Try.prog g27mu g27T) 27)
theorem sim27 : Sim Try.prog 27 s27 := (afn_sim g27t (fun m => areg_sound g27t hmix m) 27 (by kernel_rfl)).sealed
noncomputable def g27C (p : List Nat) : Code := sub (match Try.f27.body with | some c => c | none => .skip) p
noncomputable def g27X (c : Code) (K : Kon) : Env → St → Res := aexec Try.prog g27mu g27T big 26 (areg Try.prog g27mu g27T 26) c K
noncomputable def g27kr : Kon := aresK Try.prog Try.f27.results.toList
theorem g27reg {c : Code} {K : Kon} {G : Env → St → Res} {id : Nat} {ops : Array Oper} {l1 l2 : List Nat} (hc : c = .region id ops false) (hl : List.range ops.size = l1 ++ l2) (h : (fun env st => aops Try.prog g27mu g27T 26 ops l2 env st (K .normal)) = G) : g27X c K = fun env st => aops Try.prog g27mu g27T 26 ops l1 env st G := reg_cut hc hl h
theorem g27seq {c x y : Code} {K : Kon} {G : Env → St → Res} (hc : c = .seq x y) (hy : g27X y K = G) : g27X c K = g27X x (kSeq G K) := seq_cut hc hy
theorem g27blk {c x : Code} {K : Kon} {i : Nat} (hc : c = .block i x) : g27X c K = g27X x (kBlk i K) := blk_cut hc
theorem g27loop {c x : Code} {K : Kon} (hc : c = .loop x) : g27X c K = aloop (g27X x) K big := loop_cut hc
theorem g27cond {c x y : Code} {K : Kon} {v : Operand} {F G : Env → St → Res} (hc : c = .cond v x y) (hx : g27X x K = F) (hy : g27X y K = G) : g27X c K = condF v F G := cond_cut hc hx hy
noncomputable def g27k0 : Kon := kSeq (g27X (g27C [1, 1, 1]) (g27kr)) (g27kr)
noncomputable def g27k1 : Kon := kBlk 0 (g27k0)
noncomputable def g27b11010 : Nat → V → V → V → St → Res
| 0, _, _, _, _ => none
| n + 1, x0, x1, x5, st =>
 A.lenL x0 fun a1 =>
 A.bin .lss x5 a1 fun a2 =>
 A.cond a2
 (A.iaddr 1 x0 x5 fun a3 =>
 A.load false 1 a3 st fun a4 _ =>
 A.iaddr 1 x1 x5 fun a5 =>
 A.load false 1 a5 st fun a6 _ =>
 A.eql 2 true a4 a6 fun a7 =>
 A.cond a7
 (some (.ret ((.bool false) : V).er1, st))
 (A.bin .add x5 (.int .i64 1) fun a8 =>
 (g27b11010 n) x0 x1 a8 st))
 (some (.ret ((.bool true) : V).er1, st))
theorem g27n11010 : g27C [1, 1, 0, 1, 0] = .loop (g27C [1, 1, 0, 1, 0, 0]) := by kernel_rfl
noncomputable def g27k2 (L11010 : V → V → V → St → Res) : Kon := kSeq (fun env st => L11010 (env 0) (env 1) (env 5) st) (g27k1)
theorem g27e11010 : g27X (g27C [1, 1, 0, 1, 0]) (g27k1) = fun env st => g27b11010 big (env 0) (env 1) (env 5) st := by
  have key : ∀ n, aloop (g27X (g27C [1, 1, 0, 1, 0, 0])) (g27k1) n = fun env st => g27b11010 n (env 0) (env 1) (env 5) st := by
    intro n
    induction n with
    | zero => rfl
    | succ n ih =>
      have h : aloop (g27X (g27C [1, 1, 0, 1, 0, 0])) (g27k1) (n + 1) = g27X (g27C [1, 1, 0, 1, 0, 0]) (kSeq (aloop (g27X (g27C [1, 1, 0, 1, 0, 0])) (g27k1) n) (g27k1)) := rfl
      rw [h, ih]
      refine Eq.trans (Eq.refl _) ?_
      funext env st
      kernel_rfl
  exact (g27loop g27n11010).trans (key big)
noncomputable def f27 (x0 : V) (x1 : V) (st : St) : Res :=
 A.lenL x0 fun a1 =>
 A.lenL x1 fun a2 =>
 A.eql 2 true a1 a2 fun a3 =>
 A.cond a3
 (some (.ret ((.bool false) : V).er1, st))
 (g27b11010 big x0 x1 (.int .i64 0) st)
theorem g27nr : g27C [] = .seq (g27C [0]) (g27C [1]) := by kernel_rfl
theorem g27n1 : g27C [1] = .seq (g27C [1, 0]) (g27C [1, 1]) := by kernel_rfl
theorem g27n11 : g27C [1, 1] = .seq (g27C [1, 1, 0]) (g27C [1, 1, 1]) := by kernel_rfl
theorem g27n110 : g27C [1, 1, 0] = .seq (g27C [1, 1, 0, 0]) (g27C [1, 1, 0, 1]) := by kernel_rfl
theorem g27n1101 : g27C [1, 1, 0, 1] = .block 0 (g27C [1, 1, 0, 1, 0]) := by kernel_rfl
theorem g27er (env : Env) (st : St) : g27X (g27C []) g27kr env st = f27 (env 0) (env 1) st := by
  rw [(g27seq g27nr (g27seq g27n1 ((g27seq g27n11 rfl).trans (g27seq g27n110 ((g27blk g27n1101).trans (g27e11010))))))]
  kernel_rfl
theorem s27_eq (x0 : V) (x1 : V) (st : St) : s27 [x0, x1] st = f27 x0 x1 st := by
  have h : afn Try.prog g27mu g27T big (areg Try.prog g27mu g27T) 27 [x0, x1] st = g27X (g27C []) g27kr (fun t => [x0, x1].getD t (.tup [])) st := by kernel_rfl
  rw [s27, sealF_eq]
  exact h.trans (g27er _ st)
/-! sinew/sinewref10.SameInts -/
def g19mu : Nat → Bool := fun _ => false
noncomputable def g19T : Tbl := tget [(27, s27)]
theorem g19t : SimT Try.prog g19T := simT_cons sim27 (simT_nil)
noncomputable def s19 : Fn := sealF (afn Try.prog g19mu g19T big (areg Try.prog g19mu g19T) 19)
theorem sim19 : Sim Try.prog 19 s19 := (afn_sim g19t (fun m => areg_sound g19t hmix m) 19 (by kernel_rfl)).sealed
noncomputable def f19 (x0 : V) (x1 : V) (st : St) : Res :=
 A.ret (s27 [x0.er1, x1.er1] st) fun a1 z2 =>
 some (.ret a1.er1, z2)
theorem s19_eq (x0 : V) (x1 : V) (st : St) : s19 [x0, x1] st = f19 x0 x1 st := by
  rw [s19, sealF_eq]
  kernel_rfl
/-! sinew/sinewref16.Ids -/
def g21mu : Nat → Bool := fun _ => false
noncomputable def g21T : Tbl := tget []
theorem g21t : SimT Try.prog g21T := simT_nil
noncomputable def s21 : Fn := sealF (afn Try.prog g21mu g21T big (areg Try.prog g21mu g21T) 21)
theorem sim21 : Sim Try.prog 21 s21 := (afn_sim g21t (fun m => areg_sound g21t hmix m) 21 (by kernel_rfl)).sealed
noncomputable def g21C (p : List Nat) : Code := sub (match Try.f21.body with | some c => c | none => .skip) p
noncomputable def g21X (c : Code) (K : Kon) : Env → St → Res := aexec Try.prog g21mu g21T big 36 (areg Try.prog g21mu g21T 36) c K
noncomputable def g21kr : Kon := aresK Try.prog Try.f21.results.toList
theorem g21reg {c : Code} {K : Kon} {G : Env → St → Res} {id : Nat} {ops : Array Oper} {l1 l2 : List Nat} (hc : c = .region id ops false) (hl : List.range ops.size = l1 ++ l2) (h : (fun env st => aops Try.prog g21mu g21T 36 ops l2 env st (K .normal)) = G) : g21X c K = fun env st => aops Try.prog g21mu g21T 36 ops l1 env st G := reg_cut hc hl h
theorem g21seq {c x y : Code} {K : Kon} {G : Env → St → Res} (hc : c = .seq x y) (hy : g21X y K = G) : g21X c K = g21X x (kSeq G K) := seq_cut hc hy
theorem g21blk {c x : Code} {K : Kon} {i : Nat} (hc : c = .block i x) : g21X c K = g21X x (kBlk i K) := blk_cut hc
theorem g21loop {c x : Code} {K : Kon} (hc : c = .loop x) : g21X c K = aloop (g21X x) K big := loop_cut hc
theorem g21cond {c x y : Code} {K : Kon} {v : Operand} {F G : Env → St → Res} (hc : c = .cond v x y) (hx : g21X x K = F) (hy : g21X y K = G) : g21X c K = condF v F G := cond_cut hc hx hy
noncomputable def g21k0 : Kon := kSeq (g21X (g21C [1, 1, 1]) (g21kr)) (g21kr)
noncomputable def g21k1 : Kon := kBlk 0 (g21k0)
noncomputable def g21k2 (L11010 : V → V → V → V → St → Res) : Kon := kSeq (fun env st => L11010 (env 1) (env 2) (env 5) (env 6) st) (g21k1)
noncomputable def g21k3 (L11010 : V → V → V → V → St → Res) : Kon := kSeq (g21X (g21C [1, 1, 0, 1, 0, 0, 1, 1]) (g21k2 L11010)) (g21k2 L11010)
noncomputable def g21k4 (L11010 : V → V → V → V → St → Res) : Kon := kBlk 1 (g21k3 L11010)
noncomputable def g21b1101001001 (L11010 : V → V → V → V → St → Res) (x1 : V) (x2 : V) (x5 : V) (x6 : V) (x25 : V) (st : St) : Res :=
 A.cond x25
 (A.faddr 2 x2 fun a1 =>
 A.load false 1 a1 st fun a2 z3 =>
 A.iaddr 4 a2 x6 fun a4 =>
 A.faddr 0 a4 fun a5 =>
 A.load false 1 a5 z3 fun a6 z7 =>
 A.bslice 1 (.int .i64 0) 1 [(0, a6)] fun a8 =>
 A.app 1 x5 (elemsOf 5 1 a8 z7) z7 fun a9 z10 =>
 A.bin .add x6 (.int .i64 1) fun a11 =>
 L11010 x1 x2 a9 a11 z10)
 (A.bin .add x6 (.int .i64 1) fun a12 =>
 L11010 x1 x2 x5 a12 st)
theorem g21e1101001001 (L11010 : V → V → V → V → St → Res) : g21X (g21C [1, 1, 0, 1, 0, 0, 1, 0, 0, 1]) (g21k4 L11010) = fun env st => g21b1101001001 L11010 (env 1) (env 2) (env 5) (env 6) (env 25) st := by
  refine Eq.trans (Eq.refl (g21X (g21C [1, 1, 0, 1, 0, 0, 1, 0, 0, 1]) (g21k4 L11010))) ?_
  funext env st
  kernel_rfl
noncomputable def g21b11010 : Nat → V → V → V → V → St → Res
| 0, _, _, _, _, _ => none
| n + 1, x1, x2, x5, x6, st =>
 A.faddr 2 x2 fun a1 =>
 A.load false 1 a1 st fun a2 z3 =>
 A.lenL a2 fun a4 =>
 A.bin .lss x6 a4 fun a5 =>
 A.cond a5
 (A.bin .lss x1 (.int .i64 0) fun a6 =>
 A.guard a6 false
 (A.faddr 2 x2 fun a7 =>
 A.load false 1 a7 z3 fun a8 z9 =>
 A.iaddr 4 a8 x6 fun a10 =>
 A.faddr 2 a10 fun a11 =>
 A.load false 1 a11 z9 fun a12 z13 =>
 A.eql 2 false a12 x1 fun a14 =>
 g21b1101001001 (g21b11010 n) x1 x2 x5 x6 a14 z13)
 (g21b1101001001 (g21b11010 n) x1 x2 x5 x6 (.bool true) z3))
 (some (.ret x5.er1, z3))
theorem g21n11010 : g21C [1, 1, 0, 1, 0] = .loop (g21C [1, 1, 0, 1, 0, 0]) := by kernel_rfl
theorem g21n110100 : g21C [1, 1, 0, 1, 0, 0] = .seq (g21C [1, 1, 0, 1, 0, 0, 0]) (g21C [1, 1, 0, 1, 0, 0, 1]) := by kernel_rfl
theorem g21n1101001 : g21C [1, 1, 0, 1, 0, 0, 1] = .seq (g21C [1, 1, 0, 1, 0, 0, 1, 0]) (g21C [1, 1, 0, 1, 0, 0, 1, 1]) := by kernel_rfl
theorem g21n11010010 : g21C [1, 1, 0, 1, 0, 0, 1, 0] = .block 1 (g21C [1, 1, 0, 1, 0, 0, 1, 0, 0]) := by kernel_rfl
theorem g21n110100100 : g21C [1, 1, 0, 1, 0, 0, 1, 0, 0] = .seq (g21C [1, 1, 0, 1, 0, 0, 1, 0, 0, 0]) (g21C [1, 1, 0, 1, 0, 0, 1, 0, 0, 1]) := by kernel_rfl
theorem g21e11010 : g21X (g21C [1, 1, 0, 1, 0]) (g21k1) = fun env st => g21b11010 big (env 1) (env 2) (env 5) (env 6) st := by
  have key : ∀ n, aloop (g21X (g21C [1, 1, 0, 1, 0, 0])) (g21k1) n = fun env st => g21b11010 n (env 1) (env 2) (env 5) (env 6) st := by
    intro n
    induction n with
    | zero => rfl
    | succ n ih =>
      have h : aloop (g21X (g21C [1, 1, 0, 1, 0, 0])) (g21k1) (n + 1) = g21X (g21C [1, 1, 0, 1, 0, 0]) (kSeq (aloop (g21X (g21C [1, 1, 0, 1, 0, 0])) (g21k1) n) (g21k1)) := rfl
      rw [h, ih]
      refine Eq.trans (g21seq g21n110100 ((g21seq g21n1101001 rfl).trans ((g21blk g21n11010010).trans (g21seq g21n110100100 (g21e1101001001 (g21b11010 n)))))) ?_
      funext env st
      kernel_rfl
  exact (g21loop g21n11010).trans (key big)
noncomputable def f21 (x0 : V) (x1 : V) (st : St) : Res :=
 A.box x0 st fun a1 z2 =>
 g21b11010 big x1 a1 (.lst [] 1) (.int .i64 0) z2
theorem g21nr : g21C [] = .seq (g21C [0]) (g21C [1]) := by kernel_rfl
theorem g21n1 : g21C [1] = .seq (g21C [1, 0]) (g21C [1, 1]) := by kernel_rfl
theorem g21n11 : g21C [1, 1] = .seq (g21C [1, 1, 0]) (g21C [1, 1, 1]) := by kernel_rfl
theorem g21n110 : g21C [1, 1, 0] = .seq (g21C [1, 1, 0, 0]) (g21C [1, 1, 0, 1]) := by kernel_rfl
theorem g21n1101 : g21C [1, 1, 0, 1] = .block 0 (g21C [1, 1, 0, 1, 0]) := by kernel_rfl
theorem g21er (env : Env) (st : St) : g21X (g21C []) g21kr env st = f21 (env 0) (env 1) st := by
  rw [(g21seq g21nr (g21seq g21n1 ((g21seq g21n11 rfl).trans (g21seq g21n110 ((g21blk g21n1101).trans (g21e11010))))))]
  kernel_rfl
theorem s21_eq (x0 : V) (x1 : V) (st : St) : s21 [x0, x1] st = f21 x0 x1 st := by
  have h : afn Try.prog g21mu g21T big (areg Try.prog g21mu g21T) 21 [x0, x1] st = g21X (g21C []) g21kr (fun t => [x0, x1].getD t (.tup [])) st := by kernel_rfl
  rw [s21, sealF_eq]
  exact h.trans (g21er _ st)
/-! sinew/sinewlaw16.FieldNobody -/
def g5mu : Nat → Bool := fun _ => false
noncomputable def g5T : Tbl := tget [(8, s8), (9, s9), (10, s10), (11, s11), (12, s12), (13, s13), (20, s20)]
theorem g5t : SimT Try.prog g5T := simT_cons sim8 ( simT_cons sim9 ( simT_cons sim10 ( simT_cons sim11 ( simT_cons sim12 ( simT_cons sim13 ( simT_cons sim20 (simT_nil)))))))
noncomputable def s5 : Fn := sealF (afn Try.prog g5mu g5T big (areg Try.prog g5mu g5T) 5)
theorem sim5 : Sim Try.prog 5 s5 := (afn_sim g5t (fun m => areg_sound g5t hmix m) 5 (by kernel_rfl)).sealed
noncomputable def g5C (p : List Nat) : Code := sub (match Try.f5.body with | some c => c | none => .skip) p
noncomputable def g5X (c : Code) (K : Kon) : Env → St → Res := aexec Try.prog g5mu g5T big 100 (areg Try.prog g5mu g5T 100) c K
noncomputable def g5kr : Kon := aresK Try.prog Try.f5.results.toList
theorem g5reg {c : Code} {K : Kon} {G : Env → St → Res} {id : Nat} {ops : Array Oper} {l1 l2 : List Nat} (hc : c = .region id ops false) (hl : List.range ops.size = l1 ++ l2) (h : (fun env st => aops Try.prog g5mu g5T 100 ops l2 env st (K .normal)) = G) : g5X c K = fun env st => aops Try.prog g5mu g5T 100 ops l1 env st G := reg_cut hc hl h
theorem g5seq {c x y : Code} {K : Kon} {G : Env → St → Res} (hc : c = .seq x y) (hy : g5X y K = G) : g5X c K = g5X x (kSeq G K) := seq_cut hc hy
theorem g5blk {c x : Code} {K : Kon} {i : Nat} (hc : c = .block i x) : g5X c K = g5X x (kBlk i K) := blk_cut hc
theorem g5loop {c x : Code} {K : Kon} (hc : c = .loop x) : g5X c K = aloop (g5X x) K big := loop_cut hc
theorem g5cond {c x y : Code} {K : Kon} {v : Operand} {F G : Env → St → Res} (hc : c = .cond v x y) (hx : g5X x K = F) (hy : g5X y K = G) : g5X c K = condF v F G := cond_cut hc hx hy
noncomputable def g5k0 : Kon := kSeq (g5X (g5C [1, 1, 1]) (g5kr)) (g5kr)
noncomputable def g5k1 : Kon := kBlk 0 (g5k0)
noncomputable def g5k2 (L11010 : V → V → V → V → St → Res) : Kon := kSeq (fun env st => L11010 (env 0) (env 1) (env 5) (env 6) st) (g5k1)
noncomputable def g5k3 (L11010 : V → V → V → V → St → Res) : Kon := kSeq (g5X (g5C [1, 1, 0, 1, 0, 0, 1, 1]) (g5k2 L11010)) (g5k2 L11010)
noncomputable def g5k4 (L11010 : V → V → V → V → St → Res) : Kon := kBlk 1 (g5k3 L11010)
noncomputable def g5k5 (L11010 : V → V → V → V → St → Res) : Kon := kSeq (g5X (g5C [1, 1, 0, 1, 0, 0, 1, 0, 0, 1, 1, 1, 1]) (g5k4 L11010)) (g5k4 L11010)
noncomputable def g5b1101001001110_42 (L11010 : V → V → V → V → St → Res) (x0 : V) (x1 : V) (x5 : V) (x6 : V) (x90 : V) (st : St) : Res :=
 A.guard x90 false
 (A.iaddr 1 x5 x6 fun a1 =>
 A.load false 1 a1 st fun a2 z3 =>
 A.ret (s20 [a2.er1, ((.int .i64 0) : V).er1] z3) fun a4 z5 =>
 A.lenL a4 fun a6 =>
 A.bin .gtr a6 (.int .i64 0) fun a7 =>
 A.cond a7
 (some (.ret ((.bool false) : V).er1, z5))
 (A.bin .add x6 (.int .i64 1) fun a8 =>
 L11010 x0 x1 x5 a8 z5))
 (some (.ret ((.bool false) : V).er1, st))
theorem g5e1101001001110_42 (L11010 : V → V → V → V → St → Res) : (fun env st => aops Try.prog g5mu g5T 100 (rops (g5C [1, 1, 0, 1, 0, 0, 1, 0, 0, 1, 1, 1, 0])) [42, 43, 44, 45, 46, 47, 48, 49] env st ((g5k5 L11010) .normal)) = fun env st => g5b1101001001110_42 L11010 (env 0) (env 1) (env 5) (env 6) (env 90) st := by
  refine Eq.trans (Eq.refl _) ?_
  funext env st
  kernel_rfl
noncomputable def g5b1101001001110_33 (L11010 : V → V → V → V → St → Res) (x0 : V) (x1 : V) (x5 : V) (x6 : V) (x81 : V) (st : St) : Res :=
 A.guard x81 false
 (A.iaddr 1 x5 x6 fun a1 =>
 A.load false 1 a1 st fun a2 z3 =>
 A.ret (s8 [a2.er1, x0.er1] z3) fun a4 z5 =>
 A.eql 2 true a4 (.int .i64 (-1)) fun a6 =>
 g5b1101001001110_42 L11010 x0 x1 x5 x6 a6 z5)
 (g5b1101001001110_42 L11010 x0 x1 x5 x6 (.bool true) st)
theorem g5e1101001001110_33 (L11010 : V → V → V → V → St → Res) : (fun env st => aops Try.prog g5mu g5T 100 (rops (g5C [1, 1, 0, 1, 0, 0, 1, 0, 0, 1, 1, 1, 0])) [33, 34, 35, 36, 37, 38, 39, 40, 41, 42, 43, 44, 45, 46, 47, 48, 49] env st ((g5k5 L11010) .normal)) = fun env st => g5b1101001001110_33 L11010 (env 0) (env 1) (env 5) (env 6) (env 81) st := by
  refine Eq.trans (ops_cut (l1 := [33, 34, 35, 36, 37, 38, 39, 40, 41]) (l2 := [42, 43, 44, 45, 46, 47, 48, 49]) (g5e1101001001110_42 L11010)) ?_
  funext env st
  kernel_rfl
noncomputable def g5b1101001001110_24 (L11010 : V → V → V → V → St → Res) (x0 : V) (x1 : V) (x5 : V) (x6 : V) (x72 : V) (st : St) : Res :=
 A.guard x72 false
 (A.iaddr 1 x5 x6 fun a1 =>
 A.load false 1 a1 st fun a2 z3 =>
 A.ret (s12 [a2.er1] z3) fun a4 z5 =>
 A.lenL a4 fun a6 =>
 A.bin .gtr a6 (.int .i64 0) fun a7 =>
 g5b1101001001110_33 L11010 x0 x1 x5 x6 a7 z5)
 (g5b1101001001110_33 L11010 x0 x1 x5 x6 (.bool true) st)
theorem g5e1101001001110_24 (L11010 : V → V → V → V → St → Res) : (fun env st => aops Try.prog g5mu g5T 100 (rops (g5C [1, 1, 0, 1, 0, 0, 1, 0, 0, 1, 1, 1, 0])) [24, 25, 26, 27, 28, 29, 30, 31, 32, 33, 34, 35, 36, 37, 38, 39, 40, 41, 42, 43, 44, 45, 46, 47, 48, 49] env st ((g5k5 L11010) .normal)) = fun env st => g5b1101001001110_24 L11010 (env 0) (env 1) (env 5) (env 6) (env 72) st := by
  refine Eq.trans (ops_cut (l1 := [24, 25, 26, 27, 28, 29, 30, 31, 32]) (l2 := [33, 34, 35, 36, 37, 38, 39, 40, 41, 42, 43, 44, 45, 46, 47, 48, 49]) (g5e1101001001110_33 L11010)) ?_
  funext env st
  kernel_rfl
noncomputable def g5b1101001001110_16 (L11010 : V → V → V → V → St → Res) (x0 : V) (x1 : V) (x5 : V) (x6 : V) (x11 : V) (x12 : V) (x64 : V) (st : St) : Res :=
 A.guard x64 false
 (A.eql 2 true x11 (.int .i64 0) fun a1 =>
 A.guard a1 false
 (A.eql 2 true x12 (.int .i64 1) fun a2 =>
 g5b1101001001110_24 L11010 x0 x1 x5 x6 a2 st)
 (g5b1101001001110_24 L11010 x0 x1 x5 x6 (.bool true) st))
 (g5b1101001001110_24 L11010 x0 x1 x5 x6 (.bool true) st)
theorem g5e1101001001110_16 (L11010 : V → V → V → V → St → Res) : (fun env st => aops Try.prog g5mu g5T 100 (rops (g5C [1, 1, 0, 1, 0, 0, 1, 0, 0, 1, 1, 1, 0])) [16, 17, 18, 19, 20, 21, 22, 23, 24, 25, 26, 27, 28, 29, 30, 31, 32, 33, 34, 35, 36, 37, 38, 39, 40, 41, 42, 43, 44, 45, 46, 47, 48, 49] env st ((g5k5 L11010) .normal)) = fun env st => g5b1101001001110_16 L11010 (env 0) (env 1) (env 5) (env 6) (env 11) (env 12) (env 64) st := by
  refine Eq.trans (ops_cut (l1 := [16, 17, 18, 19, 20, 21, 22, 23]) (l2 := [24, 25, 26, 27, 28, 29, 30, 31, 32, 33, 34, 35, 36, 37, 38, 39, 40, 41, 42, 43, 44, 45, 46, 47, 48, 49]) (g5e1101001001110_24 L11010)) ?_
  funext env st
  kernel_rfl
noncomputable def g5b1101001001110_7 (L11010 : V → V → V → V → St → Res) (x0 : V) (x1 : V) (x5 : V) (x6 : V) (x9 : V) (x10 : V) (x11 : V) (x12 : V) (x55 : V) (st : St) : Res :=
 A.guard x55 false
 (A.load true 4 x9 st fun a1 z2 =>
 A.build [(.int .i64 0), (.int .i64 0), (.int .i64 0), (.str [])] [] fun a3 =>
 A.eqS Try.prog 35 true a1 a3 fun a4 =>
 A.guard a4 false
 (A.eql 2 true x10 (.int .i64 1) fun a5 =>
 g5b1101001001110_16 L11010 x0 x1 x5 x6 x11 x12 a5 z2)
 (g5b1101001001110_16 L11010 x0 x1 x5 x6 x11 x12 (.bool true) z2))
 (g5b1101001001110_16 L11010 x0 x1 x5 x6 x11 x12 (.bool true) st)
theorem g5e1101001001110_7 (L11010 : V → V → V → V → St → Res) : (fun env st => aops Try.prog g5mu g5T 100 (rops (g5C [1, 1, 0, 1, 0, 0, 1, 0, 0, 1, 1, 1, 0])) [7, 8, 9, 10, 11, 12, 13, 14, 15, 16, 17, 18, 19, 20, 21, 22, 23, 24, 25, 26, 27, 28, 29, 30, 31, 32, 33, 34, 35, 36, 37, 38, 39, 40, 41, 42, 43, 44, 45, 46, 47, 48, 49] env st ((g5k5 L11010) .normal)) = fun env st => g5b1101001001110_7 L11010 (env 0) (env 1) (env 5) (env 6) (env 9) (env 10) (env 11) (env 12) (env 55) st := by
  refine Eq.trans (ops_cut (l1 := [7, 8, 9, 10, 11, 12, 13, 14, 15]) (l2 := [16, 17, 18, 19, 20, 21, 22, 23, 24, 25, 26, 27, 28, 29, 30, 31, 32, 33, 34, 35, 36, 37, 38, 39, 40, 41, 42, 43, 44, 45, 46, 47, 48, 49]) (g5e1101001001110_16 L11010)) ?_
  funext env st
  kernel_rfl
noncomputable def g5b110100100111 (L11010 : V → V → V → V → St → Res) (x0 : V) (x1 : V) (x5 : V) (x6 : V) (x7 : V) (x8 : V) (x9 : V) (x10 : V) (x11 : V) (x12 : V) (st : St) : Res :=
 A.eql 2 true x7 (.int .i64 0) fun a1 =>
 A.guard a1 false
 (A.eql 2 true x8 (.int .i64 1) fun a2 =>
 g5b1101001001110_7 L11010 x0 x1 x5 x6 x9 x10 x11 x12 a2 st)
 (g5b1101001001110_7 L11010 x0 x1 x5 x6 x9 x10 x11 x12 (.bool true) st)
theorem g5n110100100111 : g5C [1, 1, 0, 1, 0, 0, 1, 0, 0, 1, 1, 1] = .seq (g5C [1, 1, 0, 1, 0, 0, 1, 0, 0, 1, 1, 1, 0]) (g5C [1, 1, 0, 1, 0, 0, 1, 0, 0, 1, 1, 1, 1]) := by kernel_rfl
theorem g5rg1101001001110 : g5C [1, 1, 0, 1, 0, 0, 1, 0, 0, 1, 1, 1, 0] = .region 8 (rops (g5C [1, 1, 0, 1, 0, 0, 1, 0, 0, 1, 1, 1, 0])) false := by kernel_rfl
theorem g5rg1101001001110l : List.range (rops (g5C [1, 1, 0, 1, 0, 0, 1, 0, 0, 1, 1, 1, 0])).size = [0, 1, 2, 3, 4, 5, 6] ++ [7, 8, 9, 10, 11, 12, 13, 14, 15, 16, 17, 18, 19, 20, 21, 22, 23, 24, 25, 26, 27, 28, 29, 30, 31, 32, 33, 34, 35, 36, 37, 38, 39, 40, 41, 42, 43, 44, 45, 46, 47, 48, 49] := by kernel_rfl
theorem g5e110100100111 (L11010 : V → V → V → V → St → Res) : g5X (g5C [1, 1, 0, 1, 0, 0, 1, 0, 0, 1, 1, 1]) (g5k4 L11010) = fun env st => g5b110100100111 L11010 (env 0) (env 1) (env 5) (env 6) (env 7) (env 8) (env 9) (env 10) (env 11) (env 12) st := by
  refine Eq.trans ((g5seq g5n110100100111 rfl).trans (g5reg g5rg1101001001110 g5rg1101001001110l (g5e1101001001110_7 L11010))) ?_
  funext env st
  kernel_rfl
noncomputable def g5b11010010011 (L11010 : V → V → V → V → St → Res) (x0 : V) (x1 : V) (x5 : V) (x6 : V) (x7 : V) (x8 : V) (x9 : V) (x10 : V) (st : St) : Res :=
 A.iaddr 1 x5 x6 fun a1 =>
 A.load false 1 a1 st fun a2 z3 =>
 A.ret (s10 [a2.er1, x0.er1] z3) fun a4 z5 =>
 A.ext a4 0 fun a6 =>
 A.ext a4 1 fun a7 =>
 g5b110100100111 L11010 x0 x1 x5 x6 x7 x8 x9 x10 a6 a7 z5
theorem g5n11010010011 : g5C [1, 1, 0, 1, 0, 0, 1, 0, 0, 1, 1] = .seq (g5C [1, 1, 0, 1, 0, 0, 1, 0, 0, 1, 1, 0]) (g5C [1, 1, 0, 1, 0, 0, 1, 0, 0, 1, 1, 1]) := by kernel_rfl
theorem g5e11010010011 (L11010 : V → V → V → V → St → Res) : g5X (g5C [1, 1, 0, 1, 0, 0, 1, 0, 0, 1, 1]) (g5k4 L11010) = fun env st => g5b11010010011 L11010 (env 0) (env 1) (env 5) (env 6) (env 7) (env 8) (env 9) (env 10) st := by
  refine Eq.trans (g5seq g5n11010010011 (g5e110100100111 L11010)) ?_
  funext env st
  kernel_rfl
noncomputable def g5b1101001001 (L11010 : V → V → V → V → St → Res) (x0 : V) (x1 : V) (x5 : V) (x6 : V) (x7 : V) (x8 : V) (st : St) : Res :=
 A.iaddr 1 x5 x6 fun a1 =>
 A.load false 1 a1 st fun a2 z3 =>
 A.ret (s11 [a2.er1, x0.er1] z3) fun a4 z5 =>
 A.ext a4 0 fun a6 =>
 A.ext a4 1 fun a7 =>
 A.box (.agg [(.int .i64 0), (.int .i64 0), (.int .i64 0), (.str [])]) z5 fun a8 z9 =>
 A.store 4 a8 a6 z9 fun z10 =>
 g5b11010010011 L11010 x0 x1 x5 x6 x7 x8 a8 a7 z10
theorem g5n1101001001 : g5C [1, 1, 0, 1, 0, 0, 1, 0, 0, 1] = .seq (g5C [1, 1, 0, 1, 0, 0, 1, 0, 0, 1, 0]) (g5C [1, 1, 0, 1, 0, 0, 1, 0, 0, 1, 1]) := by kernel_rfl
theorem g5e1101001001 (L11010 : V → V → V → V → St → Res) : g5X (g5C [1, 1, 0, 1, 0, 0, 1, 0, 0, 1]) (g5k4 L11010) = fun env st => g5b1101001001 L11010 (env 0) (env 1) (env 5) (env 6) (env 7) (env 8) st := by
  refine Eq.trans (g5seq g5n1101001001 (g5e11010010011 L11010)) ?_
  funext env st
  kernel_rfl
noncomputable def g5b11010 : Nat → V → V → V → V → St → Res
| 0, _, _, _, _, _ => none
| n + 1, x0, x1, x5, x6, st =>
 A.lenL x5 fun a1 =>
 A.bin .lss x6 a1 fun a2 =>
 A.cond a2
 (A.iaddr 1 x5 x6 fun a3 =>
 A.load false 1 a3 st fun a4 z5 =>
 A.ret (s9 [a4.er1, ((.int .i64 0) : V).er1, ((.int .i64 0) : V).er1, x1.er1] z5) fun a6 z7 =>
 A.ext a6 0 fun a8 =>
 A.ext a6 1 fun a9 =>
 g5b1101001001 (g5b11010 n) x0 x1 x5 x6 a8 a9 z7)
 (A.ret (s13 [] st) fun a10 z11 =>
 some (.ret a10.er1, z11))
theorem g5n11010 : g5C [1, 1, 0, 1, 0] = .loop (g5C [1, 1, 0, 1, 0, 0]) := by kernel_rfl
theorem g5n110100 : g5C [1, 1, 0, 1, 0, 0] = .seq (g5C [1, 1, 0, 1, 0, 0, 0]) (g5C [1, 1, 0, 1, 0, 0, 1]) := by kernel_rfl
theorem g5n1101001 : g5C [1, 1, 0, 1, 0, 0, 1] = .seq (g5C [1, 1, 0, 1, 0, 0, 1, 0]) (g5C [1, 1, 0, 1, 0, 0, 1, 1]) := by kernel_rfl
theorem g5n11010010 : g5C [1, 1, 0, 1, 0, 0, 1, 0] = .block 1 (g5C [1, 1, 0, 1, 0, 0, 1, 0, 0]) := by kernel_rfl
theorem g5n110100100 : g5C [1, 1, 0, 1, 0, 0, 1, 0, 0] = .seq (g5C [1, 1, 0, 1, 0, 0, 1, 0, 0, 0]) (g5C [1, 1, 0, 1, 0, 0, 1, 0, 0, 1]) := by kernel_rfl
theorem g5e11010 : g5X (g5C [1, 1, 0, 1, 0]) (g5k1) = fun env st => g5b11010 big (env 0) (env 1) (env 5) (env 6) st := by
  have key : ∀ n, aloop (g5X (g5C [1, 1, 0, 1, 0, 0])) (g5k1) n = fun env st => g5b11010 n (env 0) (env 1) (env 5) (env 6) st := by
    intro n
    induction n with
    | zero => rfl
    | succ n ih =>
      have h : aloop (g5X (g5C [1, 1, 0, 1, 0, 0])) (g5k1) (n + 1) = g5X (g5C [1, 1, 0, 1, 0, 0]) (kSeq (aloop (g5X (g5C [1, 1, 0, 1, 0, 0])) (g5k1) n) (g5k1)) := rfl
      rw [h, ih]
      refine Eq.trans (g5seq g5n110100 ((g5seq g5n1101001 rfl).trans ((g5blk g5n11010010).trans (g5seq g5n110100100 (g5e1101001001 (g5b11010 n)))))) ?_
      funext env st
      kernel_rfl
  exact (g5loop g5n11010).trans (key big)
noncomputable def f5 (x0 : V) (x1 : V) (st : St) : Res :=
 A.build [(.int .i64 0), (.int .i64 0), .map0] [] fun a1 =>
 A.box a1 st fun a2 z3 =>
 A.bslice 1 .ptr0 2 [(0, .ptr0), (1, a2)] fun a4 =>
 g5b11010 big x0 x1 a4 (.int .i64 0) z3
theorem g5nr : g5C [] = .seq (g5C [0]) (g5C [1]) := by kernel_rfl
theorem g5n1 : g5C [1] = .seq (g5C [1, 0]) (g5C [1, 1]) := by kernel_rfl
theorem g5n11 : g5C [1, 1] = .seq (g5C [1, 1, 0]) (g5C [1, 1, 1]) := by kernel_rfl
theorem g5n110 : g5C [1, 1, 0] = .seq (g5C [1, 1, 0, 0]) (g5C [1, 1, 0, 1]) := by kernel_rfl
theorem g5n1101 : g5C [1, 1, 0, 1] = .block 0 (g5C [1, 1, 0, 1, 0]) := by kernel_rfl
theorem g5er (env : Env) (st : St) : g5X (g5C []) g5kr env st = f5 (env 0) (env 1) st := by
  rw [(g5seq g5nr (g5seq g5n1 ((g5seq g5n11 rfl).trans (g5seq g5n110 ((g5blk g5n1101).trans (g5e11010))))))]
  kernel_rfl
theorem s5_eq (x0 : V) (x1 : V) (st : St) : s5 [x0, x1] st = f5 x0 x1 st := by
  have h : afn Try.prog g5mu g5T big (areg Try.prog g5mu g5T) 5 [x0, x1] st = g5X (g5C []) g5kr (fun t => [x0, x1].getD t (.tup [])) st := by kernel_rfl
  rw [s5, sealF_eq]
  exact h.trans (g5er _ st)
/-! sinew/sinewlaw16.FieldNumbers -/
def g3mu : Nat → Bool := fun i => Nat.beq i 30
noncomputable def g3T : Tbl := tget [(7, s7), (8, s8), (9, s9), (10, s10), (11, s11), (12, s12), (13, s13)]
theorem g3t : SimT Try.prog g3T := simT_cons sim7 ( simT_cons sim8 ( simT_cons sim9 ( simT_cons sim10 ( simT_cons sim11 ( simT_cons sim12 ( simT_cons sim13 (simT_nil)))))))
noncomputable def s3 : Fn := sealF (afn Try.prog g3mu g3T big (areg Try.prog g3mu g3T) 3)
theorem sim3 : Sim Try.prog 3 s3 := (afn_sim g3t (fun m => areg_sound g3t hmix m) 3 (by kernel_rfl)).sealed
noncomputable def g3C (p : List Nat) : Code := sub (match Try.f3.body with | some c => c | none => .skip) p
noncomputable def g3X (c : Code) (K : Kon) : Env → St → Res := aexec Try.prog g3mu g3T big 173 (areg Try.prog g3mu g3T 173) c K
noncomputable def g3kr : Kon := aresK Try.prog Try.f3.results.toList
theorem g3reg {c : Code} {K : Kon} {G : Env → St → Res} {id : Nat} {ops : Array Oper} {l1 l2 : List Nat} (hc : c = .region id ops false) (hl : List.range ops.size = l1 ++ l2) (h : (fun env st => aops Try.prog g3mu g3T 173 ops l2 env st (K .normal)) = G) : g3X c K = fun env st => aops Try.prog g3mu g3T 173 ops l1 env st G := reg_cut hc hl h
theorem g3regD {c : Code} {K : Kon} {G : Env → St → Res} {id : Nat} {ops : Array Oper} {l1 l2 : List Nat} (hc : c = .region id ops true) (hok : regOk Try.prog g3mu ops (befs ops.toList []) = true) (hq : quiet Try.prog g3mu ops = true) (hl : List.range ops.size = l1 ++ l2) (h : (fun env st => aops Try.prog g3mu g3T 173 ops l2 env st (K .normal)) = G) : g3X c K = fun env st => aops Try.prog g3mu g3T 173 ops l1 env st G := reg_cutD hc hok hq hl h
theorem g3seq {c x y : Code} {K : Kon} {G : Env → St → Res} (hc : c = .seq x y) (hy : g3X y K = G) : g3X c K = g3X x (kSeq G K) := seq_cut hc hy
theorem g3blk {c x : Code} {K : Kon} {i : Nat} (hc : c = .block i x) : g3X c K = g3X x (kBlk i K) := blk_cut hc
theorem g3loop {c x : Code} {K : Kon} (hc : c = .loop x) : g3X c K = aloop (g3X x) K big := loop_cut hc
theorem g3cond {c x y : Code} {K : Kon} {v : Operand} {F G : Env → St → Res} (hc : c = .cond v x y) (hx : g3X x K = F) (hy : g3X y K = G) : g3X c K = condF v F G := cond_cut hc hx hy
noncomputable def g3k0 : Kon := kSeq (g3X (g3C [1, 1, 1, 1, 1, 1, 1]) (g3kr)) (g3kr)
noncomputable def g3k1 : Kon := kBlk 0 (g3k0)
noncomputable def g3k2 (L111111010 : V → V → V → V → V → V → St → Res) : Kon := kSeq (fun env st => L111111010 (env 0) (env 3) (env 5) (env 6) (env 7) (env 8) st) (g3k1)
noncomputable def g3k3 (L111111010 : V → V → V → V → V → V → St → Res) : Kon := kSeq (g3X (g3C [1, 1, 1, 1, 1, 1, 0, 1, 0, 0, 1, 1]) (g3k2 L111111010)) (g3k2 L111111010)
noncomputable def g3k4 (L111111010 : V → V → V → V → V → V → St → Res) : Kon := kBlk 1 (g3k3 L111111010)
noncomputable def g3b1111110100100111 (L111111010 : V → V → V → V → V → V → St → Res) (x0 : V) (x3 : V) (x5 : V) (x6 : V) (x7 : V) (x8 : V) (st : St) : Res :=
 A.ret (s12 [x3.er1] st) fun a1 z2 =>
 A.lenL a1 fun a3 =>
 A.eql 2 true a3 x7 fun a4 =>
 A.cond a4
 (some (.ret ((.bool false) : V).er1, z2))
 (A.bin .add x8 (.int .i64 1) fun a5 =>
 L111111010 x0 x3 x5 x6 x7 a5 z2)
theorem g3e1111110100100111 (L111111010 : V → V → V → V → V → V → St → Res) : g3X (g3C [1, 1, 1, 1, 1, 1, 0, 1, 0, 0, 1, 0, 0, 1, 1, 1]) (g3k4 L111111010) = fun env st => g3b1111110100100111 L111111010 (env 0) (env 3) (env 5) (env 6) (env 7) (env 8) st := by
  refine Eq.trans (Eq.refl (g3X (g3C [1, 1, 1, 1, 1, 1, 0, 1, 0, 0, 1, 0, 0, 1, 1, 1]) (g3k4 L111111010))) ?_
  funext env st
  kernel_rfl
noncomputable def g3k5 (L111111010 : V → V → V → V → V → V → St → Res) : Kon := kSeq (fun env st => g3b1111110100100111 L111111010 (env 0) (env 3) (env 5) (env 6) (env 7) (env 8) st) (g3k4 L111111010)
noncomputable def g3k6 (L111111010 : V → V → V → V → V → V → St → Res) : Kon := kBlk 2 (g3k5 L111111010)
noncomputable def g3b11111101001001101010111 (L111111010 : V → V → V → V → V → V → St → Res) (x0 : V) (x3 : V) (x5 : V) (x7 : V) (x8 : V) (x11 : V) (x12 : V) (st : St) : Res :=
 A.iaddr 1 x5 x12 fun a1 =>
 A.store 1 a1 x11 st fun z2 =>
 A.bin .add x7 (.int .i64 1) fun a3 =>
 g3b1111110100100111 L111111010 x0 x3 x5 x12 a3 x8 z2
theorem g3e11111101001001101010111 (L111111010 : V → V → V → V → V → V → St → Res) : g3X (g3C [1, 1, 1, 1, 1, 1, 0, 1, 0, 0, 1, 0, 0, 1, 1, 0, 1, 0, 1, 0, 1, 1, 1]) (g3k6 L111111010) = fun env st => g3b11111101001001101010111 L111111010 (env 0) (env 3) (env 5) (env 7) (env 8) (env 11) (env 12) st := by
  refine Eq.trans (Eq.refl (g3X (g3C [1, 1, 1, 1, 1, 1, 0, 1, 0, 0, 1, 0, 0, 1, 1, 0, 1, 0, 1, 0, 1, 1, 1]) (g3k6 L111111010))) ?_
  funext env st
  kernel_rfl
noncomputable def g3b1111110100100110101011 (L111111010 : V → V → V → V → V → V → St → Res) (x0 : V) (x3 : V) (x5 : V) (x6 : V) (x7 : V) (x8 : V) (x11 : V) (x12 : V) (x13 : V) (st : St) : Res :=
 A.eql 2 true x13 (.int .i64 0) fun a1 =>
 A.guard a1 false
 (A.bin .add x6 (.int .i64 1) fun a2 =>
 A.eql 2 true x12 a2 fun a3 =>
 A.cond a3
 (some (.ret ((.bool false) : V).er1, st))
 (g3b11111101001001101010111 L111111010 x0 x3 x5 x7 x8 x11 x12 st))
 (some (.ret ((.bool false) : V).er1, st))
theorem g3n1111110100100110101011 : g3C [1, 1, 1, 1, 1, 1, 0, 1, 0, 0, 1, 0, 0, 1, 1, 0, 1, 0, 1, 0, 1, 1] = .seq (g3C [1, 1, 1, 1, 1, 1, 0, 1, 0, 0, 1, 0, 0, 1, 1, 0, 1, 0, 1, 0, 1, 1, 0]) (g3C [1, 1, 1, 1, 1, 1, 0, 1, 0, 0, 1, 0, 0, 1, 1, 0, 1, 0, 1, 0, 1, 1, 1]) := by kernel_rfl
theorem g3e1111110100100110101011 (L111111010 : V → V → V → V → V → V → St → Res) : g3X (g3C [1, 1, 1, 1, 1, 1, 0, 1, 0, 0, 1, 0, 0, 1, 1, 0, 1, 0, 1, 0, 1, 1]) (g3k6 L111111010) = fun env st => g3b1111110100100110101011 L111111010 (env 0) (env 3) (env 5) (env 6) (env 7) (env 8) (env 11) (env 12) (env 13) st := by
  refine Eq.trans (g3seq g3n1111110100100110101011 (g3e11111101001001101010111 L111111010)) ?_
  funext env st
  kernel_rfl
noncomputable def g3b111111010010011010101 (L111111010 : V → V → V → V → V → V → St → Res) (x0 : V) (x3 : V) (x5 : V) (x6 : V) (x7 : V) (x8 : V) (x9 : V) (x11 : V) (st : St) : Res :=
 A.bin .shr x9 (.int .u64 2) fun a1 =>
 A.bin .and a1 (.int .i64 3) fun a2 =>
 A.bin .shr x9 (.int .u64 4) fun a3 =>
 A.bin .and a3 (.int .i64 3) fun a4 =>
 A.ret (s9 [x3.er1, a2.er1, a4.er1, x11.er1] st) fun a5 z6 =>
 A.ext a5 0 fun a7 =>
 A.ext a5 1 fun a8 =>
 g3b1111110100100110101011 L111111010 x0 x3 x5 x6 x7 x8 x11 a7 a8 z6
theorem g3n111111010010011010101 : g3C [1, 1, 1, 1, 1, 1, 0, 1, 0, 0, 1, 0, 0, 1, 1, 0, 1, 0, 1, 0, 1] = .seq (g3C [1, 1, 1, 1, 1, 1, 0, 1, 0, 0, 1, 0, 0, 1, 1, 0, 1, 0, 1, 0, 1, 0]) (g3C [1, 1, 1, 1, 1, 1, 0, 1, 0, 0, 1, 0, 0, 1, 1, 0, 1, 0, 1, 0, 1, 1]) := by kernel_rfl
theorem g3e111111010010011010101 (L111111010 : V → V → V → V → V → V → St → Res) : g3X (g3C [1, 1, 1, 1, 1, 1, 0, 1, 0, 0, 1, 0, 0, 1, 1, 0, 1, 0, 1, 0, 1]) (g3k6 L111111010) = fun env st => g3b111111010010011010101 L111111010 (env 0) (env 3) (env 5) (env 6) (env 7) (env 8) (env 9) (env 11) st := by
  refine Eq.trans (g3seq g3n111111010010011010101 (g3e1111110100100110101011 L111111010)) ?_
  funext env st
  kernel_rfl
noncomputable def g3b1111110100100110101110111 (L111111010 : V → V → V → V → V → V → St → Res) (x0 : V) (x3 : V) (x5 : V) (x7 : V) (x8 : V) (x10 : V) (x14 : V) (st : St) : Res :=
 A.iaddr 1 x5 x10 fun a1 =>
 A.load false 1 a1 st fun a2 z3 =>
 A.iaddr 1 x5 x14 fun a4 =>
 A.store 1 a4 a2 z3 fun z5 =>
 A.bin .add x7 (.int .i64 1) fun a6 =>
 g3b1111110100100111 L111111010 x0 x3 x5 x14 a6 x8 z5
theorem g3e1111110100100110101110111 (L111111010 : V → V → V → V → V → V → St → Res) : g3X (g3C [1, 1, 1, 1, 1, 1, 0, 1, 0, 0, 1, 0, 0, 1, 1, 0, 1, 0, 1, 1, 1, 0, 1, 1, 1]) (g3k6 L111111010) = fun env st => g3b1111110100100110101110111 L111111010 (env 0) (env 3) (env 5) (env 7) (env 8) (env 10) (env 14) st := by
  refine Eq.trans (Eq.refl (g3X (g3C [1, 1, 1, 1, 1, 1, 0, 1, 0, 0, 1, 0, 0, 1, 1, 0, 1, 0, 1, 1, 1, 0, 1, 1, 1]) (g3k6 L111111010))) ?_
  funext env st
  kernel_rfl
noncomputable def g3b111111010010011010111011 (L111111010 : V → V → V → V → V → V → St → Res) (x0 : V) (x3 : V) (x5 : V) (x6 : V) (x7 : V) (x8 : V) (x10 : V) (x14 : V) (x15 : V) (st : St) : Res :=
 A.eql 2 true x15 (.int .i64 0) fun a1 =>
 A.guard a1 false
 (A.bin .add x6 (.int .i64 1) fun a2 =>
 A.eql 2 true x14 a2 fun a3 =>
 A.guard a3 false
 (A.bin .gtr x10 x6 fun a4 =>
 A.cond a4
 (some (.ret ((.bool false) : V).er1, st))
 (g3b1111110100100110101110111 L111111010 x0 x3 x5 x7 x8 x10 x14 st))
 (some (.ret ((.bool false) : V).er1, st)))
 (some (.ret ((.bool false) : V).er1, st))
theorem g3n111111010010011010111011 : g3C [1, 1, 1, 1, 1, 1, 0, 1, 0, 0, 1, 0, 0, 1, 1, 0, 1, 0, 1, 1, 1, 0, 1, 1] = .seq (g3C [1, 1, 1, 1, 1, 1, 0, 1, 0, 0, 1, 0, 0, 1, 1, 0, 1, 0, 1, 1, 1, 0, 1, 1, 0]) (g3C [1, 1, 1, 1, 1, 1, 0, 1, 0, 0, 1, 0, 0, 1, 1, 0, 1, 0, 1, 1, 1, 0, 1, 1, 1]) := by kernel_rfl
theorem g3e111111010010011010111011 (L111111010 : V → V → V → V → V → V → St → Res) : g3X (g3C [1, 1, 1, 1, 1, 1, 0, 1, 0, 0, 1, 0, 0, 1, 1, 0, 1, 0, 1, 1, 1, 0, 1, 1]) (g3k6 L111111010) = fun env st => g3b111111010010011010111011 L111111010 (env 0) (env 3) (env 5) (env 6) (env 7) (env 8) (env 10) (env 14) (env 15) st := by
  refine Eq.trans (g3seq g3n111111010010011010111011 (g3e1111110100100110101110111 L111111010)) ?_
  funext env st
  kernel_rfl
noncomputable def g3k7 (L111111010 : V → V → V → V → V → V → St → Res) : Kon := kSeq (g3X (g3C [1, 1, 1, 1, 1, 1, 0, 1, 0, 0, 1, 0, 0, 1, 1, 0, 1, 0, 1, 1, 1, 1, 1, 1, 1, 1]) (g3k6 L111111010)) (g3k6 L111111010)
noncomputable def g3k8 (L111111010 : V → V → V → V → V → V → St → Res) : Kon := kSeq (g3X (g3C [1, 1, 1, 1, 1, 1, 0, 1, 0, 0, 1, 0, 0, 1, 1, 0, 1, 0, 1, 1, 1, 1, 1, 1, 1, 0, 1]) (g3k7 L111111010)) (g3k7 L111111010)
noncomputable def g3b111111010010011010111111100_13 (L111111010 : V → V → V → V → V → V → St → Res) (x0 : V) (x3 : V) (x5 : V) (x6 : V) (x7 : V) (x8 : V) (x10 : V) (x16 : V) (x78 : V) (st : St) : Res :=
 A.guard x78 false
 (A.bin .gtr x10 x6 fun a1 =>
 A.guard a1 false
 (A.faddr 3 x16 fun a2 =>
 A.load false 1 a2 st fun a3 z4 =>
 A.iaddr 1 x5 x10 fun a5 =>
 A.load false 1 a5 z4 fun a6 z7 =>
 A.eql 3 true a3 a6 fun a8 =>
 A.cond a8
 (some (.ret ((.bool false) : V).er1, z7))
 (A.bin .sub x7 (.int .i64 1) fun a9 =>
 g3b1111110100100111 L111111010 x0 x3 x5 x6 a9 x8 z7))
 (some (.ret ((.bool false) : V).er1, st)))
 (some (.ret ((.bool false) : V).er1, st))
theorem g3e111111010010011010111111100_13 (L111111010 : V → V → V → V → V → V → St → Res) : (fun env st => aops Try.prog g3mu g3T 173 (rops (g3C [1, 1, 1, 1, 1, 1, 0, 1, 0, 0, 1, 0, 0, 1, 1, 0, 1, 0, 1, 1, 1, 1, 1, 1, 1, 0, 0])) [13, 14, 15, 16, 17, 18, 19, 20, 21, 22, 23, 24, 25] env st ((g3k8 L111111010) .normal)) = fun env st => g3b111111010010011010111111100_13 L111111010 (env 0) (env 3) (env 5) (env 6) (env 7) (env 8) (env 10) (env 16) (env 78) st := by
  refine Eq.trans (Eq.refl _) ?_
  funext env st
  kernel_rfl
noncomputable def g3b111111010010011010111111100_7 (L111111010 : V → V → V → V → V → V → St → Res) (x0 : V) (x3 : V) (x5 : V) (x6 : V) (x7 : V) (x8 : V) (x10 : V) (x16 : V) (x72 : V) (st : St) : Res :=
 A.guard x72 false
 (A.faddr 0 x16 fun a1 =>
 A.load false 1 a1 st fun a2 z3 =>
 A.eql 2 true a2 x10 fun a4 =>
 g3b111111010010011010111111100_13 L111111010 x0 x3 x5 x6 x7 x8 x10 x16 a4 z3)
 (g3b111111010010011010111111100_13 L111111010 x0 x3 x5 x6 x7 x8 x10 x16 (.bool true) st)
theorem g3e111111010010011010111111100_7 (L111111010 : V → V → V → V → V → V → St → Res) : (fun env st => aops Try.prog g3mu g3T 173 (rops (g3C [1, 1, 1, 1, 1, 1, 0, 1, 0, 0, 1, 0, 0, 1, 1, 0, 1, 0, 1, 1, 1, 1, 1, 1, 1, 0, 0])) [7, 8, 9, 10, 11, 12, 13, 14, 15, 16, 17, 18, 19, 20, 21, 22, 23, 24, 25] env st ((g3k8 L111111010) .normal)) = fun env st => g3b111111010010011010111111100_7 L111111010 (env 0) (env 3) (env 5) (env 6) (env 7) (env 8) (env 10) (env 16) (env 72) st := by
  refine Eq.trans (ops_cut (l1 := [7, 8, 9, 10, 11, 12]) (l2 := [13, 14, 15, 16, 17, 18, 19, 20, 21, 22, 23, 24, 25]) (g3e111111010010011010111111100_13 L111111010)) ?_
  funext env st
  kernel_rfl
noncomputable def g3b111111010010011010111111 (L111111010 : V → V → V → V → V → V → St → Res) (x0 : V) (x3 : V) (x5 : V) (x6 : V) (x7 : V) (x8 : V) (x10 : V) (x16 : V) (x17 : V) (st : St) : Res :=
 A.ret (s11 [x3.er1, x10.er1] st) fun a1 z2 =>
 A.ext a1 0 fun a3 =>
 A.ext a1 1 fun a4 =>
 A.box (.agg [(.int .i64 0), (.int .i64 0), (.int .i64 0), (.str [])]) z2 fun a5 z6 =>
 A.store 4 a5 a3 z6 fun z7 =>
 A.eql 2 true x17 (.int .i64 0) fun a8 =>
 A.guard a8 false
 (A.eql 2 true a4 (.int .i64 3) fun a9 =>
 g3b111111010010011010111111100_7 L111111010 x0 x3 x5 x6 x7 x8 x10 x16 a9 z7)
 (g3b111111010010011010111111100_7 L111111010 x0 x3 x5 x6 x7 x8 x10 x16 (.bool true) z7)
theorem g3n111111010010011010111111 : g3C [1, 1, 1, 1, 1, 1, 0, 1, 0, 0, 1, 0, 0, 1, 1, 0, 1, 0, 1, 1, 1, 1, 1, 1] = .seq (g3C [1, 1, 1, 1, 1, 1, 0, 1, 0, 0, 1, 0, 0, 1, 1, 0, 1, 0, 1, 1, 1, 1, 1, 1, 0]) (g3C [1, 1, 1, 1, 1, 1, 0, 1, 0, 0, 1, 0, 0, 1, 1, 0, 1, 0, 1, 1, 1, 1, 1, 1, 1]) := by kernel_rfl
theorem g3n1111110100100110101111111 : g3C [1, 1, 1, 1, 1, 1, 0, 1, 0, 0, 1, 0, 0, 1, 1, 0, 1, 0, 1, 1, 1, 1, 1, 1, 1] = .seq (g3C [1, 1, 1, 1, 1, 1, 0, 1, 0, 0, 1, 0, 0, 1, 1, 0, 1, 0, 1, 1, 1, 1, 1, 1, 1, 0]) (g3C [1, 1, 1, 1, 1, 1, 0, 1, 0, 0, 1, 0, 0, 1, 1, 0, 1, 0, 1, 1, 1, 1, 1, 1, 1, 1]) := by kernel_rfl
theorem g3n11111101001001101011111110 : g3C [1, 1, 1, 1, 1, 1, 0, 1, 0, 0, 1, 0, 0, 1, 1, 0, 1, 0, 1, 1, 1, 1, 1, 1, 1, 0] = .seq (g3C [1, 1, 1, 1, 1, 1, 0, 1, 0, 0, 1, 0, 0, 1, 1, 0, 1, 0, 1, 1, 1, 1, 1, 1, 1, 0, 0]) (g3C [1, 1, 1, 1, 1, 1, 0, 1, 0, 0, 1, 0, 0, 1, 1, 0, 1, 0, 1, 1, 1, 1, 1, 1, 1, 0, 1]) := by kernel_rfl
theorem g3rg111111010010011010111111100 : g3C [1, 1, 1, 1, 1, 1, 0, 1, 0, 0, 1, 0, 0, 1, 1, 0, 1, 0, 1, 1, 1, 1, 1, 1, 1, 0, 0] = .region 16 (rops (g3C [1, 1, 1, 1, 1, 1, 0, 1, 0, 0, 1, 0, 0, 1, 1, 0, 1, 0, 1, 1, 1, 1, 1, 1, 1, 0, 0])) true := by kernel_rfl
theorem g3rg111111010010011010111111100o : regOk Try.prog g3mu (rops (g3C [1, 1, 1, 1, 1, 1, 0, 1, 0, 0, 1, 0, 0, 1, 1, 0, 1, 0, 1, 1, 1, 1, 1, 1, 1, 0, 0])) (befs (rops (g3C [1, 1, 1, 1, 1, 1, 0, 1, 0, 0, 1, 0, 0, 1, 1, 0, 1, 0, 1, 1, 1, 1, 1, 1, 1, 0, 0])).toList []) = true := by kernel_rfl
theorem g3rg111111010010011010111111100q : quiet Try.prog g3mu (rops (g3C [1, 1, 1, 1, 1, 1, 0, 1, 0, 0, 1, 0, 0, 1, 1, 0, 1, 0, 1, 1, 1, 1, 1, 1, 1, 0, 0])) = true := by kernel_rfl
theorem g3rg111111010010011010111111100l : List.range (rops (g3C [1, 1, 1, 1, 1, 1, 0, 1, 0, 0, 1, 0, 0, 1, 1, 0, 1, 0, 1, 1, 1, 1, 1, 1, 1, 0, 0])).size = [0, 1, 2, 3, 4, 5, 6] ++ [7, 8, 9, 10, 11, 12, 13, 14, 15, 16, 17, 18, 19, 20, 21, 22, 23, 24, 25] := by kernel_rfl
theorem g3e111111010010011010111111 (L111111010 : V → V → V → V → V → V → St → Res) : g3X (g3C [1, 1, 1, 1, 1, 1, 0, 1, 0, 0, 1, 0, 0, 1, 1, 0, 1, 0, 1, 1, 1, 1, 1, 1]) (g3k6 L111111010) = fun env st => g3b111111010010011010111111 L111111010 (env 0) (env 3) (env 5) (env 6) (env 7) (env 8) (env 10) (env 16) (env 17) st := by
  refine Eq.trans (g3seq g3n111111010010011010111111 ((g3seq g3n1111110100100110101111111 rfl).trans ((g3seq g3n11111101001001101011111110 rfl).trans (g3regD g3rg111111010010011010111111100 g3rg111111010010011010111111100o g3rg111111010010011010111111100q g3rg111111010010011010111111100l (g3e111111010010011010111111100_7 L111111010))))) ?_
  funext env st
  kernel_rfl
noncomputable def g3b1111110100100110101 (L111111010 : V → V → V → V → V → V → St → Res) (x0 : V) (x3 : V) (x5 : V) (x6 : V) (x7 : V) (x8 : V) (x9 : V) (x10 : V) (x51 : V) (x94 : V) (st : St) : Res :=
 A.cond x94
 (A.bin .and x8 (.int .i64 15) fun a1 =>
 A.bin .add (.int .i64 97) a1 fun a2 =>
 A.toInt .u8 a2 fun a3 =>
 A.bin .shr x8 (.int .u64 4) fun a4 =>
 A.bin .add (.int .i64 97) a4 fun a5 =>
 A.toInt .u8 a5 fun a6 =>
 A.bslice 1 (.int .u8 0) 2 [(0, a3), (1, a6)] fun a7 =>
 A.toStr a7 st fun a8 =>
 g3b111111010010011010101 L111111010 x0 x3 x5 x6 x7 x8 x9 a8 st)
 (A.eql 2 false x51 (.int .i64 2) fun a9 =>
 A.cond a9
 (A.bin .lss x10 (.int .i64 0) fun a10 =>
 A.cond a10
 (A.bin .add x8 (.int .i64 1) fun a11 =>
 L111111010 x0 x3 x5 x6 x7 a11 st)
 (A.ret (s10 [x3.er1, x10.er1] st) fun a12 z13 =>
 A.ext a12 0 fun a14 =>
 A.ext a12 1 fun a15 =>
 g3b111111010010011010111011 L111111010 x0 x3 x5 x6 x7 x8 x10 a14 a15 z13))
 (A.bin .lss x10 (.int .i64 0) fun a16 =>
 A.cond a16
 (A.bin .add x8 (.int .i64 1) fun a17 =>
 L111111010 x0 x3 x5 x6 x7 a17 st)
 (A.ret (s11 [x3.er1, x10.er1] st) fun a18 z19 =>
 A.ext a18 0 fun a20 =>
 A.ext a18 1 fun a21 =>
 A.box (.agg [(.int .i64 0), (.int .i64 0), (.int .i64 0), (.str [])]) z19 fun a22 z23 =>
 A.store 4 a22 a20 z23 fun z24 =>
 g3b111111010010011010111111 L111111010 x0 x3 x5 x6 x7 x8 x10 a22 a21 z24)))
theorem g3n1111110100100110101 : g3C [1, 1, 1, 1, 1, 1, 0, 1, 0, 0, 1, 0, 0, 1, 1, 0, 1, 0, 1] = .cond (.tmp 94) (g3C [1, 1, 1, 1, 1, 1, 0, 1, 0, 0, 1, 0, 0, 1, 1, 0, 1, 0, 1, 0]) (g3C [1, 1, 1, 1, 1, 1, 0, 1, 0, 0, 1, 0, 0, 1, 1, 0, 1, 0, 1, 1]) := by kernel_rfl
theorem g3n11111101001001101010 : g3C [1, 1, 1, 1, 1, 1, 0, 1, 0, 0, 1, 0, 0, 1, 1, 0, 1, 0, 1, 0] = .seq (g3C [1, 1, 1, 1, 1, 1, 0, 1, 0, 0, 1, 0, 0, 1, 1, 0, 1, 0, 1, 0, 0]) (g3C [1, 1, 1, 1, 1, 1, 0, 1, 0, 0, 1, 0, 0, 1, 1, 0, 1, 0, 1, 0, 1]) := by kernel_rfl
theorem g3n11111101001001101011 : g3C [1, 1, 1, 1, 1, 1, 0, 1, 0, 0, 1, 0, 0, 1, 1, 0, 1, 0, 1, 1] = .seq (g3C [1, 1, 1, 1, 1, 1, 0, 1, 0, 0, 1, 0, 0, 1, 1, 0, 1, 0, 1, 1, 0]) (g3C [1, 1, 1, 1, 1, 1, 0, 1, 0, 0, 1, 0, 0, 1, 1, 0, 1, 0, 1, 1, 1]) := by kernel_rfl
theorem g3n111111010010011010111 : g3C [1, 1, 1, 1, 1, 1, 0, 1, 0, 0, 1, 0, 0, 1, 1, 0, 1, 0, 1, 1, 1] = .cond (.tmp 134) (g3C [1, 1, 1, 1, 1, 1, 0, 1, 0, 0, 1, 0, 0, 1, 1, 0, 1, 0, 1, 1, 1, 0]) (g3C [1, 1, 1, 1, 1, 1, 0, 1, 0, 0, 1, 0, 0, 1, 1, 0, 1, 0, 1, 1, 1, 1]) := by kernel_rfl
theorem g3n1111110100100110101110 : g3C [1, 1, 1, 1, 1, 1, 0, 1, 0, 0, 1, 0, 0, 1, 1, 0, 1, 0, 1, 1, 1, 0] = .seq (g3C [1, 1, 1, 1, 1, 1, 0, 1, 0, 0, 1, 0, 0, 1, 1, 0, 1, 0, 1, 1, 1, 0, 0]) (g3C [1, 1, 1, 1, 1, 1, 0, 1, 0, 0, 1, 0, 0, 1, 1, 0, 1, 0, 1, 1, 1, 0, 1]) := by kernel_rfl
theorem g3n11111101001001101011101 : g3C [1, 1, 1, 1, 1, 1, 0, 1, 0, 0, 1, 0, 0, 1, 1, 0, 1, 0, 1, 1, 1, 0, 1] = .seq (g3C [1, 1, 1, 1, 1, 1, 0, 1, 0, 0, 1, 0, 0, 1, 1, 0, 1, 0, 1, 1, 1, 0, 1, 0]) (g3C [1, 1, 1, 1, 1, 1, 0, 1, 0, 0, 1, 0, 0, 1, 1, 0, 1, 0, 1, 1, 1, 0, 1, 1]) := by kernel_rfl
theorem g3n1111110100100110101111 : g3C [1, 1, 1, 1, 1, 1, 0, 1, 0, 0, 1, 0, 0, 1, 1, 0, 1, 0, 1, 1, 1, 1] = .seq (g3C [1, 1, 1, 1, 1, 1, 0, 1, 0, 0, 1, 0, 0, 1, 1, 0, 1, 0, 1, 1, 1, 1, 0]) (g3C [1, 1, 1, 1, 1, 1, 0, 1, 0, 0, 1, 0, 0, 1, 1, 0, 1, 0, 1, 1, 1, 1, 1]) := by kernel_rfl
theorem g3n11111101001001101011111 : g3C [1, 1, 1, 1, 1, 1, 0, 1, 0, 0, 1, 0, 0, 1, 1, 0, 1, 0, 1, 1, 1, 1, 1] = .seq (g3C [1, 1, 1, 1, 1, 1, 0, 1, 0, 0, 1, 0, 0, 1, 1, 0, 1, 0, 1, 1, 1, 1, 1, 0]) (g3C [1, 1, 1, 1, 1, 1, 0, 1, 0, 0, 1, 0, 0, 1, 1, 0, 1, 0, 1, 1, 1, 1, 1, 1]) := by kernel_rfl
theorem g3e1111110100100110101 (L111111010 : V → V → V → V → V → V → St → Res) : g3X (g3C [1, 1, 1, 1, 1, 1, 0, 1, 0, 0, 1, 0, 0, 1, 1, 0, 1, 0, 1]) (g3k6 L111111010) = fun env st => g3b1111110100100110101 L111111010 (env 0) (env 3) (env 5) (env 6) (env 7) (env 8) (env 9) (env 10) (env 51) (env 94) st := by
  refine Eq.trans (g3cond g3n1111110100100110101 (g3seq g3n11111101001001101010 (g3e111111010010011010101 L111111010)) (g3seq g3n11111101001001101011 (g3cond g3n111111010010011010111 (g3seq g3n1111110100100110101110 (g3seq g3n11111101001001101011101 (g3e111111010010011010111011 L111111010))) (g3seq g3n1111110100100110101111 (g3seq g3n11111101001001101011111 (g3e111111010010011010111111 L111111010)))))) ?_
  funext env st
  kernel_rfl
noncomputable def g3b111111010010011 (L111111010 : V → V → V → V → V → V → St → Res) (x0 : V) (x3 : V) (x5 : V) (x6 : V) (x7 : V) (x8 : V) (x9 : V) (x10 : V) (st : St) : Res :=
 A.bin .and x9 (.int .i64 3) fun a1 =>
 A.eql 2 false a1 (.int .i64 0) fun a2 =>
 A.cond a2
 (g3b1111110100100110101 L111111010 x0 x3 x5 x6 x7 x8 x9 x10 a1 a2 st)
 (A.eql 2 false a1 (.int .i64 1) fun a3 =>
 g3b1111110100100110101 L111111010 x0 x3 x5 x6 x7 x8 x9 x10 a1 a3 st)
theorem g3n111111010010011 : g3C [1, 1, 1, 1, 1, 1, 0, 1, 0, 0, 1, 0, 0, 1, 1] = .seq (g3C [1, 1, 1, 1, 1, 1, 0, 1, 0, 0, 1, 0, 0, 1, 1, 0]) (g3C [1, 1, 1, 1, 1, 1, 0, 1, 0, 0, 1, 0, 0, 1, 1, 1]) := by kernel_rfl
theorem g3n1111110100100110 : g3C [1, 1, 1, 1, 1, 1, 0, 1, 0, 0, 1, 0, 0, 1, 1, 0] = .seq (g3C [1, 1, 1, 1, 1, 1, 0, 1, 0, 0, 1, 0, 0, 1, 1, 0, 0]) (g3C [1, 1, 1, 1, 1, 1, 0, 1, 0, 0, 1, 0, 0, 1, 1, 0, 1]) := by kernel_rfl
theorem g3n11111101001001101 : g3C [1, 1, 1, 1, 1, 1, 0, 1, 0, 0, 1, 0, 0, 1, 1, 0, 1] = .block 2 (g3C [1, 1, 1, 1, 1, 1, 0, 1, 0, 0, 1, 0, 0, 1, 1, 0, 1, 0]) := by kernel_rfl
theorem g3n111111010010011010 : g3C [1, 1, 1, 1, 1, 1, 0, 1, 0, 0, 1, 0, 0, 1, 1, 0, 1, 0] = .seq (g3C [1, 1, 1, 1, 1, 1, 0, 1, 0, 0, 1, 0, 0, 1, 1, 0, 1, 0, 0]) (g3C [1, 1, 1, 1, 1, 1, 0, 1, 0, 0, 1, 0, 0, 1, 1, 0, 1, 0, 1]) := by kernel_rfl
theorem g3e111111010010011 (L111111010 : V → V → V → V → V → V → St → Res) : g3X (g3C [1, 1, 1, 1, 1, 1, 0, 1, 0, 0, 1, 0, 0, 1, 1]) (g3k4 L111111010) = fun env st => g3b111111010010011 L111111010 (env 0) (env 3) (env 5) (env 6) (env 7) (env 8) (env 9) (env 10) st := by
  refine Eq.trans ((g3seq g3n111111010010011 (g3e1111110100100111 L111111010)).trans (g3seq g3n1111110100100110 ((g3blk g3n11111101001001101).trans (g3seq g3n111111010010011010 (g3e1111110100100110101 L111111010))))) ?_
  funext env st
  kernel_rfl
noncomputable def g3b11111101001 (L111111010 : V → V → V → V → V → V → St → Res) (x0 : V) (x3 : V) (x5 : V) (x6 : V) (x7 : V) (x8 : V) (st : St) : Res :=
 A.iaddr 1 x0 x8 fun a1 =>
 A.load false 1 a1 st fun a2 z3 =>
 A.bin .and a2 (.int .i64 65535) fun a4 =>
 A.bin .shr a4 (.int .u64 2) fun a5 =>
 A.ret (s8 [x3.er1, a5.er1] z3) fun a6 z7 =>
 g3b111111010010011 L111111010 x0 x3 x5 x6 x7 x8 a4 a6 z7
theorem g3n11111101001 : g3C [1, 1, 1, 1, 1, 1, 0, 1, 0, 0, 1] = .seq (g3C [1, 1, 1, 1, 1, 1, 0, 1, 0, 0, 1, 0]) (g3C [1, 1, 1, 1, 1, 1, 0, 1, 0, 0, 1, 1]) := by kernel_rfl
theorem g3n111111010010 : g3C [1, 1, 1, 1, 1, 1, 0, 1, 0, 0, 1, 0] = .block 1 (g3C [1, 1, 1, 1, 1, 1, 0, 1, 0, 0, 1, 0, 0]) := by kernel_rfl
theorem g3n1111110100100 : g3C [1, 1, 1, 1, 1, 1, 0, 1, 0, 0, 1, 0, 0] = .seq (g3C [1, 1, 1, 1, 1, 1, 0, 1, 0, 0, 1, 0, 0, 0]) (g3C [1, 1, 1, 1, 1, 1, 0, 1, 0, 0, 1, 0, 0, 1]) := by kernel_rfl
theorem g3n11111101001001 : g3C [1, 1, 1, 1, 1, 1, 0, 1, 0, 0, 1, 0, 0, 1] = .seq (g3C [1, 1, 1, 1, 1, 1, 0, 1, 0, 0, 1, 0, 0, 1, 0]) (g3C [1, 1, 1, 1, 1, 1, 0, 1, 0, 0, 1, 0, 0, 1, 1]) := by kernel_rfl
theorem g3e11111101001 (L111111010 : V → V → V → V → V → V → St → Res) : g3X (g3C [1, 1, 1, 1, 1, 1, 0, 1, 0, 0, 1]) (g3k2 L111111010) = fun env st => g3b11111101001 L111111010 (env 0) (env 3) (env 5) (env 6) (env 7) (env 8) st := by
  refine Eq.trans ((g3seq g3n11111101001 rfl).trans ((g3blk g3n111111010010).trans (g3seq g3n1111110100100 (g3seq g3n11111101001001 (g3e111111010010011 L111111010))))) ?_
  funext env st
  kernel_rfl
noncomputable def g3b111111010 : Nat → V → V → V → V → V → V → St → Res
| 0, _, _, _, _, _, _, _ => none
| n + 1, x0, x3, x5, x6, x7, x8, st =>
 A.lenL x0 fun a1 =>
 A.bin .lss x8 a1 fun a2 =>
 A.guard a2 true
 (A.bin .lss x8 (.int .i64 200) fun a3 =>
 A.cond a3
 (g3b11111101001 (g3b111111010 n) x0 x3 x5 x6 x7 x8 st)
 (A.ret (s13 [] st) fun a4 z5 =>
 some (.ret a4.er1, z5)))
 (A.ret (s13 [] st) fun a6 z7 =>
 some (.ret a6.er1, z7))
theorem g3n111111010 : g3C [1, 1, 1, 1, 1, 1, 0, 1, 0] = .loop (g3C [1, 1, 1, 1, 1, 1, 0, 1, 0, 0]) := by kernel_rfl
theorem g3n1111110100 : g3C [1, 1, 1, 1, 1, 1, 0, 1, 0, 0] = .seq (g3C [1, 1, 1, 1, 1, 1, 0, 1, 0, 0, 0]) (g3C [1, 1, 1, 1, 1, 1, 0, 1, 0, 0, 1]) := by kernel_rfl
theorem g3e111111010 : g3X (g3C [1, 1, 1, 1, 1, 1, 0, 1, 0]) (g3k1) = fun env st => g3b111111010 big (env 0) (env 3) (env 5) (env 6) (env 7) (env 8) st := by
  have key : ∀ n, aloop (g3X (g3C [1, 1, 1, 1, 1, 1, 0, 1, 0, 0])) (g3k1) n = fun env st => g3b111111010 n (env 0) (env 3) (env 5) (env 6) (env 7) (env 8) st := by
    intro n
    induction n with
    | zero => rfl
    | succ n ih =>
      have h : aloop (g3X (g3C [1, 1, 1, 1, 1, 1, 0, 1, 0, 0])) (g3k1) (n + 1) = g3X (g3C [1, 1, 1, 1, 1, 1, 0, 1, 0, 0]) (kSeq (aloop (g3X (g3C [1, 1, 1, 1, 1, 1, 0, 1, 0, 0])) (g3k1) n) (g3k1)) := rfl
      rw [h, ih]
      refine Eq.trans (g3seq g3n1111110100 (g3e11111101001 (g3b111111010 n))) ?_
      funext env st
      kernel_rfl
  exact (g3loop g3n111111010).trans (key big)
noncomputable def g3b111 (x0 : V) (x3 : V) (st : St) : Res :=
 A.mkslM 1 16 (.str []) (.int .i64 201) (.int .i64 201) st fun a1 z2 =>
 g3b111111010 big x0 x3 a1 (.int .i64 0) (.int .i64 0) (.int .i64 0) z2
theorem g3n111 : g3C [1, 1, 1] = .seq (g3C [1, 1, 1, 0]) (g3C [1, 1, 1, 1]) := by kernel_rfl
theorem g3n1111 : g3C [1, 1, 1, 1] = .seq (g3C [1, 1, 1, 1, 0]) (g3C [1, 1, 1, 1, 1]) := by kernel_rfl
theorem g3n11111 : g3C [1, 1, 1, 1, 1] = .seq (g3C [1, 1, 1, 1, 1, 0]) (g3C [1, 1, 1, 1, 1, 1]) := by kernel_rfl
theorem g3n111111 : g3C [1, 1, 1, 1, 1, 1] = .seq (g3C [1, 1, 1, 1, 1, 1, 0]) (g3C [1, 1, 1, 1, 1, 1, 1]) := by kernel_rfl
theorem g3n1111110 : g3C [1, 1, 1, 1, 1, 1, 0] = .seq (g3C [1, 1, 1, 1, 1, 1, 0, 0]) (g3C [1, 1, 1, 1, 1, 1, 0, 1]) := by kernel_rfl
theorem g3n11111101 : g3C [1, 1, 1, 1, 1, 1, 0, 1] = .block 0 (g3C [1, 1, 1, 1, 1, 1, 0, 1, 0]) := by kernel_rfl
theorem g3e111 : g3X (g3C [1, 1, 1]) (g3kr) = fun env st => g3b111 (env 0) (env 3) st := by
  refine Eq.trans (g3seq g3n111 (g3seq g3n1111 (g3seq g3n11111 ((g3seq g3n111111 rfl).trans (g3seq g3n1111110 ((g3blk g3n11111101).trans (g3e111111010))))))) ?_
  funext env st
  kernel_rfl
noncomputable def f3 (x0 : V) (st : St) : Res :=
 A.ret (s7 [((.int .i64 4) : V).er1] st) fun a1 z2 =>
 A.ext a1 0 fun a3 =>
 A.ext a1 1 fun a4 =>
 A.eql 2 true a4 (.int .i64 0) fun a5 =>
 A.guard a5 false
 (A.eql 4 false a3 .ptr0 fun a6 =>
 A.cond a6
 (some (.ret ((.bool false) : V).er1, z2))
 (g3b111 x0 a3 z2))
 (some (.ret ((.bool false) : V).er1, z2))
theorem g3nr : g3C [] = .seq (g3C [0]) (g3C [1]) := by kernel_rfl
theorem g3n1 : g3C [1] = .seq (g3C [1, 0]) (g3C [1, 1]) := by kernel_rfl
theorem g3n11 : g3C [1, 1] = .seq (g3C [1, 1, 0]) (g3C [1, 1, 1]) := by kernel_rfl
theorem g3er (env : Env) (st : St) : g3X (g3C []) g3kr env st = f3 (env 0) st := by
  rw [(g3seq g3nr (g3seq g3n1 (g3seq g3n11 (g3e111))))]
  kernel_rfl
theorem s3_eq (x0 : V) (st : St) : s3 [x0] st = f3 x0 st := by
  have h : afn Try.prog g3mu g3T big (areg Try.prog g3mu g3T) 3 [x0] st = g3X (g3C []) g3kr (fun t => [x0].getD t (.tup [])) st := by kernel_rfl
  rw [s3, sealF_eq]
  exact h.trans (g3er _ st)
/-! sinew/sinewlaw16.FieldTo -/
def g6mu : Nat → Bool := fun _ => false
noncomputable def g6T : Tbl := tget [(7, s7), (8, s8), (9, s9), (10, s10), (11, s11), (12, s12), (13, s13), (20, s20)]
theorem g6t : SimT Try.prog g6T := simT_cons sim7 ( simT_cons sim8 ( simT_cons sim9 ( simT_cons sim10 ( simT_cons sim11 ( simT_cons sim12 ( simT_cons sim13 ( simT_cons sim20 (simT_nil))))))))
noncomputable def s6 : Fn := sealF (afn Try.prog g6mu g6T big (areg Try.prog g6mu g6T) 6)
theorem sim6 : Sim Try.prog 6 s6 := (afn_sim g6t (fun m => areg_sound g6t hmix m) 6 (by kernel_rfl)).sealed
noncomputable def g6C (p : List Nat) : Code := sub (match Try.f6.body with | some c => c | none => .skip) p
noncomputable def g6X (c : Code) (K : Kon) : Env → St → Res := aexec Try.prog g6mu g6T big 136 (areg Try.prog g6mu g6T 136) c K
noncomputable def g6kr : Kon := aresK Try.prog Try.f6.results.toList
theorem g6reg {c : Code} {K : Kon} {G : Env → St → Res} {id : Nat} {ops : Array Oper} {l1 l2 : List Nat} (hc : c = .region id ops false) (hl : List.range ops.size = l1 ++ l2) (h : (fun env st => aops Try.prog g6mu g6T 136 ops l2 env st (K .normal)) = G) : g6X c K = fun env st => aops Try.prog g6mu g6T 136 ops l1 env st G := reg_cut hc hl h
theorem g6regD {c : Code} {K : Kon} {G : Env → St → Res} {id : Nat} {ops : Array Oper} {l1 l2 : List Nat} (hc : c = .region id ops true) (hok : regOk Try.prog g6mu ops (befs ops.toList []) = true) (hq : quiet Try.prog g6mu ops = true) (hl : List.range ops.size = l1 ++ l2) (h : (fun env st => aops Try.prog g6mu g6T 136 ops l2 env st (K .normal)) = G) : g6X c K = fun env st => aops Try.prog g6mu g6T 136 ops l1 env st G := reg_cutD hc hok hq hl h
theorem g6seq {c x y : Code} {K : Kon} {G : Env → St → Res} (hc : c = .seq x y) (hy : g6X y K = G) : g6X c K = g6X x (kSeq G K) := seq_cut hc hy
theorem g6blk {c x : Code} {K : Kon} {i : Nat} (hc : c = .block i x) : g6X c K = g6X x (kBlk i K) := blk_cut hc
theorem g6loop {c x : Code} {K : Kon} (hc : c = .loop x) : g6X c K = aloop (g6X x) K big := loop_cut hc
theorem g6cond {c x y : Code} {K : Kon} {v : Operand} {F G : Env → St → Res} (hc : c = .cond v x y) (hx : g6X x K = F) (hy : g6X y K = G) : g6X c K = condF v F G := cond_cut hc hx hy
noncomputable def g6k0 : Kon := kSeq (g6X (g6C [1, 1, 1, 1, 1, 1, 1, 1]) (g6kr)) (g6kr)
noncomputable def g6b11111110_11 (x3 : V) (x128 : V) (st : St) : Res :=
 A.guard x128 true
 (A.ret (s8 [x3.er1, ((.int .i64 3) : V).er1] st) fun a1 z2 =>
 A.eql 2 false a1 (.int .i64 (-1)) fun a3 =>
 A.guard a3 true
 (A.ret (s13 [] z2) fun a4 z5 =>
 some (.ret a4.er1, z5))
 (some (.ret ((.bool false) : V).er1, z2)))
 (some (.ret ((.bool false) : V).er1, st))
theorem g6e11111110_11 : (fun env st => aops Try.prog g6mu g6T 136 (rops (g6C [1, 1, 1, 1, 1, 1, 1, 0])) [11, 12, 13, 14, 15, 16, 17, 18] env st ((g6k0) .normal)) = fun env st => g6b11111110_11 (env 3) (env 128) st := by
  refine Eq.trans (Eq.refl _) ?_
  funext env st
  kernel_rfl
noncomputable def g6b1111111 (x3 : V) (x7 : V) (x8 : V) (st : St) : Res :=
 A.lenL x7 fun a1 =>
 A.eql 2 false x8 a1 fun a2 =>
 A.guard a2 true
 (A.ret (s12 [x3.er1] st) fun a3 z4 =>
 A.lenL a3 fun a5 =>
 A.eql 2 false a5 (.int .i64 0) fun a6 =>
 g6b11111110_11 x3 a6 z4)
 (g6b11111110_11 x3 (.bool false) st)
theorem g6n1111111 : g6C [1, 1, 1, 1, 1, 1, 1] = .seq (g6C [1, 1, 1, 1, 1, 1, 1, 0]) (g6C [1, 1, 1, 1, 1, 1, 1, 1]) := by kernel_rfl
theorem g6rg11111110 : g6C [1, 1, 1, 1, 1, 1, 1, 0] = .region 28 (rops (g6C [1, 1, 1, 1, 1, 1, 1, 0])) false := by kernel_rfl
theorem g6rg11111110l : List.range (rops (g6C [1, 1, 1, 1, 1, 1, 1, 0])).size = [0, 1, 2, 3, 4, 5, 6, 7, 8, 9, 10] ++ [11, 12, 13, 14, 15, 16, 17, 18] := by kernel_rfl
theorem g6e1111111 : g6X (g6C [1, 1, 1, 1, 1, 1, 1]) (g6kr) = fun env st => g6b1111111 (env 3) (env 7) (env 8) st := by
  refine Eq.trans ((g6seq g6n1111111 rfl).trans (g6reg g6rg11111110 g6rg11111110l (g6e11111110_11))) ?_
  funext env st
  kernel_rfl
noncomputable def g6k1 : Kon := kSeq (fun env st => g6b1111111 (env 3) (env 7) (env 8) st) (g6kr)
noncomputable def g6k2 : Kon := kBlk 3 (g6k1)
noncomputable def g6k3 (L111111010 : V → V → V → V → St → Res) : Kon := kSeq (fun env st => L111111010 (env 3) (env 7) (env 8) (env 9) st) (g6k2)
noncomputable def g6k4 (L111111010 : V → V → V → V → St → Res) : Kon := kSeq (g6X (g6C [1, 1, 1, 1, 1, 1, 0, 1, 0, 0, 1, 1]) (g6k3 L111111010)) (g6k3 L111111010)
noncomputable def g6k5 (L111111010 : V → V → V → V → St → Res) : Kon := kBlk 4 (g6k4 L111111010)
noncomputable def g6k6 (L111111010 : V → V → V → V → St → Res) : Kon := kBlk 5 (g6k5 L111111010)
noncomputable def g6k7 (L111111010 : V → V → V → V → St → Res) (L11111101001001110 : V → V → V → V → V → V → St → Res) : Kon := kSeq (fun env st => L11111101001001110 (env 3) (env 7) (env 8) (env 9) (env 10) (env 11) st) (g6k6 L111111010)
noncomputable def g6k8 (L111111010 : V → V → V → V → St → Res) (L11111101001001110 : V → V → V → V → V → V → St → Res) : Kon := kSeq (g6X (g6C [1, 1, 1, 1, 1, 1, 0, 1, 0, 0, 1, 0, 0, 1, 1, 1, 0, 0, 1, 1]) (g6k7 L111111010 L11111101001001110)) (g6k7 L111111010 L11111101001001110)
noncomputable def g6k9 (L111111010 : V → V → V → V → St → Res) (L11111101001001110 : V → V → V → V → V → V → St → Res) : Kon := kBlk 6 (g6k8 L111111010 L11111101001001110)
noncomputable def g6k10 (L111111010 : V → V → V → V → St → Res) (L11111101001001110 : V → V → V → V → V → V → St → Res) : Kon := kSeq (g6X (g6C [1, 1, 1, 1, 1, 1, 0, 1, 0, 0, 1, 0, 0, 1, 1, 1, 0, 0, 1, 0, 0, 1, 1]) (g6k9 L111111010 L11111101001001110)) (g6k9 L111111010 L11111101001001110)
noncomputable def g6b11111101001001110010010_9 (L111111010 : V → V → V → V → St → Res) (L11111101001001110 : V → V → V → V → V → V → St → Res) (x3 : V) (x7 : V) (x8 : V) (x9 : V) (x10 : V) (x11 : V) (x102 : V) (st : St) : Res :=
 A.guard x102 false
 (A.bin .gtr x11 (.int .i64 0) fun a1 =>
 A.guardT a1 true
 (A.bin .sub x11 (.int .i64 1) fun a2 =>
 A.iaddr 1 x10 a2 fun a3 =>
 A.load false 1 a3 st fun a4 z5 =>
 A.iaddr 1 x10 x11 fun a6 =>
 A.load false 1 a6 z5 fun a7 z8 =>
 A.bin .geq a4 a7 fun a9 =>
 A.cond a9
 (some (.ret ((.bool false) : V).er1, z8))
 (A.bin .add x11 (.int .i64 1) fun a10 =>
 L11111101001001110 x3 x7 x8 x9 x10 a10 z8))
 (A.bin .add x11 (.int .i64 1) fun a11 =>
 L11111101001001110 x3 x7 x8 x9 x10 a11 st)
 (A.guardT a1 true
 (A.bin .sub x11 (.int .i64 1) fun a12 =>
 A.iaddr 1 (.tup []) a12 fun a13 =>
 A.load false 1 a13 st fun a14 z15 =>
 A.iaddr 1 x10 x11 fun a16 =>
 A.load false 1 a16 z15 fun a17 z18 =>
 A.bin .geq a14 a17 fun a19 =>
 A.cond a19
 (some (.ret ((.bool false) : V).er1, z18))
 (A.bin .add x11 (.int .i64 1) fun a20 =>
 L11111101001001110 x3 x7 x8 x9 x10 a20 z18))
 (A.bin .add x11 (.int .i64 1) fun a21 =>
 L11111101001001110 x3 x7 x8 x9 x10 a21 st)
 (A.guardT a1 true
 (A.bin .sub (.tup []) (.int .i64 1) fun a22 =>
 A.iaddr 1 (.tup []) a22 fun a23 =>
 A.load false 1 a23 st fun a24 z25 =>
 A.iaddr 1 x10 x11 fun a26 =>
 A.load false 1 a26 z25 fun a27 z28 =>
 A.bin .geq a24 a27 fun a29 =>
 A.cond a29
 (some (.ret ((.bool false) : V).er1, z28))
 (A.bin .add x11 (.int .i64 1) fun a30 =>
 L11111101001001110 x3 x7 x8 x9 x10 a30 z28))
 (A.bin .add x11 (.int .i64 1) fun a31 =>
 L11111101001001110 x3 x7 x8 x9 x10 a31 st)
 (A.guardT a1 true
 (A.iaddr 1 (.tup []) (.tup []) fun a32 =>
 A.load false 1 a32 st fun a33 z34 =>
 A.iaddr 1 x10 x11 fun a35 =>
 A.load false 1 a35 z34 fun a36 z37 =>
 A.bin .geq a33 a36 fun a38 =>
 A.cond a38
 (some (.ret ((.bool false) : V).er1, z37))
 (A.bin .add x11 (.int .i64 1) fun a39 =>
 L11111101001001110 x3 x7 x8 x9 x10 a39 z37))
 (A.bin .add x11 (.int .i64 1) fun a40 =>
 L11111101001001110 x3 x7 x8 x9 x10 a40 st)
 (A.guardT a1 true
 (A.load false 1 (.tup []) st fun a41 z42 =>
 A.iaddr 1 x10 x11 fun a43 =>
 A.load false 1 a43 z42 fun a44 z45 =>
 A.bin .geq a41 a44 fun a46 =>
 A.cond a46
 (some (.ret ((.bool false) : V).er1, z45))
 (A.bin .add x11 (.int .i64 1) fun a47 =>
 L11111101001001110 x3 x7 x8 x9 x10 a47 z45))
 (A.bin .add x11 (.int .i64 1) fun a48 =>
 L11111101001001110 x3 x7 x8 x9 x10 a48 st)
 (A.guardT a1 true
 (A.iaddr 1 x10 x11 fun a49 =>
 A.load false 1 a49 st fun a50 z51 =>
 A.bin .geq (.tup []) a50 fun a52 =>
 A.cond a52
 (some (.ret ((.bool false) : V).er1, z51))
 (A.bin .add x11 (.int .i64 1) fun a53 =>
 L11111101001001110 x3 x7 x8 x9 x10 a53 z51))
 (A.bin .add x11 (.int .i64 1) fun a54 =>
 L11111101001001110 x3 x7 x8 x9 x10 a54 st)
 (A.guardT a1 true
 (A.iaddr 1 (.tup []) x11 fun a55 =>
 A.load false 1 a55 st fun a56 z57 =>
 A.bin .geq (.tup []) a56 fun a58 =>
 A.cond a58
 (some (.ret ((.bool false) : V).er1, z57))
 (A.bin .add x11 (.int .i64 1) fun a59 =>
 L11111101001001110 x3 x7 x8 x9 x10 a59 z57))
 (A.bin .add x11 (.int .i64 1) fun a60 =>
 L11111101001001110 x3 x7 x8 x9 x10 a60 st)
 (A.guardT a1 true
 (A.iaddr 1 (.tup []) (.tup []) fun a61 =>
 A.load false 1 a61 st fun a62 z63 =>
 A.bin .geq (.tup []) a62 fun a64 =>
 A.cond a64
 (some (.ret ((.bool false) : V).er1, z63))
 (A.bin .add x11 (.int .i64 1) fun a65 =>
 L11111101001001110 x3 x7 x8 x9 x10 a65 z63))
 (A.bin .add x11 (.int .i64 1) fun a66 =>
 L11111101001001110 x3 x7 x8 x9 x10 a66 st)
 (A.guardT a1 true
 (A.load false 1 (.tup []) st fun a67 z68 =>
 A.bin .geq (.tup []) a67 fun a69 =>
 A.cond a69
 (some (.ret ((.bool false) : V).er1, z68))
 (A.bin .add x11 (.int .i64 1) fun a70 =>
 L11111101001001110 x3 x7 x8 x9 x10 a70 z68))
 (A.bin .add x11 (.int .i64 1) fun a71 =>
 L11111101001001110 x3 x7 x8 x9 x10 a71 st)
 (A.guardT a1 true
 (A.bin .geq (.tup []) (.tup []) fun a72 =>
 A.cond a72
 (some (.ret ((.bool false) : V).er1, st))
 (A.bin .add x11 (.int .i64 1) fun a73 =>
 L11111101001001110 x3 x7 x8 x9 x10 a73 st))
 (A.bin .add x11 (.int .i64 1) fun a74 =>
 L11111101001001110 x3 x7 x8 x9 x10 a74 st)
 (A.pick a1 (.tup []) (.bool false) fun a75 =>
 A.cond a75
 (some (.ret ((.bool false) : V).er1, st))
 (A.bin .add x11 (.int .i64 1) fun a76 =>
 L11111101001001110 x3 x7 x8 x9 x10 a76 st))))))))))))
 (some (.ret ((.bool false) : V).er1, st))
theorem g6e11111101001001110010010_9 (L111111010 : V → V → V → V → St → Res) (L11111101001001110 : V → V → V → V → V → V → St → Res) : (fun env st => aops Try.prog g6mu g6T 136 (rops (g6C [1, 1, 1, 1, 1, 1, 0, 1, 0, 0, 1, 0, 0, 1, 1, 1, 0, 0, 1, 0, 0, 1, 0])) [9, 10, 11, 12, 13, 14, 15, 16, 17, 18, 19, 20, 21, 22, 23] env st ((g6k10 L111111010 L11111101001001110) .normal)) = fun env st => g6b11111101001001110010010_9 L111111010 L11111101001001110 (env 3) (env 7) (env 8) (env 9) (env 10) (env 11) (env 102) st := by
  refine Eq.trans (Eq.refl _) ?_
  funext env st
  kernel_rfl
noncomputable def g6b1111110100100111001001 (L111111010 : V → V → V → V → St → Res) (L11111101001001110 : V → V → V → V → V → V → St → Res) (x3 : V) (x7 : V) (x8 : V) (x9 : V) (x10 : V) (x11 : V) (x12 : V) (x13 : V) (st : St) : Res :=
 A.eql 2 true x13 (.int .i64 0) fun a1 =>
 A.guard a1 false
 (A.faddr 2 x12 fun a2 =>
 A.load false 1 a2 st fun a3 z4 =>
 A.eql 2 true a3 x9 fun a5 =>
 g6b11111101001001110010010_9 L111111010 L11111101001001110 x3 x7 x8 x9 x10 x11 a5 z4)
 (g6b11111101001001110010010_9 L111111010 L11111101001001110 x3 x7 x8 x9 x10 x11 (.bool true) st)
theorem g6n1111110100100111001001 : g6C [1, 1, 1, 1, 1, 1, 0, 1, 0, 0, 1, 0, 0, 1, 1, 1, 0, 0, 1, 0, 0, 1] = .seq (g6C [1, 1, 1, 1, 1, 1, 0, 1, 0, 0, 1, 0, 0, 1, 1, 1, 0, 0, 1, 0, 0, 1, 0]) (g6C [1, 1, 1, 1, 1, 1, 0, 1, 0, 0, 1, 0, 0, 1, 1, 1, 0, 0, 1, 0, 0, 1, 1]) := by kernel_rfl
theorem g6rg11111101001001110010010 : g6C [1, 1, 1, 1, 1, 1, 0, 1, 0, 0, 1, 0, 0, 1, 1, 1, 0, 0, 1, 0, 0, 1, 0] = .region 26 (rops (g6C [1, 1, 1, 1, 1, 1, 0, 1, 0, 0, 1, 0, 0, 1, 1, 1, 0, 0, 1, 0, 0, 1, 0])) true := by kernel_rfl
theorem g6rg11111101001001110010010o : regOk Try.prog g6mu (rops (g6C [1, 1, 1, 1, 1, 1, 0, 1, 0, 0, 1, 0, 0, 1, 1, 1, 0, 0, 1, 0, 0, 1, 0])) (befs (rops (g6C [1, 1, 1, 1, 1, 1, 0, 1, 0, 0, 1, 0, 0, 1, 1, 1, 0, 0, 1, 0, 0, 1, 0])).toList []) = true := by kernel_rfl
theorem g6rg11111101001001110010010q : quiet Try.prog g6mu (rops (g6C [1, 1, 1, 1, 1, 1, 0, 1, 0, 0, 1, 0, 0, 1, 1, 1, 0, 0, 1, 0, 0, 1, 0])) = true := by kernel_rfl
theorem g6rg11111101001001110010010l : List.range (rops (g6C [1, 1, 1, 1, 1, 1, 0, 1, 0, 0, 1, 0, 0, 1, 1, 1, 0, 0, 1, 0, 0, 1, 0])).size = [0, 1, 2, 3, 4, 5, 6, 7, 8] ++ [9, 10, 11, 12, 13, 14, 15, 16, 17, 18, 19, 20, 21, 22, 23] := by kernel_rfl
theorem g6e1111110100100111001001 (L111111010 : V → V → V → V → St → Res) (L11111101001001110 : V → V → V → V → V → V → St → Res) : g6X (g6C [1, 1, 1, 1, 1, 1, 0, 1, 0, 0, 1, 0, 0, 1, 1, 1, 0, 0, 1, 0, 0, 1]) (g6k9 L111111010 L11111101001001110) = fun env st => g6b1111110100100111001001 L111111010 L11111101001001110 (env 3) (env 7) (env 8) (env 9) (env 10) (env 11) (env 12) (env 13) st := by
  refine Eq.trans ((g6seq g6n1111110100100111001001 rfl).trans (g6regD g6rg11111101001001110010010 g6rg11111101001001110010010o g6rg11111101001001110010010q g6rg11111101001001110010010l (g6e11111101001001110010010_9 L111111010 L11111101001001110))) ?_
  funext env st
  kernel_rfl
noncomputable def g6b11111101001001110 (L111111010 : V → V → V → V → St → Res) : Nat → V → V → V → V → V → V → St → Res
| 0, _, _, _, _, _, _, _ => none
| n + 1, x3, x7, x8, x9, x10, x11, st =>
 A.lenL x10 fun a1 =>
 A.bin .lss x11 a1 fun a2 =>
 A.cond a2
 (A.iaddr 1 x10 x11 fun a3 =>
 A.load false 1 a3 st fun a4 z5 =>
 A.ret (s11 [x3.er1, a4.er1] z5) fun a6 z7 =>
 A.ext a6 0 fun a8 =>
 A.ext a6 1 fun a9 =>
 A.box (.agg [(.int .i64 0), (.int .i64 0), (.int .i64 0), (.str [])]) z7 fun a10 z11 =>
 A.store 4 a10 a8 z11 fun z12 =>
 g6b1111110100100111001001 L111111010 (g6b11111101001001110 L111111010 n) x3 x7 x8 x9 x10 x11 a10 a9 z12)
 (A.bin .add x9 (.int .i64 1) fun a13 =>
 L111111010 x3 x7 x8 a13 st)
theorem g6n11111101001001110 : g6C [1, 1, 1, 1, 1, 1, 0, 1, 0, 0, 1, 0, 0, 1, 1, 1, 0] = .loop (g6C [1, 1, 1, 1, 1, 1, 0, 1, 0, 0, 1, 0, 0, 1, 1, 1, 0, 0]) := by kernel_rfl
theorem g6n111111010010011100 : g6C [1, 1, 1, 1, 1, 1, 0, 1, 0, 0, 1, 0, 0, 1, 1, 1, 0, 0] = .seq (g6C [1, 1, 1, 1, 1, 1, 0, 1, 0, 0, 1, 0, 0, 1, 1, 1, 0, 0, 0]) (g6C [1, 1, 1, 1, 1, 1, 0, 1, 0, 0, 1, 0, 0, 1, 1, 1, 0, 0, 1]) := by kernel_rfl
theorem g6n1111110100100111001 : g6C [1, 1, 1, 1, 1, 1, 0, 1, 0, 0, 1, 0, 0, 1, 1, 1, 0, 0, 1] = .seq (g6C [1, 1, 1, 1, 1, 1, 0, 1, 0, 0, 1, 0, 0, 1, 1, 1, 0, 0, 1, 0]) (g6C [1, 1, 1, 1, 1, 1, 0, 1, 0, 0, 1, 0, 0, 1, 1, 1, 0, 0, 1, 1]) := by kernel_rfl
theorem g6n11111101001001110010 : g6C [1, 1, 1, 1, 1, 1, 0, 1, 0, 0, 1, 0, 0, 1, 1, 1, 0, 0, 1, 0] = .block 6 (g6C [1, 1, 1, 1, 1, 1, 0, 1, 0, 0, 1, 0, 0, 1, 1, 1, 0, 0, 1, 0, 0]) := by kernel_rfl
theorem g6n111111010010011100100 : g6C [1, 1, 1, 1, 1, 1, 0, 1, 0, 0, 1, 0, 0, 1, 1, 1, 0, 0, 1, 0, 0] = .seq (g6C [1, 1, 1, 1, 1, 1, 0, 1, 0, 0, 1, 0, 0, 1, 1, 1, 0, 0, 1, 0, 0, 0]) (g6C [1, 1, 1, 1, 1, 1, 0, 1, 0, 0, 1, 0, 0, 1, 1, 1, 0, 0, 1, 0, 0, 1]) := by kernel_rfl
theorem g6e11111101001001110 (L111111010 : V → V → V → V → St → Res) : g6X (g6C [1, 1, 1, 1, 1, 1, 0, 1, 0, 0, 1, 0, 0, 1, 1, 1, 0]) (g6k6 L111111010) = fun env st => g6b11111101001001110 L111111010 big (env 3) (env 7) (env 8) (env 9) (env 10) (env 11) st := by
  have key : ∀ n, aloop (g6X (g6C [1, 1, 1, 1, 1, 1, 0, 1, 0, 0, 1, 0, 0, 1, 1, 1, 0, 0])) (g6k6 L111111010) n = fun env st => g6b11111101001001110 L111111010 n (env 3) (env 7) (env 8) (env 9) (env 10) (env 11) st := by
    intro n
    induction n with
    | zero => rfl
    | succ n ih =>
      have h : aloop (g6X (g6C [1, 1, 1, 1, 1, 1, 0, 1, 0, 0, 1, 0, 0, 1, 1, 1, 0, 0])) (g6k6 L111111010) (n + 1) = g6X (g6C [1, 1, 1, 1, 1, 1, 0, 1, 0, 0, 1, 0, 0, 1, 1, 1, 0, 0]) (kSeq (aloop (g6X (g6C [1, 1, 1, 1, 1, 1, 0, 1, 0, 0, 1, 0, 0, 1, 1, 1, 0, 0])) (g6k6 L111111010) n) (g6k6 L111111010)) := rfl
      rw [h, ih]
      refine Eq.trans (g6seq g6n111111010010011100 ((g6seq g6n1111110100100111001 rfl).trans ((g6blk g6n11111101001001110010).trans (g6seq g6n111111010010011100100 (g6e1111110100100111001001 L111111010 (g6b11111101001001110 L111111010 n)))))) ?_
      funext env st
      kernel_rfl
  exact (g6loop g6n11111101001001110).trans (key big)
noncomputable def g6b111111010010011 (L111111010 : V → V → V → V → St → Res) (x3 : V) (x7 : V) (x8 : V) (x9 : V) (x10 : V) (st : St) : Res :=
 g6b11111101001001110 L111111010 big x3 x7 x8 x9 x10 (.int .i64 0) st
theorem g6n111111010010011 : g6C [1, 1, 1, 1, 1, 1, 0, 1, 0, 0, 1, 0, 0, 1, 1] = .seq (g6C [1, 1, 1, 1, 1, 1, 0, 1, 0, 0, 1, 0, 0, 1, 1, 0]) (g6C [1, 1, 1, 1, 1, 1, 0, 1, 0, 0, 1, 0, 0, 1, 1, 1]) := by kernel_rfl
theorem g6n1111110100100111 : g6C [1, 1, 1, 1, 1, 1, 0, 1, 0, 0, 1, 0, 0, 1, 1, 1] = .block 5 (g6C [1, 1, 1, 1, 1, 1, 0, 1, 0, 0, 1, 0, 0, 1, 1, 1, 0]) := by kernel_rfl
theorem g6e111111010010011 (L111111010 : V → V → V → V → St → Res) : g6X (g6C [1, 1, 1, 1, 1, 1, 0, 1, 0, 0, 1, 0, 0, 1, 1]) (g6k5 L111111010) = fun env st => g6b111111010010011 L111111010 (env 3) (env 7) (env 8) (env 9) (env 10) st := by
  refine Eq.trans (g6seq g6n111111010010011 ((g6blk g6n1111110100100111).trans (g6e11111101001001110 L111111010))) ?_
  funext env st
  kernel_rfl
noncomputable def g6b111111010 : Nat → V → V → V → V → St → Res
| 0, _, _, _, _, _ => none
| n + 1, x3, x7, x8, x9, st =>
 A.bin .lss x9 (.int .i64 3) fun a1 =>
 A.cond a1
 (A.ret (s20 [x3.er1, x9.er1] st) fun a2 z3 =>
 A.lenL a2 fun a4 =>
 A.bin .add x8 a4 fun a5 =>
 g6b111111010010011 (g6b111111010 n) x3 x7 a5 x9 a2 z3)
 (g6b1111111 x3 x7 x8 st)
theorem g6n111111010 : g6C [1, 1, 1, 1, 1, 1, 0, 1, 0] = .loop (g6C [1, 1, 1, 1, 1, 1, 0, 1, 0, 0]) := by kernel_rfl
theorem g6n1111110100 : g6C [1, 1, 1, 1, 1, 1, 0, 1, 0, 0] = .seq (g6C [1, 1, 1, 1, 1, 1, 0, 1, 0, 0, 0]) (g6C [1, 1, 1, 1, 1, 1, 0, 1, 0, 0, 1]) := by kernel_rfl
theorem g6n11111101001 : g6C [1, 1, 1, 1, 1, 1, 0, 1, 0, 0, 1] = .seq (g6C [1, 1, 1, 1, 1, 1, 0, 1, 0, 0, 1, 0]) (g6C [1, 1, 1, 1, 1, 1, 0, 1, 0, 0, 1, 1]) := by kernel_rfl
theorem g6n111111010010 : g6C [1, 1, 1, 1, 1, 1, 0, 1, 0, 0, 1, 0] = .block 4 (g6C [1, 1, 1, 1, 1, 1, 0, 1, 0, 0, 1, 0, 0]) := by kernel_rfl
theorem g6n1111110100100 : g6C [1, 1, 1, 1, 1, 1, 0, 1, 0, 0, 1, 0, 0] = .seq (g6C [1, 1, 1, 1, 1, 1, 0, 1, 0, 0, 1, 0, 0, 0]) (g6C [1, 1, 1, 1, 1, 1, 0, 1, 0, 0, 1, 0, 0, 1]) := by kernel_rfl
theorem g6n11111101001001 : g6C [1, 1, 1, 1, 1, 1, 0, 1, 0, 0, 1, 0, 0, 1] = .seq (g6C [1, 1, 1, 1, 1, 1, 0, 1, 0, 0, 1, 0, 0, 1, 0]) (g6C [1, 1, 1, 1, 1, 1, 0, 1, 0, 0, 1, 0, 0, 1, 1]) := by kernel_rfl
theorem g6e111111010 : g6X (g6C [1, 1, 1, 1, 1, 1, 0, 1, 0]) (g6k2) = fun env st => g6b111111010 big (env 3) (env 7) (env 8) (env 9) st := by
  have key : ∀ n, aloop (g6X (g6C [1, 1, 1, 1, 1, 1, 0, 1, 0, 0])) (g6k2) n = fun env st => g6b111111010 n (env 3) (env 7) (env 8) (env 9) st := by
    intro n
    induction n with
    | zero => rfl
    | succ n ih =>
      have h : aloop (g6X (g6C [1, 1, 1, 1, 1, 1, 0, 1, 0, 0])) (g6k2) (n + 1) = g6X (g6C [1, 1, 1, 1, 1, 1, 0, 1, 0, 0]) (kSeq (aloop (g6X (g6C [1, 1, 1, 1, 1, 1, 0, 1, 0, 0])) (g6k2) n) (g6k2)) := rfl
      rw [h, ih]
      refine Eq.trans (g6seq g6n1111110100 ((g6seq g6n11111101001 rfl).trans ((g6blk g6n111111010010).trans (g6seq g6n1111110100100 (g6seq g6n11111101001001 (g6e111111010010011 (g6b111111010 n))))))) ?_
      funext env st
      kernel_rfl
  exact (g6loop g6n111111010).trans (key big)
noncomputable def g6b1111 (x3 : V) (st : St) : Res :=
 A.ret (s12 [x3.er1] st) fun a1 z2 =>
 g6b111111010 big x3 a1 (.int .i64 0) (.int .i64 0) z2
theorem g6n1111 : g6C [1, 1, 1, 1] = .seq (g6C [1, 1, 1, 1, 0]) (g6C [1, 1, 1, 1, 1]) := by kernel_rfl
theorem g6n11111 : g6C [1, 1, 1, 1, 1] = .seq (g6C [1, 1, 1, 1, 1, 0]) (g6C [1, 1, 1, 1, 1, 1]) := by kernel_rfl
theorem g6n111111 : g6C [1, 1, 1, 1, 1, 1] = .seq (g6C [1, 1, 1, 1, 1, 1, 0]) (g6C [1, 1, 1, 1, 1, 1, 1]) := by kernel_rfl
theorem g6n1111110 : g6C [1, 1, 1, 1, 1, 1, 0] = .seq (g6C [1, 1, 1, 1, 1, 1, 0, 0]) (g6C [1, 1, 1, 1, 1, 1, 0, 1]) := by kernel_rfl
theorem g6n11111101 : g6C [1, 1, 1, 1, 1, 1, 0, 1] = .block 3 (g6C [1, 1, 1, 1, 1, 1, 0, 1, 0]) := by kernel_rfl
theorem g6e1111 : g6X (g6C [1, 1, 1, 1]) (g6kr) = fun env st => g6b1111 (env 3) st := by
  refine Eq.trans (g6seq g6n1111 (g6seq g6n11111 ((g6seq g6n111111 (g6e1111111)).trans (g6seq g6n1111110 ((g6blk g6n11111101).trans (g6e111111010)))))) ?_
  funext env st
  kernel_rfl
noncomputable def g6k11 : Kon := kSeq (fun env st => g6b1111 (env 3) st) (g6kr)
noncomputable def g6k12 : Kon := kBlk 0 (g6k11)
noncomputable def g6k13 (L111010 : V → V → V → St → Res) : Kon := kSeq (fun env st => L111010 (env 0) (env 3) (env 5) st) (g6k12)
noncomputable def g6k14 (L111010 : V → V → V → St → Res) : Kon := kSeq (g6X (g6C [1, 1, 1, 0, 1, 0, 0, 1, 1]) (g6k13 L111010)) (g6k13 L111010)
noncomputable def g6k15 (L111010 : V → V → V → St → Res) : Kon := kBlk 1 (g6k14 L111010)
noncomputable def g6k16 (L111010 : V → V → V → St → Res) : Kon := kBlk 2 (g6k15 L111010)
noncomputable def g6b11101001001101 (L111010 : V → V → V → St → Res) (x0 : V) (x3 : V) (x5 : V) (x6 : V) (x40 : V) (x47 : V) (st : St) : Res :=
 A.cond x47
 (A.bin .shr x6 (.int .u64 2) fun a1 =>
 A.bin .rem a1 (.int .i64 3) fun a2 =>
 A.bin .shr x6 (.int .u64 4) fun a3 =>
 A.bin .rem a3 (.int .i64 3) fun a4 =>
 A.ret (s9 [x3.er1, a2.er1, a4.er1, ((.str [120]) : V).er1] st) fun a5 z6 =>
 A.bin .add x5 (.int .i64 1) fun a7 =>
 L111010 x0 x3 a7 z6)
 (A.eql 2 false x40 (.int .i64 2) fun a8 =>
 A.cond a8
 (A.bin .shr x6 (.int .u64 2) fun a9 =>
 A.ret (s8 [x3.er1, a9.er1] st) fun a10 z11 =>
 A.ret (s10 [x3.er1, a10.er1] z11) fun a12 z13 =>
 A.bin .add x5 (.int .i64 1) fun a14 =>
 L111010 x0 x3 a14 z13)
 (A.bin .shr x6 (.int .u64 2) fun a15 =>
 A.ret (s8 [x3.er1, a15.er1] st) fun a16 z17 =>
 A.ret (s11 [x3.er1, a16.er1] z17) fun a18 z19 =>
 A.bin .add x5 (.int .i64 1) fun a20 =>
 L111010 x0 x3 a20 z19))
theorem g6e11101001001101 (L111010 : V → V → V → St → Res) : g6X (g6C [1, 1, 1, 0, 1, 0, 0, 1, 0, 0, 1, 1, 0, 1]) (g6k16 L111010) = fun env st => g6b11101001001101 L111010 (env 0) (env 3) (env 5) (env 6) (env 40) (env 47) st := by
  refine Eq.trans (Eq.refl (g6X (g6C [1, 1, 1, 0, 1, 0, 0, 1, 0, 0, 1, 1, 0, 1]) (g6k16 L111010))) ?_
  funext env st
  kernel_rfl
noncomputable def g6b11101001 (L111010 : V → V → V → St → Res) (x0 : V) (x3 : V) (x5 : V) (st : St) : Res :=
 A.iaddr 1 x0 x5 fun a1 =>
 A.load false 1 a1 st fun a2 z3 =>
 A.bin .and a2 (.int .i64 65535) fun a4 =>
 A.bin .and a4 (.int .i64 3) fun a5 =>
 A.eql 2 false a5 (.int .i64 0) fun a6 =>
 A.cond a6
 (g6b11101001001101 L111010 x0 x3 x5 a4 a5 a6 z3)
 (A.eql 2 false a5 (.int .i64 1) fun a7 =>
 g6b11101001001101 L111010 x0 x3 x5 a4 a5 a7 z3)
theorem g6n11101001 : g6C [1, 1, 1, 0, 1, 0, 0, 1] = .seq (g6C [1, 1, 1, 0, 1, 0, 0, 1, 0]) (g6C [1, 1, 1, 0, 1, 0, 0, 1, 1]) := by kernel_rfl
theorem g6n111010010 : g6C [1, 1, 1, 0, 1, 0, 0, 1, 0] = .block 1 (g6C [1, 1, 1, 0, 1, 0, 0, 1, 0, 0]) := by kernel_rfl
theorem g6n1110100100 : g6C [1, 1, 1, 0, 1, 0, 0, 1, 0, 0] = .seq (g6C [1, 1, 1, 0, 1, 0, 0, 1, 0, 0, 0]) (g6C [1, 1, 1, 0, 1, 0, 0, 1, 0, 0, 1]) := by kernel_rfl
theorem g6n11101001001 : g6C [1, 1, 1, 0, 1, 0, 0, 1, 0, 0, 1] = .seq (g6C [1, 1, 1, 0, 1, 0, 0, 1, 0, 0, 1, 0]) (g6C [1, 1, 1, 0, 1, 0, 0, 1, 0, 0, 1, 1]) := by kernel_rfl
theorem g6n111010010011 : g6C [1, 1, 1, 0, 1, 0, 0, 1, 0, 0, 1, 1] = .block 2 (g6C [1, 1, 1, 0, 1, 0, 0, 1, 0, 0, 1, 1, 0]) := by kernel_rfl
theorem g6n1110100100110 : g6C [1, 1, 1, 0, 1, 0, 0, 1, 0, 0, 1, 1, 0] = .seq (g6C [1, 1, 1, 0, 1, 0, 0, 1, 0, 0, 1, 1, 0, 0]) (g6C [1, 1, 1, 0, 1, 0, 0, 1, 0, 0, 1, 1, 0, 1]) := by kernel_rfl
theorem g6e11101001 (L111010 : V → V → V → St → Res) : g6X (g6C [1, 1, 1, 0, 1, 0, 0, 1]) (g6k13 L111010) = fun env st => g6b11101001 L111010 (env 0) (env 3) (env 5) st := by
  refine Eq.trans ((g6seq g6n11101001 rfl).trans ((g6blk g6n111010010).trans (g6seq g6n1110100100 (g6seq g6n11101001001 ((g6blk g6n111010010011).trans (g6seq g6n1110100100110 (g6e11101001001101 L111010))))))) ?_
  funext env st
  kernel_rfl
noncomputable def g6b111010 : Nat → V → V → V → St → Res
| 0, _, _, _, _ => none
| n + 1, x0, x3, x5, st =>
 A.lenL x0 fun a1 =>
 A.bin .lss x5 a1 fun a2 =>
 A.guard a2 true
 (A.bin .lss x5 (.int .i64 100) fun a3 =>
 A.cond a3
 (g6b11101001 (g6b111010 n) x0 x3 x5 st)
 (g6b1111 x3 st))
 (g6b1111 x3 st)
theorem g6n111010 : g6C [1, 1, 1, 0, 1, 0] = .loop (g6C [1, 1, 1, 0, 1, 0, 0]) := by kernel_rfl
theorem g6n1110100 : g6C [1, 1, 1, 0, 1, 0, 0] = .seq (g6C [1, 1, 1, 0, 1, 0, 0, 0]) (g6C [1, 1, 1, 0, 1, 0, 0, 1]) := by kernel_rfl
theorem g6e111010 : g6X (g6C [1, 1, 1, 0, 1, 0]) (g6k12) = fun env st => g6b111010 big (env 0) (env 3) (env 5) st := by
  have key : ∀ n, aloop (g6X (g6C [1, 1, 1, 0, 1, 0, 0])) (g6k12) n = fun env st => g6b111010 n (env 0) (env 3) (env 5) st := by
    intro n
    induction n with
    | zero => rfl
    | succ n ih =>
      have h : aloop (g6X (g6C [1, 1, 1, 0, 1, 0, 0])) (g6k12) (n + 1) = g6X (g6C [1, 1, 1, 0, 1, 0, 0]) (kSeq (aloop (g6X (g6C [1, 1, 1, 0, 1, 0, 0])) (g6k12) n) (g6k12)) := rfl
      rw [h, ih]
      refine Eq.trans (g6seq g6n1110100 (g6e11101001 (g6b111010 n))) ?_
      funext env st
      kernel_rfl
  exact (g6loop g6n111010).trans (key big)
noncomputable def g6b111 (x0 : V) (x3 : V) (st : St) : Res :=
 g6b111010 big x0 x3 (.int .i64 0) st
theorem g6n111 : g6C [1, 1, 1] = .seq (g6C [1, 1, 1, 0]) (g6C [1, 1, 1, 1]) := by kernel_rfl
theorem g6n1110 : g6C [1, 1, 1, 0] = .seq (g6C [1, 1, 1, 0, 0]) (g6C [1, 1, 1, 0, 1]) := by kernel_rfl
theorem g6n11101 : g6C [1, 1, 1, 0, 1] = .block 0 (g6C [1, 1, 1, 0, 1, 0]) := by kernel_rfl
theorem g6e111 : g6X (g6C [1, 1, 1]) (g6kr) = fun env st => g6b111 (env 0) (env 3) st := by
  refine Eq.trans ((g6seq g6n111 (g6e1111)).trans (g6seq g6n1110 ((g6blk g6n11101).trans (g6e111010)))) ?_
  funext env st
  kernel_rfl
noncomputable def f6 (x0 : V) (st : St) : Res :=
 A.ret (s7 [((.int .i64 3) : V).er1] st) fun a1 z2 =>
 A.ext a1 0 fun a3 =>
 A.ext a1 1 fun a4 =>
 A.eql 2 true a4 (.int .i64 0) fun a5 =>
 A.guard a5 false
 (A.eql 4 false a3 .ptr0 fun a6 =>
 A.cond a6
 (some (.ret ((.bool false) : V).er1, z2))
 (g6b111 x0 a3 z2))
 (some (.ret ((.bool false) : V).er1, z2))
theorem g6nr : g6C [] = .seq (g6C [0]) (g6C [1]) := by kernel_rfl
theorem g6n1 : g6C [1] = .seq (g6C [1, 0]) (g6C [1, 1]) := by kernel_rfl
theorem g6n11 : g6C [1, 1] = .seq (g6C [1, 1, 0]) (g6C [1, 1, 1]) := by kernel_rfl
theorem g6er (env : Env) (st : St) : g6X (g6C []) g6kr env st = f6 (env 0) st := by
  rw [(g6seq g6nr (g6seq g6n1 (g6seq g6n11 (g6e111))))]
  kernel_rfl
theorem s6_eq (x0 : V) (st : St) : s6 [x0] st = f6 x0 st := by
  have h : afn Try.prog g6mu g6T big (areg Try.prog g6mu g6T) 6 [x0] st = g6X (g6C []) g6kr (fun t => [x0].getD t (.tup [])) st := by kernel_rfl
  rw [s6, sealF_eq]
  exact h.trans (g6er _ st)
/-! sinew/sinewlaw16.FieldPlays -/
def g4mu : Nat → Bool := fun _ => false
noncomputable def g4T : Tbl := tget [(7, s7), (8, s8), (9, s9), (10, s10), (11, s11), (12, s12), (13, s13), (14, s14), (15, s15), (16, s16), (17, s17), (18, s18), (19, s19), (20, s20), (21, s21)]
theorem g4t : SimT Try.prog g4T := simT_cons sim7 ( simT_cons sim8 ( simT_cons sim9 ( simT_cons sim10 ( simT_cons sim11 ( simT_cons sim12 ( simT_cons sim13 ( simT_cons sim14 ( simT_cons sim15 ( simT_cons sim16 ( simT_cons sim17 ( simT_cons sim18 ( simT_cons sim19 ( simT_cons sim20 ( simT_cons sim21 (simT_nil)))))))))))))))
noncomputable def s4 : Fn := sealF (afn Try.prog g4mu g4T big (areg Try.prog g4mu g4T) 4)
theorem sim4 : Sim Try.prog 4 s4 := (afn_sim g4t (fun m => areg_sound g4t hmix m) 4 (by kernel_rfl)).sealed
noncomputable def g4C (p : List Nat) : Code := sub (match Try.f4.body with | some c => c | none => .skip) p
noncomputable def g4X (c : Code) (K : Kon) : Env → St → Res := aexec Try.prog g4mu g4T big 195 (areg Try.prog g4mu g4T 195) c K
noncomputable def g4kr : Kon := aresK Try.prog Try.f4.results.toList
theorem g4reg {c : Code} {K : Kon} {G : Env → St → Res} {id : Nat} {ops : Array Oper} {l1 l2 : List Nat} (hc : c = .region id ops false) (hl : List.range ops.size = l1 ++ l2) (h : (fun env st => aops Try.prog g4mu g4T 195 ops l2 env st (K .normal)) = G) : g4X c K = fun env st => aops Try.prog g4mu g4T 195 ops l1 env st G := reg_cut hc hl h
theorem g4seq {c x y : Code} {K : Kon} {G : Env → St → Res} (hc : c = .seq x y) (hy : g4X y K = G) : g4X c K = g4X x (kSeq G K) := seq_cut hc hy
theorem g4blk {c x : Code} {K : Kon} {i : Nat} (hc : c = .block i x) : g4X c K = g4X x (kBlk i K) := blk_cut hc
theorem g4loop {c x : Code} {K : Kon} (hc : c = .loop x) : g4X c K = aloop (g4X x) K big := loop_cut hc
theorem g4cond {c x y : Code} {K : Kon} {v : Operand} {F G : Env → St → Res} (hc : c = .cond v x y) (hx : g4X x K = F) (hy : g4X y K = G) : g4X c K = condF v F G := cond_cut hc hx hy
noncomputable def g4k0 : Kon := kSeq (g4X (g4C [1, 1, 1, 1, 1, 1]) (g4kr)) (g4kr)
noncomputable def g4k1 : Kon := kBlk 0 (g4k0)
noncomputable def g4k2 (L11111010 : V → V → V → V → St → Res) : Kon := kSeq (fun env st => L11111010 (env 1) (env 5) (env 7) (env 9) st) (g4k1)
noncomputable def g4k3 (L11111010 : V → V → V → V → St → Res) : Kon := kSeq (g4X (g4C [1, 1, 1, 1, 1, 0, 1, 0, 0, 1, 1]) (g4k2 L11111010)) (g4k2 L11111010)
noncomputable def g4k4 (L11111010 : V → V → V → V → St → Res) : Kon := kBlk 1 (g4k3 L11111010)
noncomputable def g4b111110100100111 (L11111010 : V → V → V → V → St → Res) (x1 : V) (x5 : V) (x7 : V) (x9 : V) (st : St) : Res :=
 A.noP (A.ret (s12 [x5.er1] st) kid) fun a1 z2 =>
 A.load true 3 x7 z2 fun a3 _ =>
 A.chk (ldv true 3 x7 st) a3
 (A.noP (A.ret (s21 [a3.er1, ((.int .i64 (-1)) : V).er1] z2) kid) fun a4 z5 =>
 A.noP (A.ret (s19 [a1.er1, a4.er1] z5) kid) fun a6 z7 =>
 A.un .not a6 fun a8 =>
 A.cond a8
 (some (.ret ((.bool false) : V).er1, z7))
 (A.bin .add x9 (.int .i64 1) fun a9 =>
 L11111010 x1 x5 x7 a9 z7))
theorem g4e111110100100111 (L11111010 : V → V → V → V → St → Res) : g4X (g4C [1, 1, 1, 1, 1, 0, 1, 0, 0, 1, 0, 0, 1, 1, 1]) (g4k4 L11111010) = fun env st => g4b111110100100111 L11111010 (env 1) (env 5) (env 7) (env 9) st := by
  refine Eq.trans (Eq.refl (g4X (g4C [1, 1, 1, 1, 1, 0, 1, 0, 0, 1, 0, 0, 1, 1, 1]) (g4k4 L11111010))) ?_
  funext env st
  kernel_rfl
noncomputable def g4k5 (L11111010 : V → V → V → V → St → Res) : Kon := kSeq (fun env st => g4b111110100100111 L11111010 (env 1) (env 5) (env 7) (env 9) st) (g4k4 L11111010)
noncomputable def g4k6 (L11111010 : V → V → V → V → St → Res) : Kon := kBlk 2 (g4k5 L11111010)
noncomputable def g4b111110100100110101011 (L11111010 : V → V → V → V → St → Res) (x1 : V) (x5 : V) (x7 : V) (x9 : V) (x11 : V) (x12 : V) (x13 : V) (x14 : V) (x15 : V) (st : St) : Res :=
 A.eql 2 true x11 x14 fun a1 =>
 A.guard a1 false
 (A.eql 2 true x12 x15 fun a2 =>
 A.cond a2
 (some (.ret ((.bool false) : V).er1, st))
 (A.load true 3 x13 st fun a3 z4 =>
 A.store 3 x7 a3 z4 fun z5 =>
 g4b111110100100111 L11111010 x1 x5 x7 x9 z5))
 (some (.ret ((.bool false) : V).er1, st))
theorem g4e111110100100110101011 (L11111010 : V → V → V → V → St → Res) : g4X (g4C [1, 1, 1, 1, 1, 0, 1, 0, 0, 1, 0, 0, 1, 1, 0, 1, 0, 1, 0, 1, 1]) (g4k6 L11111010) = fun env st => g4b111110100100110101011 L11111010 (env 1) (env 5) (env 7) (env 9) (env 11) (env 12) (env 13) (env 14) (env 15) st := by
  refine Eq.trans (Eq.refl (g4X (g4C [1, 1, 1, 1, 1, 0, 1, 0, 0, 1, 0, 0, 1, 1, 0, 1, 0, 1, 0, 1, 1]) (g4k6 L11111010))) ?_
  funext env st
  kernel_rfl
noncomputable def g4b11111010010011010101 (L11111010 : V → V → V → V → St → Res) (x1 : V) (x5 : V) (x7 : V) (x9 : V) (x10 : V) (x11 : V) (x12 : V) (st : St) : Res :=
 A.load true 3 x7 st fun a1 z2 =>
 A.faddr 1 x10 fun a3 =>
 A.load false 1 a3 z2 fun a4 z5 =>
 A.faddr 2 x10 fun a6 =>
 A.load false 1 a6 z5 fun a7 z8 =>
 A.faddr 3 x10 fun a9 =>
 A.load false 1 a9 z8 fun a10 z11 =>
 A.ret (s15 [a1.er1, a4.er1, a7.er1, a10.er1] z11) fun a12 z13 =>
 A.ext a12 0 fun a14 =>
 A.ext a12 1 fun a15 =>
 A.ext a12 2 fun a16 =>
 A.box (.agg [(.int .i64 0), (.int .i64 0), (.lst [] 1)]) z13 fun a17 z18 =>
 A.store 3 a17 a14 z18 fun z19 =>
 g4b111110100100110101011 L11111010 x1 x5 x7 x9 x11 x12 a17 a15 a16 z19
theorem g4n11111010010011010101 : g4C [1, 1, 1, 1, 1, 0, 1, 0, 0, 1, 0, 0, 1, 1, 0, 1, 0, 1, 0, 1] = .seq (g4C [1, 1, 1, 1, 1, 0, 1, 0, 0, 1, 0, 0, 1, 1, 0, 1, 0, 1, 0, 1, 0]) (g4C [1, 1, 1, 1, 1, 0, 1, 0, 0, 1, 0, 0, 1, 1, 0, 1, 0, 1, 0, 1, 1]) := by kernel_rfl
theorem g4e11111010010011010101 (L11111010 : V → V → V → V → St → Res) : g4X (g4C [1, 1, 1, 1, 1, 0, 1, 0, 0, 1, 0, 0, 1, 1, 0, 1, 0, 1, 0, 1]) (g4k6 L11111010) = fun env st => g4b11111010010011010101 L11111010 (env 1) (env 5) (env 7) (env 9) (env 10) (env 11) (env 12) st := by
  refine Eq.trans (g4seq g4n11111010010011010101 (g4e111110100100110101011 L11111010)) ?_
  funext env st
  kernel_rfl
noncomputable def g4b11111010010011010111011 (L11111010 : V → V → V → V → St → Res) (x1 : V) (x5 : V) (x7 : V) (x9 : V) (x16 : V) (x17 : V) (x18 : V) (x19 : V) (x20 : V) (st : St) : Res :=
 A.load true 4 x16 st fun a1 z2 =>
 A.load true 4 x19 z2 fun a3 z4 =>
 A.eqS Try.prog 35 true a1 a3 fun a5 =>
 A.guard a5 false
 (A.eql 2 true x17 x20 fun a6 =>
 A.cond a6
 (some (.ret ((.bool false) : V).er1, z4))
 (A.load true 3 x18 z4 fun a7 z8 =>
 A.store 3 x7 a7 z8 fun z9 =>
 g4b111110100100111 L11111010 x1 x5 x7 x9 z9))
 (some (.ret ((.bool false) : V).er1, z4))
theorem g4e11111010010011010111011 (L11111010 : V → V → V → V → St → Res) : g4X (g4C [1, 1, 1, 1, 1, 0, 1, 0, 0, 1, 0, 0, 1, 1, 0, 1, 0, 1, 1, 1, 0, 1, 1]) (g4k6 L11111010) = fun env st => g4b11111010010011010111011 L11111010 (env 1) (env 5) (env 7) (env 9) (env 16) (env 17) (env 18) (env 19) (env 20) st := by
  refine Eq.trans (Eq.refl (g4X (g4C [1, 1, 1, 1, 1, 0, 1, 0, 0, 1, 0, 0, 1, 1, 0, 1, 0, 1, 1, 1, 0, 1, 1]) (g4k6 L11111010))) ?_
  funext env st
  kernel_rfl
noncomputable def g4b1111101001001101011101 (L11111010 : V → V → V → V → St → Res) (x1 : V) (x5 : V) (x7 : V) (x9 : V) (x10 : V) (x16 : V) (x17 : V) (st : St) : Res :=
 A.load true 3 x7 st fun a1 z2 =>
 A.faddr 1 x10 fun a3 =>
 A.load false 1 a3 z2 fun a4 z5 =>
 A.ret (s16 [a1.er1, a4.er1] z5) fun a6 z7 =>
 A.ext a6 0 fun a8 =>
 A.ext a6 1 fun a9 =>
 A.ext a6 2 fun a10 =>
 A.box (.agg [(.int .i64 0), (.int .i64 0), (.lst [] 1)]) z7 fun a11 z12 =>
 A.box (.agg [(.int .i64 0), (.int .i64 0), (.int .i64 0), (.str [])]) z12 fun a13 z14 =>
 A.store 3 a11 a8 z14 fun z15 =>
 A.store 4 a13 a9 z15 fun z16 =>
 g4b11111010010011010111011 L11111010 x1 x5 x7 x9 x16 x17 a11 a13 a10 z16
theorem g4n1111101001001101011101 : g4C [1, 1, 1, 1, 1, 0, 1, 0, 0, 1, 0, 0, 1, 1, 0, 1, 0, 1, 1, 1, 0, 1] = .seq (g4C [1, 1, 1, 1, 1, 0, 1, 0, 0, 1, 0, 0, 1, 1, 0, 1, 0, 1, 1, 1, 0, 1, 0]) (g4C [1, 1, 1, 1, 1, 0, 1, 0, 0, 1, 0, 0, 1, 1, 0, 1, 0, 1, 1, 1, 0, 1, 1]) := by kernel_rfl
theorem g4e1111101001001101011101 (L11111010 : V → V → V → V → St → Res) : g4X (g4C [1, 1, 1, 1, 1, 0, 1, 0, 0, 1, 0, 0, 1, 1, 0, 1, 0, 1, 1, 1, 0, 1]) (g4k6 L11111010) = fun env st => g4b1111101001001101011101 L11111010 (env 1) (env 5) (env 7) (env 9) (env 10) (env 16) (env 17) st := by
  refine Eq.trans (g4seq g4n1111101001001101011101 (g4e11111010010011010111011 L11111010)) ?_
  funext env st
  kernel_rfl
noncomputable def g4b1111101001001101011111011 (L11111010 : V → V → V → V → St → Res) (x1 : V) (x5 : V) (x7 : V) (x9 : V) (x21 : V) (x22 : V) (x23 : V) (x24 : V) (x25 : V) (st : St) : Res :=
 A.eql 2 true x21 x24 fun a1 =>
 A.guard a1 false
 (A.eql 2 true x22 x25 fun a2 =>
 A.cond a2
 (some (.ret ((.bool false) : V).er1, st))
 (A.load true 3 x23 st fun a3 z4 =>
 A.store 3 x7 a3 z4 fun z5 =>
 g4b111110100100111 L11111010 x1 x5 x7 x9 z5))
 (some (.ret ((.bool false) : V).er1, st))
theorem g4e1111101001001101011111011 (L11111010 : V → V → V → V → St → Res) : g4X (g4C [1, 1, 1, 1, 1, 0, 1, 0, 0, 1, 0, 0, 1, 1, 0, 1, 0, 1, 1, 1, 1, 1, 0, 1, 1]) (g4k6 L11111010) = fun env st => g4b1111101001001101011111011 L11111010 (env 1) (env 5) (env 7) (env 9) (env 21) (env 22) (env 23) (env 24) (env 25) st := by
  refine Eq.trans (Eq.refl (g4X (g4C [1, 1, 1, 1, 1, 0, 1, 0, 0, 1, 0, 0, 1, 1, 0, 1, 0, 1, 1, 1, 1, 1, 0, 1, 1]) (g4k6 L11111010))) ?_
  funext env st
  kernel_rfl
noncomputable def g4b111110100100110101111101 (L11111010 : V → V → V → V → St → Res) (x1 : V) (x5 : V) (x7 : V) (x9 : V) (x10 : V) (x21 : V) (x22 : V) (st : St) : Res :=
 A.load true 3 x7 st fun a1 z2 =>
 A.faddr 1 x10 fun a3 =>
 A.load false 1 a3 z2 fun a4 z5 =>
 A.ret (s17 [a1.er1, a4.er1] z5) fun a6 z7 =>
 A.ext a6 0 fun a8 =>
 A.ext a6 1 fun a9 =>
 A.ext a6 2 fun a10 =>
 A.box (.agg [(.int .i64 0), (.int .i64 0), (.lst [] 1)]) z7 fun a11 z12 =>
 A.store 3 a11 a8 z12 fun z13 =>
 g4b1111101001001101011111011 L11111010 x1 x5 x7 x9 x21 x22 a11 a9 a10 z13
theorem g4n111110100100110101111101 : g4C [1, 1, 1, 1, 1, 0, 1, 0, 0, 1, 0, 0, 1, 1, 0, 1, 0, 1, 1, 1, 1, 1, 0, 1] = .seq (g4C [1, 1, 1, 1, 1, 0, 1, 0, 0, 1, 0, 0, 1, 1, 0, 1, 0, 1, 1, 1, 1, 1, 0, 1, 0]) (g4C [1, 1, 1, 1, 1, 0, 1, 0, 0, 1, 0, 0, 1, 1, 0, 1, 0, 1, 1, 1, 1, 1, 0, 1, 1]) := by kernel_rfl
theorem g4e111110100100110101111101 (L11111010 : V → V → V → V → St → Res) : g4X (g4C [1, 1, 1, 1, 1, 0, 1, 0, 0, 1, 0, 0, 1, 1, 0, 1, 0, 1, 1, 1, 1, 1, 0, 1]) (g4k6 L11111010) = fun env st => g4b111110100100110101111101 L11111010 (env 1) (env 5) (env 7) (env 9) (env 10) (env 21) (env 22) st := by
  refine Eq.trans (g4seq g4n111110100100110101111101 (g4e1111101001001101011111011 L11111010)) ?_
  funext env st
  kernel_rfl
noncomputable def g4b11111010010011 (L11111010 : V → V → V → V → St → Res) (x1 : V) (x5 : V) (x7 : V) (x9 : V) (x10 : V) (st : St) : Res :=
 A.faddr 0 x10 fun a1 =>
 A.load false 1 a1 st fun a2 z3 =>
 A.eql 2 false a2 (.int .i64 1) fun a4 =>
 A.cond a4
 (A.faddr 1 x10 fun a5 =>
 A.load false 1 a5 z3 fun a6 z7 =>
 A.faddr 2 x10 fun a8 =>
 A.load false 1 a8 z7 fun a9 z10 =>
 A.faddr 3 x10 fun a11 =>
 A.load false 1 a11 z10 fun a12 z13 =>
 A.ret (s9 [x5.er1, a6.er1, a9.er1, a12.er1] z13) fun a14 z15 =>
 A.ext a14 0 fun a16 =>
 A.ext a14 1 fun a17 =>
 g4b11111010010011010101 L11111010 x1 x5 x7 x9 x10 a16 a17 z15)
 (A.eql 2 false a2 (.int .i64 2) fun a18 =>
 A.cond a18
 (A.faddr 1 x10 fun a19 =>
 A.load false 1 a19 z3 fun a20 z21 =>
 A.ret (s11 [x5.er1, a20.er1] z21) fun a22 z23 =>
 A.ext a22 0 fun a24 =>
 A.ext a22 1 fun a25 =>
 A.box (.agg [(.int .i64 0), (.int .i64 0), (.int .i64 0), (.str [])]) z23 fun a26 z27 =>
 A.store 4 a26 a24 z27 fun z28 =>
 g4b1111101001001101011101 L11111010 x1 x5 x7 x9 x10 a26 a25 z28)
 (A.eql 2 false a2 (.int .i64 3) fun a29 =>
 A.cond a29
 (A.faddr 1 x10 fun a30 =>
 A.load false 1 a30 z3 fun a31 z32 =>
 A.ret (s10 [x5.er1, a31.er1] z32) fun a33 z34 =>
 A.ext a33 0 fun a35 =>
 A.ext a33 1 fun a36 =>
 g4b111110100100110101111101 L11111010 x1 x5 x7 x9 x10 a35 a36 z34)
 (A.eql 2 false a2 (.int .i64 4) fun a37 =>
 A.cond a37
 (A.faddr 1 x10 fun a38 =>
 A.load false 1 a38 z3 fun a39 _ =>
 A.noP (A.ret (s8 [x5.er1, a39.er1] z3) kid) fun a40 z41 =>
 A.load true 3 x7 z41 fun a42 _ =>
 A.chk (ldv true 3 x7 z3) a42
 (A.faddr 1 x10 fun a43 =>
 A.load false 1 a43 z41 fun a44 _ =>
 A.chk (ldv false 1 a43 z3) a44
 (A.noP (A.ret (s18 [a42.er1, a44.er1] z41) kid) fun a45 z46 =>
 A.eql 2 true a40 a45 fun a47 =>
 A.cond a47
 (some (.ret ((.bool false) : V).er1, z46))
 (g4b111110100100111 L11111010 x1 x5 x7 x9 z46))))
 (A.faddr 1 x10 fun a48 =>
 A.load false 1 a48 z3 fun a49 _ =>
 A.bin .geq a49 (.int .i64 0) fun a50 =>
 A.guard a50 true
 (A.faddr 1 x10 fun a51 =>
 A.load false 1 a51 z3 fun a52 _ =>
 A.noP (A.ret (s20 [x5.er1, a52.er1] z3) kid) fun a53 z54 =>
 A.load true 3 x7 z54 fun a55 _ =>
 A.chk (ldv true 3 x7 z3) a55
 (A.faddr 1 x10 fun a56 =>
 A.load false 1 a56 z54 fun a57 _ =>
 A.chk (ldv false 1 a56 z3) a57
 (A.noP (A.ret (s21 [a55.er1, a57.er1] z54) kid) fun a58 z59 =>
 A.noP (A.ret (s19 [a53.er1, a58.er1] z59) kid) fun a60 z61 =>
 A.un .not a60 fun a62 =>
 A.cond a62
 (some (.ret ((.bool false) : V).er1, z61))
 (g4b111110100100111 L11111010 x1 x5 x7 x9 z61))))
 (g4b111110100100111 L11111010 x1 x5 x7 x9 z3)))))
theorem g4n11111010010011 : g4C [1, 1, 1, 1, 1, 0, 1, 0, 0, 1, 0, 0, 1, 1] = .seq (g4C [1, 1, 1, 1, 1, 0, 1, 0, 0, 1, 0, 0, 1, 1, 0]) (g4C [1, 1, 1, 1, 1, 0, 1, 0, 0, 1, 0, 0, 1, 1, 1]) := by kernel_rfl
theorem g4n111110100100110 : g4C [1, 1, 1, 1, 1, 0, 1, 0, 0, 1, 0, 0, 1, 1, 0] = .seq (g4C [1, 1, 1, 1, 1, 0, 1, 0, 0, 1, 0, 0, 1, 1, 0, 0]) (g4C [1, 1, 1, 1, 1, 0, 1, 0, 0, 1, 0, 0, 1, 1, 0, 1]) := by kernel_rfl
theorem g4n1111101001001101 : g4C [1, 1, 1, 1, 1, 0, 1, 0, 0, 1, 0, 0, 1, 1, 0, 1] = .block 2 (g4C [1, 1, 1, 1, 1, 0, 1, 0, 0, 1, 0, 0, 1, 1, 0, 1, 0]) := by kernel_rfl
theorem g4n11111010010011010 : g4C [1, 1, 1, 1, 1, 0, 1, 0, 0, 1, 0, 0, 1, 1, 0, 1, 0] = .seq (g4C [1, 1, 1, 1, 1, 0, 1, 0, 0, 1, 0, 0, 1, 1, 0, 1, 0, 0]) (g4C [1, 1, 1, 1, 1, 0, 1, 0, 0, 1, 0, 0, 1, 1, 0, 1, 0, 1]) := by kernel_rfl
theorem g4n111110100100110101 : g4C [1, 1, 1, 1, 1, 0, 1, 0, 0, 1, 0, 0, 1, 1, 0, 1, 0, 1] = .cond (.tmp 91) (g4C [1, 1, 1, 1, 1, 0, 1, 0, 0, 1, 0, 0, 1, 1, 0, 1, 0, 1, 0]) (g4C [1, 1, 1, 1, 1, 0, 1, 0, 0, 1, 0, 0, 1, 1, 0, 1, 0, 1, 1]) := by kernel_rfl
theorem g4n1111101001001101010 : g4C [1, 1, 1, 1, 1, 0, 1, 0, 0, 1, 0, 0, 1, 1, 0, 1, 0, 1, 0] = .seq (g4C [1, 1, 1, 1, 1, 0, 1, 0, 0, 1, 0, 0, 1, 1, 0, 1, 0, 1, 0, 0]) (g4C [1, 1, 1, 1, 1, 0, 1, 0, 0, 1, 0, 0, 1, 1, 0, 1, 0, 1, 0, 1]) := by kernel_rfl
theorem g4n1111101001001101011 : g4C [1, 1, 1, 1, 1, 0, 1, 0, 0, 1, 0, 0, 1, 1, 0, 1, 0, 1, 1] = .seq (g4C [1, 1, 1, 1, 1, 0, 1, 0, 0, 1, 0, 0, 1, 1, 0, 1, 0, 1, 1, 0]) (g4C [1, 1, 1, 1, 1, 0, 1, 0, 0, 1, 0, 0, 1, 1, 0, 1, 0, 1, 1, 1]) := by kernel_rfl
theorem g4n11111010010011010111 : g4C [1, 1, 1, 1, 1, 0, 1, 0, 0, 1, 0, 0, 1, 1, 0, 1, 0, 1, 1, 1] = .cond (.tmp 125) (g4C [1, 1, 1, 1, 1, 0, 1, 0, 0, 1, 0, 0, 1, 1, 0, 1, 0, 1, 1, 1, 0]) (g4C [1, 1, 1, 1, 1, 0, 1, 0, 0, 1, 0, 0, 1, 1, 0, 1, 0, 1, 1, 1, 1]) := by kernel_rfl
theorem g4n111110100100110101110 : g4C [1, 1, 1, 1, 1, 0, 1, 0, 0, 1, 0, 0, 1, 1, 0, 1, 0, 1, 1, 1, 0] = .seq (g4C [1, 1, 1, 1, 1, 0, 1, 0, 0, 1, 0, 0, 1, 1, 0, 1, 0, 1, 1, 1, 0, 0]) (g4C [1, 1, 1, 1, 1, 0, 1, 0, 0, 1, 0, 0, 1, 1, 0, 1, 0, 1, 1, 1, 0, 1]) := by kernel_rfl
theorem g4n111110100100110101111 : g4C [1, 1, 1, 1, 1, 0, 1, 0, 0, 1, 0, 0, 1, 1, 0, 1, 0, 1, 1, 1, 1] = .seq (g4C [1, 1, 1, 1, 1, 0, 1, 0, 0, 1, 0, 0, 1, 1, 0, 1, 0, 1, 1, 1, 1, 0]) (g4C [1, 1, 1, 1, 1, 0, 1, 0, 0, 1, 0, 0, 1, 1, 0, 1, 0, 1, 1, 1, 1, 1]) := by kernel_rfl
theorem g4n1111101001001101011111 : g4C [1, 1, 1, 1, 1, 0, 1, 0, 0, 1, 0, 0, 1, 1, 0, 1, 0, 1, 1, 1, 1, 1] = .cond (.tmp 151) (g4C [1, 1, 1, 1, 1, 0, 1, 0, 0, 1, 0, 0, 1, 1, 0, 1, 0, 1, 1, 1, 1, 1, 0]) (g4C [1, 1, 1, 1, 1, 0, 1, 0, 0, 1, 0, 0, 1, 1, 0, 1, 0, 1, 1, 1, 1, 1, 1]) := by kernel_rfl
theorem g4n11111010010011010111110 : g4C [1, 1, 1, 1, 1, 0, 1, 0, 0, 1, 0, 0, 1, 1, 0, 1, 0, 1, 1, 1, 1, 1, 0] = .seq (g4C [1, 1, 1, 1, 1, 0, 1, 0, 0, 1, 0, 0, 1, 1, 0, 1, 0, 1, 1, 1, 1, 1, 0, 0]) (g4C [1, 1, 1, 1, 1, 0, 1, 0, 0, 1, 0, 0, 1, 1, 0, 1, 0, 1, 1, 1, 1, 1, 0, 1]) := by kernel_rfl
theorem g4e11111010010011 (L11111010 : V → V → V → V → St → Res) : g4X (g4C [1, 1, 1, 1, 1, 0, 1, 0, 0, 1, 0, 0, 1, 1]) (g4k4 L11111010) = fun env st => g4b11111010010011 L11111010 (env 1) (env 5) (env 7) (env 9) (env 10) st := by
  refine Eq.trans ((g4seq g4n11111010010011 (g4e111110100100111 L11111010)).trans (g4seq g4n111110100100110 ((g4blk g4n1111101001001101).trans (g4seq g4n11111010010011010 (g4cond g4n111110100100110101 (g4seq g4n1111101001001101010 (g4e11111010010011010101 L11111010)) (g4seq g4n1111101001001101011 (g4cond g4n11111010010011010111 (g4seq g4n111110100100110101110 (g4e1111101001001101011101 L11111010)) (g4seq g4n111110100100110101111 (g4cond g4n1111101001001101011111 (g4seq g4n11111010010011010111110 (g4e111110100100110101111101 L11111010)) rfl))))))))) ?_
  funext env st
  kernel_rfl
noncomputable def g4b1111101001 (L11111010 : V → V → V → V → St → Res) (x1 : V) (x5 : V) (x7 : V) (x9 : V) (st : St) : Res :=
 A.iaddr 4 x1 x9 fun a1 =>
 A.load true 4 a1 st fun a2 z3 =>
 A.box (.agg [(.int .i64 0), (.int .i64 0), (.int .i64 0), (.str [])]) z3 fun a4 z5 =>
 A.store 4 a4 a2 z5 fun z6 =>
 A.faddr 3 a4 fun a7 =>
 A.load false 1 a7 z6 fun a8 z9 =>
 A.lenS a8 fun a10 =>
 A.bin .gtr a10 (.int .i64 4096) fun a11 =>
 A.guard a11 true
 (A.faddr 3 a4 fun a12 =>
 A.load false 1 a12 z9 fun a13 z14 =>
 A.lenS a13 fun a15 =>
 A.bin .leq a15 (.int .i64 1048640) fun a16 =>
 A.cond a16
 (A.ret (s13 [] z14) fun a17 z18 =>
 some (.ret a17.er1, z18))
 (g4b11111010010011 L11111010 x1 x5 x7 x9 a4 z14))
 (g4b11111010010011 L11111010 x1 x5 x7 x9 a4 z9)
theorem g4n1111101001 : g4C [1, 1, 1, 1, 1, 0, 1, 0, 0, 1] = .seq (g4C [1, 1, 1, 1, 1, 0, 1, 0, 0, 1, 0]) (g4C [1, 1, 1, 1, 1, 0, 1, 0, 0, 1, 1]) := by kernel_rfl
theorem g4n11111010010 : g4C [1, 1, 1, 1, 1, 0, 1, 0, 0, 1, 0] = .block 1 (g4C [1, 1, 1, 1, 1, 0, 1, 0, 0, 1, 0, 0]) := by kernel_rfl
theorem g4n111110100100 : g4C [1, 1, 1, 1, 1, 0, 1, 0, 0, 1, 0, 0] = .seq (g4C [1, 1, 1, 1, 1, 0, 1, 0, 0, 1, 0, 0, 0]) (g4C [1, 1, 1, 1, 1, 0, 1, 0, 0, 1, 0, 0, 1]) := by kernel_rfl
theorem g4n1111101001001 : g4C [1, 1, 1, 1, 1, 0, 1, 0, 0, 1, 0, 0, 1] = .seq (g4C [1, 1, 1, 1, 1, 0, 1, 0, 0, 1, 0, 0, 1, 0]) (g4C [1, 1, 1, 1, 1, 0, 1, 0, 0, 1, 0, 0, 1, 1]) := by kernel_rfl
theorem g4e1111101001 (L11111010 : V → V → V → V → St → Res) : g4X (g4C [1, 1, 1, 1, 1, 0, 1, 0, 0, 1]) (g4k2 L11111010) = fun env st => g4b1111101001 L11111010 (env 1) (env 5) (env 7) (env 9) st := by
  refine Eq.trans ((g4seq g4n1111101001 rfl).trans ((g4blk g4n11111010010).trans (g4seq g4n111110100100 (g4seq g4n1111101001001 (g4e11111010010011 L11111010))))) ?_
  funext env st
  kernel_rfl
noncomputable def g4b11111010 : Nat → V → V → V → V → St → Res
| 0, _, _, _, _, _ => none
| n + 1, x1, x5, x7, x9, st =>
 A.lenL x1 fun a1 =>
 A.bin .lss x9 a1 fun a2 =>
 A.guard a2 true
 (A.bin .lss x9 (.int .i64 200) fun a3 =>
 A.cond a3
 (g4b1111101001 (g4b11111010 n) x1 x5 x7 x9 st)
 (A.ret (s13 [] st) fun a4 z5 =>
 some (.ret a4.er1, z5)))
 (A.ret (s13 [] st) fun a6 z7 =>
 some (.ret a6.er1, z7))
theorem g4n11111010 : g4C [1, 1, 1, 1, 1, 0, 1, 0] = .loop (g4C [1, 1, 1, 1, 1, 0, 1, 0, 0]) := by kernel_rfl
theorem g4n111110100 : g4C [1, 1, 1, 1, 1, 0, 1, 0, 0] = .seq (g4C [1, 1, 1, 1, 1, 0, 1, 0, 0, 0]) (g4C [1, 1, 1, 1, 1, 0, 1, 0, 0, 1]) := by kernel_rfl
theorem g4e11111010 : g4X (g4C [1, 1, 1, 1, 1, 0, 1, 0]) (g4k1) = fun env st => g4b11111010 big (env 1) (env 5) (env 7) (env 9) st := by
  have key : ∀ n, aloop (g4X (g4C [1, 1, 1, 1, 1, 0, 1, 0, 0])) (g4k1) n = fun env st => g4b11111010 n (env 1) (env 5) (env 7) (env 9) st := by
    intro n
    induction n with
    | zero => rfl
    | succ n ih =>
      have h : aloop (g4X (g4C [1, 1, 1, 1, 1, 0, 1, 0, 0])) (g4k1) (n + 1) = g4X (g4C [1, 1, 1, 1, 1, 0, 1, 0, 0]) (kSeq (aloop (g4X (g4C [1, 1, 1, 1, 1, 0, 1, 0, 0])) (g4k1) n) (g4k1)) := rfl
      rw [h, ih]
      refine Eq.trans (g4seq g4n111110100 (g4e1111101001 (g4b11111010 n))) ?_
      funext env st
      kernel_rfl
  exact (g4loop g4n11111010).trans (key big)
noncomputable def g4b1111 (x1 : V) (x5 : V) (x7 : V) (st : St) : Res :=
 A.eql 4 false x5 .ptr0 fun a1 =>
 A.cond a1
 (A.ret (s13 [] st) fun a2 z3 =>
 some (.ret a2.er1, z3))
 (g4b11111010 big x1 x5 x7 (.int .i64 0) st)
theorem g4n1111 : g4C [1, 1, 1, 1] = .seq (g4C [1, 1, 1, 1, 0]) (g4C [1, 1, 1, 1, 1]) := by kernel_rfl
theorem g4n11111 : g4C [1, 1, 1, 1, 1] = .seq (g4C [1, 1, 1, 1, 1, 0]) (g4C [1, 1, 1, 1, 1, 1]) := by kernel_rfl
theorem g4n111110 : g4C [1, 1, 1, 1, 1, 0] = .seq (g4C [1, 1, 1, 1, 1, 0, 0]) (g4C [1, 1, 1, 1, 1, 0, 1]) := by kernel_rfl
theorem g4n1111101 : g4C [1, 1, 1, 1, 1, 0, 1] = .block 0 (g4C [1, 1, 1, 1, 1, 0, 1, 0]) := by kernel_rfl
theorem g4e1111 : g4X (g4C [1, 1, 1, 1]) (g4kr) = fun env st => g4b1111 (env 1) (env 5) (env 7) st := by
  refine Eq.trans (g4seq g4n1111 ((g4seq g4n11111 rfl).trans (g4seq g4n111110 ((g4blk g4n1111101).trans (g4e11111010))))) ?_
  funext env st
  kernel_rfl
noncomputable def g4b111 (x1 : V) (x5 : V) (x6 : V) (x7 : V) (x8 : V) (st : St) : Res :=
 A.eql 2 true x6 x8 fun a1 =>
 A.guard a1 false
 (A.eql 4 true x5 .ptr0 fun a2 =>
 A.eql 2 false x8 (.int .i64 0) fun a3 =>
 A.eql 1 true a2 a3 fun a4 =>
 A.cond a4
 (some (.ret ((.bool false) : V).er1, st))
 (g4b1111 x1 x5 x7 st))
 (some (.ret ((.bool false) : V).er1, st))
theorem g4n111 : g4C [1, 1, 1] = .seq (g4C [1, 1, 1, 0]) (g4C [1, 1, 1, 1]) := by kernel_rfl
theorem g4e111 : g4X (g4C [1, 1, 1]) (g4kr) = fun env st => g4b111 (env 1) (env 5) (env 6) (env 7) (env 8) st := by
  refine Eq.trans (g4seq g4n111 (g4e1111)) ?_
  funext env st
  kernel_rfl
noncomputable def f4 (x0 : V) (x1 : V) (st : St) : Res :=
 A.ret (s7 [x0.er1] st) fun a1 z2 =>
 A.ext a1 0 fun a3 =>
 A.ext a1 1 fun a4 =>
 A.ret (s14 [x0.er1] z2) fun a5 z6 =>
 A.ext a5 0 fun a7 =>
 A.ext a5 1 fun a8 =>
 A.box (.agg [(.int .i64 0), (.int .i64 0), (.lst [] 1)]) z6 fun a9 z10 =>
 A.store 3 a9 a7 z10 fun z11 =>
 g4b111 x1 a3 a4 a9 a8 z11
theorem g4nr : g4C [] = .seq (g4C [0]) (g4C [1]) := by kernel_rfl
theorem g4n1 : g4C [1] = .seq (g4C [1, 0]) (g4C [1, 1]) := by kernel_rfl
theorem g4n11 : g4C [1, 1] = .seq (g4C [1, 1, 0]) (g4C [1, 1, 1]) := by kernel_rfl
theorem g4er (env : Env) (st : St) : g4X (g4C []) g4kr env st = f4 (env 0) (env 1) st := by
  rw [(g4seq g4nr (g4seq g4n1 (g4seq g4n11 (g4e111))))]
  kernel_rfl
theorem s4_eq (x0 : V) (x1 : V) (st : St) : s4 [x0, x1] st = f4 x0 x1 st := by
  have h : afn Try.prog g4mu g4T big (areg Try.prog g4mu g4T) 4 [x0, x1] st = g4X (g4C []) g4kr (fun t => [x0, x1].getD t (.tup [])) st := by kernel_rfl
  rw [s4, sealF_eq]
  exact h.trans (g4er _ st)
end Go.Ab
