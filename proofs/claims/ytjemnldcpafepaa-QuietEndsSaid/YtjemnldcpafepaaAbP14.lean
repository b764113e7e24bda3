import Derived.Test.YtjemnldcpafepaaAbSub
import Derived.Test.YtjemnldcpafepaaProg
namespace Go.Ab
open Go.Proofs
set_option linter.unusedVariables false
set_option maxRecDepth 100000
theorem hmix : Try.prog.follows .mixedOrders = true := by kernel_rfl
/-! (*sinew/quiet.Node).given -/
def g22mu : Nat → Bool := fun _ => false
noncomputable def g22T : Tbl := tget []
theorem g22t : SimT Try.prog g22T := simT_nil
noncomputable def s22 : Fn := sealF (afn Try.prog g22mu g22T big (areg Try.prog g22mu g22T) 22)
theorem sim22 : Sim Try.prog 22 s22 := (afn_sim g22t (fun m => areg_sound g22t hmix m) 22 (by kernel_rfl)).sealed
noncomputable def f22 (x0 : V) (st : St) : Res :=
 A.eql 4 true x0 .ptr0 fun a1 =>
 A.guard a1 true
 (A.nilc x0 fun a2 =>
 A.faddr 1 a2 fun a3 =>
 A.load false 1 a3 st fun a4 z5 =>
 A.bin .gtr a4 (.int .i64 0) fun a6 =>
 some (.ret a6.er1, z5))
 (some (.ret ((.bool false) : V).er1, st))
theorem s22_eq (x0 : V) (st : St) : s22 [x0] st = f22 x0 st := by
  rw [s22, sealF_eq]
  kernel_rfl
/-! (*sinew/quiet.debt).owes -/
def g23mu : Nat → Bool := fun _ => false
noncomputable def g23T : Tbl := tget []
theorem g23t : SimT Try.prog g23T := simT_nil
noncomputable def s23 : Fn := sealF (afn Try.prog g23mu g23T big (areg Try.prog g23mu g23T) 23)
theorem sim23 : Sim Try.prog 23 s23 := (afn_sim g23t (fun m => areg_sound g23t hmix m) 23 (by kernel_rfl)).sealed
noncomputable def f23 (x0 : V) (st : St) : Res :=
 A.nilc x0 fun a1 =>
 A.faddr 0 a1 fun a2 =>
 A.load false 1 a2 st fun a3 z4 =>
 some (.ret a3.er1, z4)
theorem s23_eq (x0 : V) (st : St) : s23 [x0] st = f23 x0 st := by
  rw [s23, sealF_eq]
  kernel_rfl
/-! (*sinew/quiet.debt).more -/
def g24mu : Nat → Bool := fun _ => false
noncomputable def g24T : Tbl := tget []
theorem g24t : SimT Try.prog g24T := simT_nil
noncomputable def s24 : Fn := sealF (afn Try.prog g24mu g24T big (areg Try.prog g24mu g24T) 24)
theorem sim24 : Sim Try.prog 24 s24 := (afn_sim g24t (fun m => areg_sound g24t hmix m) 24 (by kernel_rfl)).sealed
noncomputable def f24 (x0 : V) (x1 : V) (st : St) : Res :=
 A.nilc x0 fun a1 =>
 A.faddr 0 a1 fun a2 =>
 A.load false 1 a2 st fun a3 z4 =>
 A.bin .sub (.int .i64 1073741824) x1 fun a5 =>
 A.bin .leq a3 a5 fun a6 =>
 A.cond a6
 (A.nilc x0 fun a7 =>
 A.faddr 0 a7 fun a8 =>
 A.load false 1 a8 z4 fun a9 z10 =>
 A.bin .add a9 x1 fun a11 =>
 A.nilc x0 fun a12 =>
 A.faddr 0 a12 fun a13 =>
 A.store 1 a13 a11 z10 fun z14 =>
 some (.ret a6.er1, z14))
 (some (.ret a6.er1, z4))
theorem s24_eq (x0 : V) (x1 : V) (st : St) : s24 [x0, x1] st = f24 x0 x1 st := by
  rw [s24, sealF_eq]
  kernel_rfl
/-! (*sinew/quiet.Node).Done -/
def g12mu : Nat → Bool := fun _ => false
noncomputable def g12T : Tbl := tget [(22, s22)]
theorem g12t : SimT Try.prog g12T := simT_cons sim22 (simT_nil)
noncomputable def s12 : Fn := sealF (afn Try.prog g12mu g12T big (areg Try.prog g12mu g12T) 12)
theorem sim12 : Sim Try.prog 12 s12 := (afn_sim g12t (fun m => areg_sound g12t hmix m) 12 (by kernel_rfl)).sealed
noncomputable def f12 (x0 : V) (st : St) : Res :=
 A.ret (s22 [x0.er1] st) fun a1 z2 =>
 A.guard a1 true
 (A.nilc x0 fun a3 =>
 A.faddr 4 a3 fun a4 =>
 A.load false 1 a4 z2 fun a5 z6 =>
 some (.ret a5.er1, z6))
 (some (.ret ((.bool false) : V).er1, z2))
theorem s12_eq (x0 : V) (st : St) : s12 [x0] st = f12 x0 st := by
  rw [s12, sealF_eq]
  kernel_rfl
/-! (*sinew/quiet.Node).Take -/
def g15mu : Nat → Bool := fun _ => false
noncomputable def g15T : Tbl := tget [(22, s22)]
theorem g15t : SimT Try.prog g15T := simT_cons sim22 (simT_nil)
noncomputable def s15 : Fn := sealF (afn Try.prog g15mu g15T big (areg Try.prog g15mu g15T) 15)
theorem sim15 : Sim Try.prog 15 s15 := (afn_sim g15t (fun m => areg_sound g15t hmix m) 15 (by kernel_rfl)).sealed
noncomputable def g15C (p : List Nat) : Code := sub (match Try.f15.body with | some c => c | none => .skip) p
noncomputable def g15X (c : Code) (K : Kon) : Env → St → Res := aexec Try.prog g15mu g15T big 40 (areg Try.prog g15mu g15T 40) c K
noncomputable def g15kr : Kon := aresK Try.prog Try.f15.results.toList
theorem g15reg {c : Code} {K : Kon} {G : Env → St → Res} {id : Nat} {ops : Array Oper} {l1 l2 : List Nat} (hc : c = .region id ops false) (hl : List.range ops.size = l1 ++ l2) (h : (fun env st => aops Try.prog g15mu g15T 40 ops l2 env st (K .normal)) = G) : g15X c K = fun env st => aops Try.prog g15mu g15T 40 ops l1 env st G := reg_cut hc hl h
theorem g15seq {c x y : Code} {K : Kon} {G : Env → St → Res} (hc : c = .seq x y) (hy : g15X y K = G) : g15X c K = g15X x (kSeq G K) := seq_cut hc hy
theorem g15blk {c x : Code} {K : Kon} {i : Nat} (hc : c = .block i x) : g15X c K = g15X x (kBlk i K) := blk_cut hc
theorem g15loop {c x : Code} {K : Kon} (hc : c = .loop x) : g15X c K = aloop (g15X x) K big := loop_cut hc
theorem g15cond {c x y : Code} {K : Kon} {v : Operand} {F G : Env → St → Res} (hc : c = .cond v x y) (hx : g15X x K = F) (hy : g15X y K = G) : g15X c K = condF v F G := cond_cut hc hx hy
noncomputable def g15b11 (x0 : V) (x1 : V) (st : St) : Res :=
 A.nilc x0 fun a1 =>
 A.faddr 3 a1 fun a2 =>
 A.store 1 a2 (.bool true) st fun z3 =>
 A.nilc x0 fun a4 =>
 A.faddr 5 a4 fun a5 =>
 A.store 1 a5 x1 z3 fun z6 =>
 some (.ret (.tup [((.int .i64 (-1)) : V).er1, ((.int .i64 0) : V).er1]), z6)
theorem g15e11 : g15X (g15C [1, 1]) (g15kr) = fun env st => g15b11 (env 0) (env 1) st := by
  refine Eq.trans (Eq.refl (g15X (g15C [1, 1]) (g15kr))) ?_
  funext env st
  kernel_rfl
noncomputable def g15k0 : Kon := kSeq (fun env st => g15b11 (env 0) (env 1) st) (g15kr)
noncomputable def g15k1 : Kon := kBlk 0 (g15k0)
noncomputable def g15b1001 (x0 : V) (x1 : V) (x6 : V) (st : St) : Res :=
 A.cond x6
 (some (.ret (.tup [((.int .i64 (-1)) : V).er1, ((.int .i64 1) : V).er1]), st))
 (A.nilc x0 fun a1 =>
 A.faddr 4 a1 fun a2 =>
 A.load false 1 a2 st fun a3 z4 =>
 A.cond a3
 (some (.ret (.tup [((.int .i64 (-1)) : V).er1, ((.int .i64 3) : V).er1]), z4))
 (A.nilc x0 fun a5 =>
 A.faddr 3 a5 fun a6 =>
 A.load false 1 a6 z4 fun a7 z8 =>
 A.cond a7
 (some (.ret (.tup [x1.er1, ((.int .i64 0) : V).er1]), z8))
 (g15b11 x0 x1 z8)))
theorem g15e1001 : g15X (g15C [1, 0, 0, 1]) (g15k1) = fun env st => g15b1001 (env 0) (env 1) (env 6) st := by
  refine Eq.trans (Eq.refl (g15X (g15C [1, 0, 0, 1]) (g15k1))) ?_
  funext env st
  kernel_rfl
noncomputable def g15k2 : Kon := kSeq (fun env st => g15b1001 (env 0) (env 1) (env 6) st) (g15k1)
noncomputable def g15b1000_8 (x0 : V) (x1 : V) (x14 : V) (st : St) : Res :=
 A.guard x14 false
 (A.nilc x0 fun a1 =>
 A.faddr 1 a1 fun a2 =>
 A.load false 1 a2 st fun a3 z4 =>
 A.bin .geq x1 a3 fun a5 =>
 g15b1001 x0 x1 a5 z4)
 (g15b1001 x0 x1 (.bool true) st)
theorem g15e1000_8 : (fun env st => aops Try.prog g15mu g15T 40 (rops (g15C [1, 0, 0, 0])) [8, 9, 10, 11, 12, 13, 14, 15] env st ((g15k2) .normal)) = fun env st => g15b1000_8 (env 0) (env 1) (env 14) st := by
  refine Eq.trans (Eq.refl _) ?_
  funext env st
  kernel_rfl
noncomputable def f15 (x0 : V) (x1 : V) (st : St) : Res :=
 A.ret (s22 [x0.er1] st) fun a1 z2 =>
 A.un .not a1 fun a3 =>
 A.guard a3 false
 (A.bin .lss x1 (.int .i64 0) fun a4 =>
 g15b1000_8 x0 x1 a4 z2)
 (g15b1000_8 x0 x1 (.bool true) z2)
theorem g15nr : g15C [] = .seq (g15C [0]) (g15C [1]) := by kernel_rfl
theorem g15n1 : g15C [1] = .seq (g15C [1, 0]) (g15C [1, 1]) := by kernel_rfl
theorem g15n10 : g15C [1, 0] = .block 0 (g15C [1, 0, 0]) := by kernel_rfl
theorem g15n100 : g15C [1, 0, 0] = .seq (g15C [1, 0, 0, 0]) (g15C [1, 0, 0, 1]) := by kernel_rfl
theorem g15rg1000 : g15C [1, 0, 0, 0] = .region 1 (rops (g15C [1, 0, 0, 0])) false := by kernel_rfl
theorem g15rg1000l : List.range (rops (g15C [1, 0, 0, 0])).size = [0, 1, 2, 3, 4, 5, 6, 7] ++ [8, 9, 10, 11, 12, 13, 14, 15] := by kernel_rfl
theorem g15er (env : Env) (st : St) : g15X (g15C []) g15kr env st = f15 (env 0) (env 1) st := by
  rw [(g15seq g15nr ((g15seq g15n1 (g15e11)).trans ((g15blk g15n10).trans ((g15seq g15n100 (g15e1001)).trans (g15reg g15rg1000 g15rg1000l (g15e1000_8))))))]
  kernel_rfl
theorem s15_eq (x0 : V) (x1 : V) (st : St) : s15 [x0, x1] st = f15 x0 x1 st := by
  have h : afn Try.prog g15mu g15T big (areg Try.prog g15mu g15T) 15 [x0, x1] st = g15X (g15C []) g15kr (fun t => [x0, x1].getD t (.tup [])) st := by kernel_rfl
  rw [s15, sealF_eq]
  exact h.trans (g15er _ st)
/-! (*sinew/quiet.Node).Rest -/
def g16mu : Nat → Bool := fun _ => false
noncomputable def g16T : Tbl := tget [(22, s22), (23, s23)]
theorem g16t : SimT Try.prog g16T := simT_cons sim22 ( simT_cons sim23 (simT_nil))
noncomputable def s16 : Fn := sealF (afn Try.prog g16mu g16T big (areg Try.prog g16mu g16T) 16)
theorem sim16 : Sim Try.prog 16 s16 := (afn_sim g16t (fun m => areg_sound g16t hmix m) 16 (by kernel_rfl)).sealed
noncomputable def g16C (p : List Nat) : Code := sub (match Try.f16.body with | some c => c | none => .skip) p
noncomputable def g16X (c : Code) (K : Kon) : Env → St → Res := aexec Try.prog g16mu g16T big 39 (areg Try.prog g16mu g16T 39) c K
noncomputable def g16kr : Kon := aresK Try.prog Try.f16.results.toList
theorem g16reg {c : Code} {K : Kon} {G : Env → St → Res} {id : Nat} {ops : Array Oper} {l1 l2 : List Nat} (hc : c = .region id ops false) (hl : List.range ops.size = l1 ++ l2) (h : (fun env st => aops Try.prog g16mu g16T 39 ops l2 env st (K .normal)) = G) : g16X c K = fun env st => aops Try.prog g16mu g16T 39 ops l1 env st G := reg_cut hc hl h
theorem g16seq {c x y : Code} {K : Kon} {G : Env → St → Res} (hc : c = .seq x y) (hy : g16X y K = G) : g16X c K = g16X x (kSeq G K) := seq_cut hc hy
theorem g16blk {c x : Code} {K : Kon} {i : Nat} (hc : c = .block i x) : g16X c K = g16X x (kBlk i K) := blk_cut hc
theorem g16loop {c x : Code} {K : Kon} (hc : c = .loop x) : g16X c K = aloop (g16X x) K big := loop_cut hc
theorem g16cond {c x y : Code} {K : Kon} {v : Operand} {F G : Env → St → Res} (hc : c = .cond v x y) (hx : g16X x K = F) (hy : g16X y K = G) : g16X c K = condF v F G := cond_cut hc hx hy
noncomputable def g16b111 (x0 : V) (x4 : V) (st : St) : Res :=
 A.nilc x0 fun a1 =>
 A.faddr 2 a1 fun a2 =>
 A.load false 1 a2 st fun a3 z4 =>
 A.nilc x0 fun a5 =>
 A.faddr 3 a5 fun a6 =>
 A.store 1 a6 (.bool false) z4 fun z7 =>
 A.nilc x0 fun a8 =>
 A.faddr 5 a8 fun a9 =>
 A.store 1 a9 (.int .i64 (-1)) z7 fun z10 =>
 A.nilc x0 fun a11 =>
 A.faddr 4 a11 fun a12 =>
 A.store 1 a12 a3 z10 fun z13 =>
 some (.ret (.tup [x4.er1, ((.int .i64 0) : V).er1]), z13)
theorem g16e111 : g16X (g16C [1, 1, 1]) (g16kr) = fun env st => g16b111 (env 0) (env 4) st := by
  refine Eq.trans (Eq.refl (g16X (g16C [1, 1, 1]) (g16kr))) ?_
  funext env st
  kernel_rfl
noncomputable def g16b11 (x0 : V) (st : St) : Res :=
 A.nilc x0 fun a1 =>
 A.faddr 5 a1 fun a2 =>
 A.load false 1 a2 st fun a3 z4 =>
 g16b111 x0 a3 z4
theorem g16n11 : g16C [1, 1] = .seq (g16C [1, 1, 0]) (g16C [1, 1, 1]) := by kernel_rfl
theorem g16e11 : g16X (g16C [1, 1]) (g16kr) = fun env st => g16b11 (env 0) st := by
  refine Eq.trans (g16seq g16n11 (g16e111)) ?_
  funext env st
  kernel_rfl
noncomputable def g16k0 : Kon := kSeq (fun env st => g16b11 (env 0) st) (g16kr)
noncomputable def g16k1 : Kon := kBlk 0 (g16k0)
noncomputable def g16b100111 (x0 : V) (x9 : V) (st : St) : Res :=
 A.cond x9
 (some (.ret (.tup [((.int .i64 (-1)) : V).er1, ((.int .i64 3) : V).er1]), st))
 (A.nilc x0 fun a1 =>
 A.faddr 0 a1 fun a2 =>
 A.ret (s23 [a2.er1] st) fun a3 z4 =>
 A.bin .gtr a3 (.int .i64 0) fun a5 =>
 A.cond a5
 (some (.ret (.tup [((.int .i64 (-1)) : V).er1, ((.int .i64 0) : V).er1]), z4))
 (g16b11 x0 z4))
theorem g16e100111 : g16X (g16C [1, 0, 0, 1, 1, 1]) (g16k1) = fun env st => g16b100111 (env 0) (env 9) st := by
  refine Eq.trans (Eq.refl (g16X (g16C [1, 0, 0, 1, 1, 1]) (g16k1))) ?_
  funext env st
  kernel_rfl
noncomputable def f16 (x0 : V) (st : St) : Res :=
 A.ret (s22 [x0.er1] st) fun a1 z2 =>
 A.un .not a1 fun a3 =>
 A.cond a3
 (some (.ret (.tup [((.int .i64 (-1)) : V).er1, ((.int .i64 1) : V).er1]), z2))
 (A.nilc x0 fun a4 =>
 A.faddr 3 a4 fun a5 =>
 A.load false 1 a5 z2 fun a6 z7 =>
 A.un .not a6 fun a8 =>
 g16b100111 x0 a8 z7)
theorem g16nr : g16C [] = .seq (g16C [0]) (g16C [1]) := by kernel_rfl
theorem g16n1 : g16C [1] = .seq (g16C [1, 0]) (g16C [1, 1]) := by kernel_rfl
theorem g16n10 : g16C [1, 0] = .block 0 (g16C [1, 0, 0]) := by kernel_rfl
theorem g16n100 : g16C [1, 0, 0] = .seq (g16C [1, 0, 0, 0]) (g16C [1, 0, 0, 1]) := by kernel_rfl
theorem g16n1001 : g16C [1, 0, 0, 1] = .cond (.tmp 5) (g16C [1, 0, 0, 1, 0]) (g16C [1, 0, 0, 1, 1]) := by kernel_rfl
theorem g16n10011 : g16C [1, 0, 0, 1, 1] = .seq (g16C [1, 0, 0, 1, 1, 0]) (g16C [1, 0, 0, 1, 1, 1]) := by kernel_rfl
theorem g16er (env : Env) (st : St) : g16X (g16C []) g16kr env st = f16 (env 0) st := by
  rw [(g16seq g16nr ((g16seq g16n1 (g16e11)).trans ((g16blk g16n10).trans (g16seq g16n100 (g16cond g16n1001 rfl (g16seq g16n10011 (g16e100111)))))))]
  kernel_rfl
theorem s16_eq (x0 : V) (st : St) : s16 [x0] st = f16 x0 st := by
  have h : afn Try.prog g16mu g16T big (areg Try.prog g16mu g16T) 16 [x0] st = g16X (g16C []) g16kr (fun t => [x0].getD t (.tup [])) st := by kernel_rfl
  rw [s16, sealF_eq]
  exact h.trans (g16er _ st)
/-! (*sinew/quiet.Node).Send -/
def g17mu : Nat → Bool := fun _ => false
noncomputable def g17T : Tbl := tget [(22, s22), (24, s24)]
theorem g17t : SimT Try.prog g17T := simT_cons sim22 ( simT_cons sim24 (simT_nil))
noncomputable def s17 : Fn := sealF (afn Try.prog g17mu g17T big (areg Try.prog g17mu g17T) 17)
theorem sim17 : Sim Try.prog 17 s17 := (afn_sim g17t (fun m => areg_sound g17t hmix m) 17 (by kernel_rfl)).sealed
noncomputable def g17C (p : List Nat) : Code := sub (match Try.f17.body with | some c => c | none => .skip) p
noncomputable def g17X (c : Code) (K : Kon) : Env → St → Res := aexec Try.prog g17mu g17T big 31 (areg Try.prog g17mu g17T 31) c K
noncomputable def g17kr : Kon := aresK Try.prog Try.f17.results.toList
theorem g17reg {c : Code} {K : Kon} {G : Env → St → Res} {id : Nat} {ops : Array Oper} {l1 l2 : List Nat} (hc : c = .region id ops false) (hl : List.range ops.size = l1 ++ l2) (h : (fun env st => aops Try.prog g17mu g17T 31 ops l2 env st (K .normal)) = G) : g17X c K = fun env st => aops Try.prog g17mu g17T 31 ops l1 env st G := reg_cut hc hl h
theorem g17seq {c x y : Code} {K : Kon} {G : Env → St → Res} (hc : c = .seq x y) (hy : g17X y K = G) : g17X c K = g17X x (kSeq G K) := seq_cut hc hy
theorem g17blk {c x : Code} {K : Kon} {i : Nat} (hc : c = .block i x) : g17X c K = g17X x (kBlk i K) := blk_cut hc
theorem g17loop {c x : Code} {K : Kon} (hc : c = .loop x) : g17X c K = aloop (g17X x) K big := loop_cut hc
theorem g17cond {c x y : Code} {K : Kon} {v : Operand} {F G : Env → St → Res} (hc : c = .cond v x y) (hx : g17X x K = F) (hy : g17X y K = G) : g17X c K = condF v F G := cond_cut hc hx hy
noncomputable def g17k0 : Kon := kSeq (g17X (g17C [1, 1]) (g17kr)) (g17kr)
noncomputable def g17k1 : Kon := kBlk 0 (g17k0)
noncomputable def g17b1001 (x0 : V) (x1 : V) (x5 : V) (st : St) : Res :=
 A.cond x5
 (some (.ret ((.int .i64 1) : V).er1, st))
 (A.nilc x0 fun a1 =>
 A.faddr 3 a1 fun a2 =>
 A.load false 1 a2 st fun a3 z4 =>
 A.un .not a3 fun a5 =>
 A.guard a5 false
 (A.nilc x0 fun a6 =>
 A.faddr 0 a6 fun a7 =>
 A.ret (s24 [a7.er1, x1.er1] z4) fun a8 z9 =>
 A.un .not a8 fun a10 =>
 A.cond a10
 (some (.ret ((.int .i64 3) : V).er1, z9))
 (some (.ret ((.int .i64 0) : V).er1, z9)))
 (some (.ret ((.int .i64 3) : V).er1, z4)))
theorem g17e1001 : g17X (g17C [1, 0, 0, 1]) (g17k1) = fun env st => g17b1001 (env 0) (env 1) (env 5) st := by
  refine Eq.trans (Eq.refl (g17X (g17C [1, 0, 0, 1]) (g17k1))) ?_
  funext env st
  kernel_rfl
noncomputable def f17 (x0 : V) (x1 : V) (st : St) : Res :=
 A.ret (s22 [x0.er1] st) fun a1 z2 =>
 A.un .not a1 fun a3 =>
 A.guard a3 false
 (A.bin .lss x1 (.int .i64 0) fun a4 =>
 A.guard a4 false
 (A.bin .gtr x1 (.int .i64 1048576) fun a5 =>
 g17b1001 x0 x1 a5 z2)
 (g17b1001 x0 x1 (.bool true) z2))
 (g17b1001 x0 x1 (.bool true) z2)
theorem g17nr : g17C [] = .seq (g17C [0]) (g17C [1]) := by kernel_rfl
theorem g17n1 : g17C [1] = .seq (g17C [1, 0]) (g17C [1, 1]) := by kernel_rfl
theorem g17n10 : g17C [1, 0] = .block 0 (g17C [1, 0, 0]) := by kernel_rfl
theorem g17n100 : g17C [1, 0, 0] = .seq (g17C [1, 0, 0, 0]) (g17C [1, 0, 0, 1]) := by kernel_rfl
theorem g17er (env : Env) (st : St) : g17X (g17C []) g17kr env st = f17 (env 0) (env 1) st := by
  rw [(g17seq g17nr ((g17seq g17n1 rfl).trans ((g17blk g17n10).trans (g17seq g17n100 (g17e1001)))))]
  kernel_rfl
theorem s17_eq (x0 : V) (x1 : V) (st : St) : s17 [x0, x1] st = f17 x0 x1 st := by
  have h : afn Try.prog g17mu g17T big (areg Try.prog g17mu g17T) 17 [x0, x1] st = g17X (g17C []) g17kr (fun t => [x0, x1].getD t (.tup [])) st := by kernel_rfl
  rw [s17, sealF_eq]
  exact h.trans (g17er _ st)
/-! (*sinew/quiet.Node).Told -/
def g18mu : Nat → Bool := fun _ => false
noncomputable def g18T : Tbl := tget [(22, s22), (23, s23)]
theorem g18t : SimT Try.prog g18T := simT_cons sim22 ( simT_cons sim23 (simT_nil))
noncomputable def s18 : Fn := sealF (afn Try.prog g18mu g18T big (areg Try.prog g18mu g18T) 18)
theorem sim18 : Sim Try.prog 18 s18 := (afn_sim g18t (fun m => areg_sound g18t hmix m) 18 (by kernel_rfl)).sealed
noncomputable def g18C (p : List Nat) : Code := sub (match Try.f18.body with | some c => c | none => .skip) p
noncomputable def g18X (c : Code) (K : Kon) : Env → St → Res := aexec Try.prog g18mu g18T big 22 (areg Try.prog g18mu g18T 22) c K
noncomputable def g18kr : Kon := aresK Try.prog Try.f18.results.toList
theorem g18reg {c : Code} {K : Kon} {G : Env → St → Res} {id : Nat} {ops : Array Oper} {l1 l2 : List Nat} (hc : c = .region id ops false) (hl : List.range ops.size = l1 ++ l2) (h : (fun env st => aops Try.prog g18mu g18T 22 ops l2 env st (K .normal)) = G) : g18X c K = fun env st => aops Try.prog g18mu g18T 22 ops l1 env st G := reg_cut hc hl h
theorem g18seq {c x y : Code} {K : Kon} {G : Env → St → Res} (hc : c = .seq x y) (hy : g18X y K = G) : g18X c K = g18X x (kSeq G K) := seq_cut hc hy
theorem g18blk {c x : Code} {K : Kon} {i : Nat} (hc : c = .block i x) : g18X c K = g18X x (kBlk i K) := blk_cut hc
theorem g18loop {c x : Code} {K : Kon} (hc : c = .loop x) : g18X c K = aloop (g18X x) K big := loop_cut hc
theorem g18cond {c x y : Code} {K : Kon} {v : Operand} {F G : Env → St → Res} (hc : c = .cond v x y) (hx : g18X x K = F) (hy : g18X y K = G) : g18X c K = condF v F G := cond_cut hc hx hy
noncomputable def g18b11 (x0 : V) (st : St) : Res :=
 A.nilc x0 fun a1 =>
 A.faddr 0 a1 fun a2 =>
 A.faddr 0 a2 fun a3 =>
 A.load false 1 a3 st fun a4 z5 =>
 A.bin .sub a4 (.int .i64 1) fun a6 =>
 A.nilc x0 fun a7 =>
 A.faddr 0 a7 fun a8 =>
 A.faddr 0 a8 fun a9 =>
 A.store 1 a9 a6 z5 fun z10 =>
 some (.ret ((.int .i64 0) : V).er1, z10)
theorem g18e11 : g18X (g18C [1, 1]) (g18kr) = fun env st => g18b11 (env 0) st := by
  refine Eq.trans (Eq.refl (g18X (g18C [1, 1]) (g18kr))) ?_
  funext env st
  kernel_rfl
noncomputable def f18 (x0 : V) (st : St) : Res :=
 A.ret (s22 [x0.er1] st) fun a1 z2 =>
 A.un .not a1 fun a3 =>
 A.cond a3
 (some (.ret ((.int .i64 1) : V).er1, z2))
 (A.nilc x0 fun a4 =>
 A.faddr 0 a4 fun a5 =>
 A.ret (s23 [a5.er1] z2) fun a6 z7 =>
 A.eql 2 false a6 (.int .i64 0) fun a8 =>
 A.cond a8
 (some (.ret ((.int .i64 3) : V).er1, z7))
 (g18b11 x0 z7))
theorem g18nr : g18C [] = .seq (g18C [0]) (g18C [1]) := by kernel_rfl
theorem g18n1 : g18C [1] = .seq (g18C [1, 0]) (g18C [1, 1]) := by kernel_rfl
theorem g18er (env : Env) (st : St) : g18X (g18C []) g18kr env st = f18 (env 0) st := by
  rw [(g18seq g18nr (g18seq g18n1 (g18e11)))]
  kernel_rfl
theorem s18_eq (x0 : V) (st : St) : s18 [x0] st = f18 x0 st := by
  have h : afn Try.prog g18mu g18T big (areg Try.prog g18mu g18T) 18 [x0] st = g18X (g18C []) g18kr (fun t => [x0].getD t (.tup [])) st := by kernel_rfl
  rw [s18, sealF_eq]
  exact h.trans (g18er _ st)
/-! (*sinew/quiet.Node).Owes -/
def g19mu : Nat → Bool := fun _ => false
noncomputable def g19T : Tbl := tget [(22, s22), (23, s23)]
theorem g19t : SimT Try.prog g19T := simT_cons sim22 ( simT_cons sim23 (simT_nil))
noncomputable def s19 : Fn := sealF (afn Try.prog g19mu g19T big (areg Try.prog g19mu g19T) 19)
theorem sim19 : Sim Try.prog 19 s19 := (afn_sim g19t (fun m => areg_sound g19t hmix m) 19 (by kernel_rfl)).sealed
noncomputable def f19 (x0 : V) (st : St) : Res :=
 A.ret (s22 [x0.er1] st) fun a1 z2 =>
 A.un .not a1 fun a3 =>
 A.cond a3
 (some (.ret ((.int .i64 0) : V).er1, z2))
 (A.nilc x0 fun a4 =>
 A.faddr 0 a4 fun a5 =>
 A.ret (s23 [a5.er1] z2) fun a6 z7 =>
 some (.ret a6.er1, z7))
theorem s19_eq (x0 : V) (st : St) : s19 [x0] st = f19 x0 st := by
  rw [s19, sealF_eq]
  kernel_rfl
/-! (*sinew/quiet.Node).Works -/
def g20mu : Nat → Bool := fun _ => false
noncomputable def g20T : Tbl := tget [(22, s22)]
theorem g20t : SimT Try.prog g20T := simT_cons sim22 (simT_nil)
noncomputable def s20 : Fn := sealF (afn Try.prog g20mu g20T big (areg Try.prog g20mu g20T) 20)
theorem sim20 : Sim Try.prog 20 s20 := (afn_sim g20t (fun m => areg_sound g20t hmix m) 20 (by kernel_rfl)).sealed
noncomputable def f20 (x0 : V) (st : St) : Res :=
 A.ret (s22 [x0.er1] st) fun a1 z2 =>
 A.guard a1 true
 (A.nilc x0 fun a3 =>
 A.faddr 3 a3 fun a4 =>
 A.load false 1 a4 z2 fun a5 z6 =>
 some (.ret a5.er1, z6))
 (some (.ret ((.bool false) : V).er1, z2))
theorem s20_eq (x0 : V) (st : St) : s20 [x0] st = f20 x0 st := by
  rw [s20, sealF_eq]
  kernel_rfl
/-! sinew/quiet.New -/
def g21mu : Nat → Bool := fun _ => false
noncomputable def g21T : Tbl := tget []
theorem g21t : SimT Try.prog g21T := simT_nil
noncomputable def s21 : Fn := sealF (afn Try.prog g21mu g21T big (areg Try.prog g21mu g21T) 21)
theorem sim21 : Sim Try.prog 21 s21 := (afn_sim g21t (fun m => areg_sound g21t hmix m) 21 (by kernel_rfl)).sealed
noncomputable def g21C (p : List Nat) : Code := sub (match Try.f21.body with | some c => c | none => .skip) p
noncomputable def g21X (c : Code) (K : Kon) : Env → St → Res := aexec Try.prog g21mu g21T big 28 (areg Try.prog g21mu g21T 28) c K
noncomputable def g21kr : Kon := aresK Try.prog Try.f21.results.toList
theorem g21reg {c : Code} {K : Kon} {G : Env → St → Res} {id : Nat} {ops : Array Oper} {l1 l2 : List Nat} (hc : c = .region id ops false) (hl : List.range ops.size = l1 ++ l2) (h : (fun env st => aops Try.prog g21mu g21T 28 ops l2 env st (K .normal)) = G) : g21X c K = fun env st => aops Try.prog g21mu g21T 28 ops l1 env st G := reg_cut hc hl h
theorem g21seq {c x y : Code} {K : Kon} {G : Env → St → Res} (hc : c = .seq x y) (hy : g21X y K = G) : g21X c K = g21X x (kSeq G K) := seq_cut hc hy
theorem g21blk {c x : Code} {K : Kon} {i : Nat} (hc : c = .block i x) : g21X c K = g21X x (kBlk i K) := blk_cut hc
theorem g21loop {c x : Code} {K : Kon} (hc : c = .loop x) : g21X c K = aloop (g21X x) K big := loop_cut hc
theorem g21cond {c x y : Code} {K : Kon} {v : Operand} {F G : Env → St → Res} (hc : c = .cond v x y) (hx : g21X x K = F) (hy : g21X y K = G) : g21X c K = condF v F G := cond_cut hc hx hy
noncomputable def g21k0 : Kon := kSeq (g21X (g21C [1, 1]) (g21kr)) (g21kr)
noncomputable def g21k1 : Kon := kSeq (g21X (g21C [1, 0, 1]) (g21k0)) (g21k0)
noncomputable def g21b100_7 (x0 : V) (x1 : V) (x2 : V) (x14 : V) (st : St) : Res :=
 A.guard x14 false
 (A.bin .lss x0 (.int .i64 0) fun a1 =>
 A.guard a1 false
 (A.bin .geq x0 x1 fun a2 =>
 A.cond a2
 (some (.ret (.tup [(.ptr0 : V).er1, ((.int .i64 1) : V).er1]), st))
 (A.build [(.int .i64 0), (.int .i64 0), (.bool false), (.bool false), (.bool false), (.int .i64 0)] [(1, 1, x1), (2, 1, x2), (3, 1, x2), (5, 1, (.int .i64 (-1)))] fun a3 =>
 A.box a3 st fun a4 z5 =>
 some (.ret (.tup [a4.er1, ((.int .i64 0) : V).er1]), z5)))
 (some (.ret (.tup [(.ptr0 : V).er1, ((.int .i64 1) : V).er1]), st)))
 (some (.ret (.tup [(.ptr0 : V).er1, ((.int .i64 1) : V).er1]), st))
theorem g21e100_7 : (fun env st => aops Try.prog g21mu g21T 28 (rops (g21C [1, 0, 0])) [7, 8, 9, 10, 11, 12, 13, 14] env st ((g21k1) .normal)) = fun env st => g21b100_7 (env 0) (env 1) (env 2) (env 14) st := by
  refine Eq.trans (Eq.refl _) ?_
  funext env st
  kernel_rfl
noncomputable def f21 (x0 : V) (x1 : V) (x2 : V) (st : St) : Res :=
 A.bin .lss x1 (.int .i64 1) fun a1 =>
 A.guard a1 false
 (A.bin .gtr x1 (.int .i64 65) fun a2 =>
 g21b100_7 x0 x1 x2 a2 st)
 (g21b100_7 x0 x1 x2 (.bool true) st)
theorem g21nr : g21C [] = .seq (g21C [0]) (g21C [1]) := by kernel_rfl
theorem g21n1 : g21C [1] = .seq (g21C [1, 0]) (g21C [1, 1]) := by kernel_rfl
theorem g21n10 : g21C [1, 0] = .seq (g21C [1, 0, 0]) (g21C [1, 0, 1]) := by kernel_rfl
theorem g21rg100 : g21C [1, 0, 0] = .region 1 (rops (g21C [1, 0, 0])) false := by kernel_rfl
theorem g21rg100l : List.range (rops (g21C [1, 0, 0])).size = [0, 1, 2, 3, 4, 5, 6] ++ [7, 8, 9, 10, 11, 12, 13, 14] := by kernel_rfl
theorem g21er (env : Env) (st : St) : g21X (g21C []) g21kr env st = f21 (env 0) (env 1) (env 2) st := by
  rw [(g21seq g21nr ((g21seq g21n1 rfl).trans ((g21seq g21n10 rfl).trans (g21reg g21rg100 g21rg100l (g21e100_7)))))]
  kernel_rfl
theorem s21_eq (x0 : V) (x1 : V) (x2 : V) (st : St) : s21 [x0, x1, x2] st = f21 x0 x1 x2 st := by
  have h : afn Try.prog g21mu g21T big (areg Try.prog g21mu g21T) 21 [x0, x1, x2] st = g21X (g21C []) g21kr (fun t => [x0, x1, x2].getD t (.tup [])) st := by kernel_rfl
  rw [s21, sealF_eq]
  exact h.trans (g21er _ st)
/-! (*sinew/sinewlaw14.world).rests -/
def g11mu : Nat → Bool := fun _ => false
noncomputable def g11T : Tbl := tget [(16, s16), (20, s20)]
theorem g11t : SimT Try.prog g11T := simT_cons sim16 ( simT_cons sim20 (simT_nil))
noncomputable def s11 : Fn := sealF (afn Try.prog g11mu g11T big (areg Try.prog g11mu g11T) 11)
theorem sim11 : Sim Try.prog 11 s11 := (afn_sim g11t (fun m => areg_sound g11t hmix m) 11 (by kernel_rfl)).sealed
noncomputable def g11C (p : List Nat) : Code := sub (match Try.f11.body with | some c => c | none => .skip) p
noncomputable def g11X (c : Code) (K : Kon) : Env → St → Res := aexec Try.prog g11mu g11T big 53 (areg Try.prog g11mu g11T 53) c K
noncomputable def g11kr : Kon := aresK Try.prog Try.f11.results.toList
theorem g11reg {c : Code} {K : Kon} {G : Env → St → Res} {id : Nat} {ops : Array Oper} {l1 l2 : List Nat} (hc : c = .region id ops false) (hl : List.range ops.size = l1 ++ l2) (h : (fun env st => aops Try.prog g11mu g11T 53 ops l2 env st (K .normal)) = G) : g11X c K = fun env st => aops Try.prog g11mu g11T 53 ops l1 env st G := reg_cut hc hl h
theorem g11seq {c x y : Code} {K : Kon} {G : Env → St → Res} (hc : c = .seq x y) (hy : g11X y K = G) : g11X c K = g11X x (kSeq G K) := seq_cut hc hy
theorem g11blk {c x : Code} {K : Kon} {i : Nat} (hc : c = .block i x) : g11X c K = g11X x (kBlk i K) := blk_cut hc
theorem g11loop {c x : Code} {K : Kon} (hc : c = .loop x) : g11X c K = aloop (g11X x) K big := loop_cut hc
theorem g11cond {c x y : Code} {K : Kon} {v : Operand} {F G : Env → St → Res} (hc : c = .cond v x y) (hx : g11X x K = F) (hy : g11X y K = G) : g11X c K = condF v F G := cond_cut hc hx hy
noncomputable def g11b11 (x0 : V) (x4 : V) (x5 : V) (st : St) : Res :=
 A.eql 2 true x5 (.int .i64 0) fun a1 =>
 A.cond a1
 (A.nilc x0 fun a2 =>
 A.faddr 4 a2 fun a3 =>
 A.store 1 a3 (.bool false) st fun z4 =>
 some (.ret (.tup []), z4))
 (A.bin .geq x4 (.int .i64 0) fun a5 =>
 A.cond a5
 (A.nilc x0 fun a6 =>
 A.faddr 2 a6 fun a7 =>
 A.load false 1 a7 st fun a8 z9 =>
 A.bslice 1 (.int .i64 0) 1 [(0, x4)] fun a10 =>
 A.app 1 a8 (elemsOf 5 1 a10 z9) z9 fun a11 z12 =>
 A.nilc x0 fun a13 =>
 A.faddr 2 a13 fun a14 =>
 A.store 1 a14 a11 z12 fun z15 =>
 some (.ret (.tup []), z15))
 (some (.ret (.tup []), st)))
theorem g11e11 : g11X (g11C [1, 1]) (g11kr) = fun env st => g11b11 (env 0) (env 4) (env 5) st := by
  refine Eq.trans (Eq.refl (g11X (g11C [1, 1]) (g11kr))) ?_
  funext env st
  kernel_rfl
noncomputable def g11b1 (x0 : V) (x1 : V) (st : St) : Res :=
 A.nilc x0 fun a1 =>
 A.faddr 0 a1 fun a2 =>
 A.load false 1 a2 st fun a3 z4 =>
 A.iaddr 1 a3 x1 fun a5 =>
 A.load false 1 a5 z4 fun a6 z7 =>
 A.ret (s16 [a6.er1] z7) fun a8 z9 =>
 A.ext a8 0 fun a10 =>
 A.ext a8 1 fun a11 =>
 g11b11 x0 a10 a11 z9
theorem g11n1 : g11C [1] = .seq (g11C [1, 0]) (g11C [1, 1]) := by kernel_rfl
theorem g11e1 : g11X (g11C [1]) (g11kr) = fun env st => g11b1 (env 0) (env 1) st := by
  refine Eq.trans (g11seq g11n1 (g11e11)) ?_
  funext env st
  kernel_rfl
noncomputable def g11k0 : Kon := kSeq (fun env st => g11b1 (env 0) (env 1) st) (g11kr)
noncomputable def g11k1 : Kon := kSeq (g11X (g11C [0, 1]) (g11k0)) (g11k0)
noncomputable def g11b00_9 (x0 : V) (x1 : V) (x14 : V) (st : St) : Res :=
 A.guard x14 false
 (A.nilc x0 fun a1 =>
 A.faddr 0 a1 fun a2 =>
 A.load false 1 a2 st fun a3 z4 =>
 A.iaddr 1 a3 x1 fun a5 =>
 A.load false 1 a5 z4 fun a6 z7 =>
 A.ret (s20 [a6.er1] z7) fun a8 z9 =>
 A.un .not a8 fun a10 =>
 A.cond a10
 (some (.ret (.tup []), z9))
 (g11b1 x0 x1 z9))
 (some (.ret (.tup []), st))
theorem g11e00_9 : (fun env st => aops Try.prog g11mu g11T 53 (rops (g11C [0, 0])) [9, 10, 11, 12, 13, 14, 15, 16, 17, 18] env st ((g11k1) .normal)) = fun env st => g11b00_9 (env 0) (env 1) (env 14) st := by
  refine Eq.trans (Eq.refl _) ?_
  funext env st
  kernel_rfl
noncomputable def f11 (x0 : V) (x1 : V) (st : St) : Res :=
 A.nilc x0 fun a1 =>
 A.faddr 3 a1 fun a2 =>
 A.load false 1 a2 st fun a3 z4 =>
 A.iaddr 1 a3 x1 fun a5 =>
 A.load false 1 a5 z4 fun a6 z7 =>
 A.bin .gtr a6 (.int .i64 0) fun a8 =>
 g11b00_9 x0 x1 a8 z7
theorem g11nr : g11C [] = .seq (g11C [0]) (g11C [1]) := by kernel_rfl
theorem g11n0 : g11C [0] = .seq (g11C [0, 0]) (g11C [0, 1]) := by kernel_rfl
theorem g11rg00 : g11C [0, 0] = .region 0 (rops (g11C [0, 0])) false := by kernel_rfl
theorem g11rg00l : List.range (rops (g11C [0, 0])).size = [0, 1, 2, 3, 4, 5, 6, 7, 8] ++ [9, 10, 11, 12, 13, 14, 15, 16, 17, 18] := by kernel_rfl
theorem g11er (env : Env) (st : St) : g11X (g11C []) g11kr env st = f11 (env 0) (env 1) st := by
  rw [((g11seq g11nr (g11e1)).trans ((g11seq g11n0 rfl).trans (g11reg g11rg00 g11rg00l (g11e00_9))))]
  kernel_rfl
theorem s11_eq (x0 : V) (x1 : V) (st : St) : s11 [x0, x1] st = f11 x0 x1 st := by
  have h : afn Try.prog g11mu g11T big (areg Try.prog g11mu g11T) 11 [x0, x1] st = g11X (g11C []) g11kr (fun t => [x0, x1].getD t (.tup [])) st := by kernel_rfl
  rw [s11, sealF_eq]
  exact h.trans (g11er _ st)
/-! (*sinew/sinewlaw14.world).told -/
def g10mu : Nat → Bool := fun _ => false
noncomputable def g10T : Tbl := tget [(11, s11), (18, s18)]
theorem g10t : SimT Try.prog g10T := simT_cons sim11 ( simT_cons sim18 (simT_nil))
noncomputable def s10 : Fn := sealF (afn Try.prog g10mu g10T big (areg Try.prog g10mu g10T) 10)
theorem sim10 : Sim Try.prog 10 s10 := (afn_sim g10t (fun m => areg_sound g10t hmix m) 10 (by kernel_rfl)).sealed
noncomputable def g10C (p : List Nat) : Code := sub (match Try.f10.body with | some c => c | none => .skip) p
noncomputable def g10X (c : Code) (K : Kon) : Env → St → Res := aexec Try.prog g10mu g10T big 62 (areg Try.prog g10mu g10T 62) c K
noncomputable def g10kr : Kon := aresK Try.prog Try.f10.results.toList
theorem g10reg {c : Code} {K : Kon} {G : Env → St → Res} {id : Nat} {ops : Array Oper} {l1 l2 : List Nat} (hc : c = .region id ops false) (hl : List.range ops.size = l1 ++ l2) (h : (fun env st => aops Try.prog g10mu g10T 62 ops l2 env st (K .normal)) = G) : g10X c K = fun env st => aops Try.prog g10mu g10T 62 ops l1 env st G := reg_cut hc hl h
theorem g10seq {c x y : Code} {K : Kon} {G : Env → St → Res} (hc : c = .seq x y) (hy : g10X y K = G) : g10X c K = g10X x (kSeq G K) := seq_cut hc hy
theorem g10blk {c x : Code} {K : Kon} {i : Nat} (hc : c = .block i x) : g10X c K = g10X x (kBlk i K) := blk_cut hc
theorem g10loop {c x : Code} {K : Kon} (hc : c = .loop x) : g10X c K = aloop (g10X x) K big := loop_cut hc
theorem g10cond {c x y : Code} {K : Kon} {v : Operand} {F G : Env → St → Res} (hc : c = .cond v x y) (hx : g10X x K = F) (hy : g10X y K = G) : g10X c K = condF v F G := cond_cut hc hx hy
noncomputable def g10b111111 (x0 : V) (x4 : V) (st : St) : Res :=
 A.nilc x0 fun a1 =>
 A.faddr 0 a1 fun a2 =>
 A.load false 1 a2 st fun a3 z4 =>
 A.iaddr 1 a3 x4 fun a5 =>
 A.load false 1 a5 z4 fun a6 z7 =>
 A.ret (s18 [a6.er1] z7) fun a8 z9 =>
 A.eql 2 true a8 (.int .i64 0) fun a10 =>
 A.cond a10
 (A.nilc x0 fun a11 =>
 A.faddr 4 a11 fun a12 =>
 A.store 1 a12 (.bool false) z9 fun z13 =>
 A.ret (s11 [x0.er1, x4.er1] z13) fun a14 z15 =>
 some (.ret (.tup []), z15))
 (A.ret (s11 [x0.er1, x4.er1] z9) fun a16 z17 =>
 some (.ret (.tup []), z17))
theorem g10e111111 : g10X (g10C [1, 1, 1, 1, 1, 1]) (g10kr) = fun env st => g10b111111 (env 0) (env 4) st := by
  refine Eq.trans (Eq.refl (g10X (g10C [1, 1, 1, 1, 1, 1]) (g10kr))) ?_
  funext env st
  kernel_rfl
noncomputable def g10b11111 (x0 : V) (x1 : V) (x4 : V) (x5 : V) (st : St) : Res :=
 A.nilc x0 fun a1 =>
 A.faddr 2 a1 fun a2 =>
 A.load false 1 a2 st fun a3 z4 =>
 A.bin .add x1 (.int .i64 1) fun a5 =>
 A.slice 1 a3 (some a5) none none fun a6 =>
 A.app 1 x5 (elemsOf 5 1 a6 z4) z4 fun a7 z8 =>
 A.nilc x0 fun a9 =>
 A.faddr 2 a9 fun a10 =>
 A.store 1 a10 a7 z8 fun z11 =>
 g10b111111 x0 x4 z11
theorem g10n11111 : g10C [1, 1, 1, 1, 1] = .seq (g10C [1, 1, 1, 1, 1, 0]) (g10C [1, 1, 1, 1, 1, 1]) := by kernel_rfl
theorem g10e11111 : g10X (g10C [1, 1, 1, 1, 1]) (g10kr) = fun env st => g10b11111 (env 0) (env 1) (env 4) (env 5) st := by
  refine Eq.trans (g10seq g10n11111 (g10e111111)) ?_
  funext env st
  kernel_rfl
noncomputable def g10b11 (x0 : V) (x1 : V) (st : St) : Res :=
 A.nilc x0 fun a1 =>
 A.faddr 2 a1 fun a2 =>
 A.load false 1 a2 st fun a3 z4 =>
 A.iaddr 1 a3 x1 fun a5 =>
 A.load false 1 a5 z4 fun a6 z7 =>
 A.nilc x0 fun a8 =>
 A.faddr 2 a8 fun a9 =>
 A.load false 1 a9 z7 fun a10 z11 =>
 A.slice 1 a10 none (some x1) none fun a12 =>
 A.app 1 (.lst [] 1) (elemsOf 5 1 a12 z11) z11 fun a13 z14 =>
 g10b11111 x0 x1 a6 a13 z14
theorem g10n11 : g10C [1, 1] = .seq (g10C [1, 1, 0]) (g10C [1, 1, 1]) := by kernel_rfl
theorem g10n111 : g10C [1, 1, 1] = .seq (g10C [1, 1, 1, 0]) (g10C [1, 1, 1, 1]) := by kernel_rfl
theorem g10n1111 : g10C [1, 1, 1, 1] = .seq (g10C [1, 1, 1, 1, 0]) (g10C [1, 1, 1, 1, 1]) := by kernel_rfl
theorem g10e11 : g10X (g10C [1, 1]) (g10kr) = fun env st => g10b11 (env 0) (env 1) st := by
  refine Eq.trans (g10seq g10n11 (g10seq g10n111 (g10seq g10n1111 (g10e11111)))) ?_
  funext env st
  kernel_rfl
noncomputable def f10 (x0 : V) (x1 : V) (st : St) : Res :=
 A.nilc x0 fun a1 =>
 A.faddr 2 a1 fun a2 =>
 A.load false 1 a2 st fun a3 z4 =>
 A.lenL a3 fun a5 =>
 A.eql 2 false a5 (.int .i64 0) fun a6 =>
 A.cond a6
 (some (.ret (.tup []), z4))
 (A.bin .and x1 (.int .i64 65535) fun a7 =>
 A.nilc x0 fun a8 =>
 A.faddr 2 a8 fun a9 =>
 A.load false 1 a9 z4 fun a10 z11 =>
 A.lenL a10 fun a12 =>
 A.bin .rem a7 a12 fun a13 =>
 g10b11 x0 a13 z11)
theorem g10nr : g10C [] = .seq (g10C [0]) (g10C [1]) := by kernel_rfl
theorem g10n1 : g10C [1] = .seq (g10C [1, 0]) (g10C [1, 1]) := by kernel_rfl
theorem g10er (env : Env) (st : St) : g10X (g10C []) g10kr env st = f10 (env 0) (env 1) st := by
  rw [(g10seq g10nr (g10seq g10n1 (g10e11)))]
  kernel_rfl
theorem s10_eq (x0 : V) (x1 : V) (st : St) : s10 [x0, x1] st = f10 x0 x1 st := by
  have h : afn Try.prog g10mu g10T big (areg Try.prog g10mu g10T) 10 [x0, x1] st = g10X (g10C []) g10kr (fun t => [x0, x1].getD t (.tup [])) st := by kernel_rfl
  rw [s10, sealF_eq]
  exact h.trans (g10er _ st)
/-! (*sinew/sinewlaw14.world).sends -/
def g8mu : Nat → Bool := fun _ => false
noncomputable def g8T : Tbl := tget [(11, s11), (17, s17), (20, s20)]
theorem g8t : SimT Try.prog g8T := simT_cons sim11 ( simT_cons sim17 ( simT_cons sim20 (simT_nil)))
noncomputable def s8 : Fn := sealF (afn Try.prog g8mu g8T big (areg Try.prog g8mu g8T) 8)
theorem sim8 : Sim Try.prog 8 s8 := (afn_sim g8t (fun m => areg_sound g8t hmix m) 8 (by kernel_rfl)).sealed
noncomputable def g8C (p : List Nat) : Code := sub (match Try.f8.body with | some c => c | none => .skip) p
noncomputable def g8X (c : Code) (K : Kon) : Env → St → Res := aexec Try.prog g8mu g8T big 61 (areg Try.prog g8mu g8T 61) c K
noncomputable def g8kr : Kon := aresK Try.prog Try.f8.results.toList
theorem g8reg {c : Code} {K : Kon} {G : Env → St → Res} {id : Nat} {ops : Array Oper} {l1 l2 : List Nat} (hc : c = .region id ops false) (hl : List.range ops.size = l1 ++ l2) (h : (fun env st => aops Try.prog g8mu g8T 61 ops l2 env st (K .normal)) = G) : g8X c K = fun env st => aops Try.prog g8mu g8T 61 ops l1 env st G := reg_cut hc hl h
theorem g8seq {c x y : Code} {K : Kon} {G : Env → St → Res} (hc : c = .seq x y) (hy : g8X y K = G) : g8X c K = g8X x (kSeq G K) := seq_cut hc hy
theorem g8blk {c x : Code} {K : Kon} {i : Nat} (hc : c = .block i x) : g8X c K = g8X x (kBlk i K) := blk_cut hc
theorem g8loop {c x : Code} {K : Kon} (hc : c = .loop x) : g8X c K = aloop (g8X x) K big := loop_cut hc
theorem g8cond {c x y : Code} {K : Kon} {v : Operand} {F G : Env → St → Res} (hc : c = .cond v x y) (hx : g8X x K = F) (hy : g8X y K = G) : g8X c K = condF v F G := cond_cut hc hx hy
noncomputable def g8b111 (x0 : V) (x1 : V) (x2 : V) (st : St) : Res :=
 A.nilc x0 fun a1 =>
 A.faddr 1 a1 fun a2 =>
 A.load false 1 a2 st fun a3 z4 =>
 A.build [(.int .i64 0), (.int .i64 0)] [(0, 1, x1), (1, 1, x2)] fun a5 =>
 A.bslice 2 (.agg [(.int .i64 0), (.int .i64 0)]) 1 [(0, a5)] fun a6 =>
 A.app 2 a3 (elemsOf 5 2 a6 z4) z4 fun a7 z8 =>
 A.nilc x0 fun a9 =>
 A.faddr 1 a9 fun a10 =>
 A.store 1 a10 a7 z8 fun z11 =>
 A.ret (s11 [x0.er1, x1.er1] z11) fun a12 z13 =>
 some (.ret (.tup []), z13)
theorem g8e111 : g8X (g8C [1, 1, 1]) (g8kr) = fun env st => g8b111 (env 0) (env 1) (env 2) st := by
  refine Eq.trans (Eq.refl (g8X (g8C [1, 1, 1]) (g8kr))) ?_
  funext env st
  kernel_rfl
noncomputable def g8b11 (x0 : V) (x1 : V) (x2 : V) (st : St) : Res :=
 A.nilc x0 fun a1 =>
 A.faddr 0 a1 fun a2 =>
 A.load false 1 a2 st fun a3 z4 =>
 A.iaddr 1 a3 x1 fun a5 =>
 A.load false 1 a5 z4 fun a6 z7 =>
 A.ret (s17 [a6.er1, ((.int .i64 1) : V).er1] z7) fun a8 z9 =>
 A.eql 2 true a8 (.int .i64 0) fun a10 =>
 A.cond a10
 (A.nilc x0 fun a11 =>
 A.faddr 4 a11 fun a12 =>
 A.store 1 a12 (.bool false) z9 fun z13 =>
 g8b111 x0 x1 x2 z13)
 (g8b111 x0 x1 x2 z9)
theorem g8n11 : g8C [1, 1] = .seq (g8C [1, 1, 0]) (g8C [1, 1, 1]) := by kernel_rfl
theorem g8e11 : g8X (g8C [1, 1]) (g8kr) = fun env st => g8b11 (env 0) (env 1) (env 2) st := by
  refine Eq.trans (g8seq g8n11 (g8e111)) ?_
  funext env st
  kernel_rfl
noncomputable def g8b1 (x0 : V) (x1 : V) (x2 : V) (st : St) : Res :=
 A.nilc x0 fun a1 =>
 A.faddr 3 a1 fun a2 =>
 A.load false 1 a2 st fun a3 z4 =>
 A.iaddr 1 a3 x1 fun a5 =>
 A.load false 1 a5 z4 fun a6 z7 =>
 A.bin .sub a6 (.int .i64 1) fun a8 =>
 A.iaddr 1 a3 x1 fun a9 =>
 A.store 1 a9 a8 z7 fun z10 =>
 g8b11 x0 x1 x2 z10
theorem g8n1 : g8C [1] = .seq (g8C [1, 0]) (g8C [1, 1]) := by kernel_rfl
theorem g8e1 : g8X (g8C [1]) (g8kr) = fun env st => g8b1 (env 0) (env 1) (env 2) st := by
  refine Eq.trans (g8seq g8n1 (g8e11)) ?_
  funext env st
  kernel_rfl
noncomputable def g8k0 : Kon := kSeq (fun env st => g8b1 (env 0) (env 1) (env 2) st) (g8kr)
noncomputable def g8k1 : Kon := kSeq (g8X (g8C [0, 1]) (g8k0)) (g8k0)
noncomputable def g8b00_9 (x0 : V) (x1 : V) (x2 : V) (x14 : V) (st : St) : Res :=
 A.guard x14 false
 (A.nilc x0 fun a1 =>
 A.faddr 0 a1 fun a2 =>
 A.load false 1 a2 st fun a3 z4 =>
 A.iaddr 1 a3 x1 fun a5 =>
 A.load false 1 a5 z4 fun a6 z7 =>
 A.ret (s20 [a6.er1] z7) fun a8 z9 =>
 A.un .not a8 fun a10 =>
 A.cond a10
 (some (.ret (.tup []), z9))
 (g8b1 x0 x1 x2 z9))
 (some (.ret (.tup []), st))
theorem g8e00_9 : (fun env st => aops Try.prog g8mu g8T 61 (rops (g8C [0, 0])) [9, 10, 11, 12, 13, 14, 15, 16, 17, 18] env st ((g8k1) .normal)) = fun env st => g8b00_9 (env 0) (env 1) (env 2) (env 14) st := by
  refine Eq.trans (Eq.refl _) ?_
  funext env st
  kernel_rfl
noncomputable def f8 (x0 : V) (x1 : V) (x2 : V) (st : St) : Res :=
 A.nilc x0 fun a1 =>
 A.faddr 3 a1 fun a2 =>
 A.load false 1 a2 st fun a3 z4 =>
 A.iaddr 1 a3 x1 fun a5 =>
 A.load false 1 a5 z4 fun a6 z7 =>
 A.eql 2 false a6 (.int .i64 0) fun a8 =>
 g8b00_9 x0 x1 x2 a8 z7
theorem g8nr : g8C [] = .seq (g8C [0]) (g8C [1]) := by kernel_rfl
theorem g8n0 : g8C [0] = .seq (g8C [0, 0]) (g8C [0, 1]) := by kernel_rfl
theorem g8rg00 : g8C [0, 0] = .region 0 (rops (g8C [0, 0])) false := by kernel_rfl
theorem g8rg00l : List.range (rops (g8C [0, 0])).size = [0, 1, 2, 3, 4, 5, 6, 7, 8] ++ [9, 10, 11, 12, 13, 14, 15, 16, 17, 18] := by kernel_rfl
theorem g8er (env : Env) (st : St) : g8X (g8C []) g8kr env st = f8 (env 0) (env 1) (env 2) st := by
  rw [((g8seq g8nr (g8e1)).trans ((g8seq g8n0 rfl).trans (g8reg g8rg00 g8rg00l (g8e00_9))))]
  kernel_rfl
theorem s8_eq (x0 : V) (x1 : V) (x2 : V) (st : St) : s8 [x0, x1, x2] st = f8 x0 x1 x2 st := by
  have h : afn Try.prog g8mu g8T big (areg Try.prog g8mu g8T) 8 [x0, x1, x2] st = g8X (g8C []) g8kr (fun t => [x0, x1, x2].getD t (.tup [])) st := by kernel_rfl
  rw [s8, sealF_eq]
  exact h.trans (g8er _ st)
/-! (*sinew/sinewlaw14.world).comes -/
def g9mu : Nat → Bool := fun _ => false
noncomputable def g9T : Tbl := tget [(11, s11), (15, s15)]
theorem g9t : SimT Try.prog g9T := simT_cons sim11 ( simT_cons sim15 (simT_nil))
noncomputable def s9 : Fn := sealF (afn Try.prog g9mu g9T big (areg Try.prog g9mu g9T) 9)
theorem sim9 : Sim Try.prog 9 s9 := (afn_sim g9t (fun m => areg_sound g9t hmix m) 9 (by kernel_rfl)).sealed
noncomputable def g9C (p : List Nat) : Code := sub (match Try.f9.body with | some c => c | none => .skip) p
noncomputable def g9X (c : Code) (K : Kon) : Env → St → Res := aexec Try.prog g9mu g9T big 103 (areg Try.prog g9mu g9T 103) c K
noncomputable def g9kr : Kon := aresK Try.prog Try.f9.results.toList
theorem g9reg {c : Code} {K : Kon} {G : Env → St → Res} {id : Nat} {ops : Array Oper} {l1 l2 : List Nat} (hc : c = .region id ops false) (hl : List.range ops.size = l1 ++ l2) (h : (fun env st => aops Try.prog g9mu g9T 103 ops l2 env st (K .normal)) = G) : g9X c K = fun env st => aops Try.prog g9mu g9T 103 ops l1 env st G := reg_cut hc hl h
theorem g9seq {c x y : Code} {K : Kon} {G : Env → St → Res} (hc : c = .seq x y) (hy : g9X y K = G) : g9X c K = g9X x (kSeq G K) := seq_cut hc hy
theorem g9blk {c x : Code} {K : Kon} {i : Nat} (hc : c = .block i x) : g9X c K = g9X x (kBlk i K) := blk_cut hc
theorem g9loop {c x : Code} {K : Kon} (hc : c = .loop x) : g9X c K = aloop (g9X x) K big := loop_cut hc
theorem g9cond {c x y : Code} {K : Kon} {v : Operand} {F G : Env → St → Res} (hc : c = .cond v x y) (hx : g9X x K = F) (hy : g9X y K = G) : g9X c K = condF v F G := cond_cut hc hx hy
noncomputable def g9b111111111 (x0 : V) (x2 : V) (x6 : V) (st : St) : Res :=
 A.nilc x0 fun a1 =>
 A.faddr 3 a1 fun a2 =>
 A.load false 1 a2 st fun a3 _ =>
 A.iaddrA 2 1 x6 (.int .i64 1) fun a4 =>
 A.load false 1 a4 st fun a5 _ =>
 A.nilc x0 fun a6 =>
 A.faddr 3 a6 fun a7 =>
 A.load false 1 a7 st fun a8 _ =>
 A.iaddrA 2 1 x6 (.int .i64 1) fun a9 =>
 A.load false 1 a9 st fun a10 _ =>
 A.iaddr 1 a8 a10 fun a11 =>
 A.load false 1 a11 st fun a12 _ =>
 A.bin .add a12 x2 fun a13 =>
 A.iaddr 1 a3 a5 fun a14 =>
 A.noP (A.store 1 a14 a13 st fun s => kid (.tup []) s) fun a15 z16 =>
 A.iaddrA 2 1 x6 (.int .i64 1) fun a17 =>
 A.load false 1 a17 z16 fun a18 z19 =>
 A.ret (s11 [x0.er1, a18.er1] z19) fun a20 z21 =>
 some (.ret (.tup []), z21)
theorem g9e111111111 : g9X (g9C [1, 1, 1, 1, 1, 1, 1, 1, 1]) (g9kr) = fun env st => g9b111111111 (env 0) (env 2) (env 6) st := by
  refine Eq.trans (Eq.refl (g9X (g9C [1, 1, 1, 1, 1, 1, 1, 1, 1]) (g9kr))) ?_
  funext env st
  kernel_rfl
noncomputable def g9b1111111 (x0 : V) (x2 : V) (x6 : V) (x8 : V) (x9 : V) (st : St) : Res :=
 A.eql 2 true x9 (.int .i64 0) fun a1 =>
 A.cond a1
 (A.nilc x0 fun a2 =>
 A.faddr 4 a2 fun a3 =>
 A.store 1 a3 (.bool false) st fun z4 =>
 some (.ret (.tup []), z4))
 (A.bin .geq x8 (.int .i64 0) fun a5 =>
 A.cond a5
 (A.nilc x0 fun a6 =>
 A.faddr 2 a6 fun a7 =>
 A.load false 1 a7 st fun a8 z9 =>
 A.bslice 1 (.int .i64 0) 1 [(0, x8)] fun a10 =>
 A.app 1 a8 (elemsOf 5 1 a10 z9) z9 fun a11 z12 =>
 A.nilc x0 fun a13 =>
 A.faddr 2 a13 fun a14 =>
 A.store 1 a14 a11 z12 fun z15 =>
 g9b111111111 x0 x2 x6 z15)
 (g9b111111111 x0 x2 x6 st))
theorem g9n1111111 : g9C [1, 1, 1, 1, 1, 1, 1] = .seq (g9C [1, 1, 1, 1, 1, 1, 1, 0]) (g9C [1, 1, 1, 1, 1, 1, 1, 1]) := by kernel_rfl
theorem g9n11111111 : g9C [1, 1, 1, 1, 1, 1, 1, 1] = .seq (g9C [1, 1, 1, 1, 1, 1, 1, 1, 0]) (g9C [1, 1, 1, 1, 1, 1, 1, 1, 1]) := by kernel_rfl
theorem g9e1111111 : g9X (g9C [1, 1, 1, 1, 1, 1, 1]) (g9kr) = fun env st => g9b1111111 (env 0) (env 2) (env 6) (env 8) (env 9) st := by
  refine Eq.trans (g9seq g9n1111111 (g9seq g9n11111111 (g9e111111111))) ?_
  funext env st
  kernel_rfl
noncomputable def g9b111111 (x0 : V) (x2 : V) (x6 : V) (st : St) : Res :=
 A.nilc x0 fun a1 =>
 A.faddr 0 a1 fun a2 =>
 A.load false 1 a2 st fun a3 _ =>
 A.iaddrA 2 1 x6 (.int .i64 1) fun a4 =>
 A.load false 1 a4 st fun a5 _ =>
 A.iaddr 1 a3 a5 fun a6 =>
 A.load false 1 a6 st fun a7 _ =>
 A.iaddrA 2 1 x6 (.int .i64 0) fun a8 =>
 A.load false 1 a8 st fun a9 _ =>
 A.noP (A.ret (s15 [a7.er1, a9.er1] st) kid) fun a10 z11 =>
 A.ext a10 0 fun a12 =>
 A.ext a10 1 fun a13 =>
 g9b1111111 x0 x2 x6 a12 a13 z11
theorem g9n111111 : g9C [1, 1, 1, 1, 1, 1] = .seq (g9C [1, 1, 1, 1, 1, 1, 0]) (g9C [1, 1, 1, 1, 1, 1, 1]) := by kernel_rfl
theorem g9e111111 : g9X (g9C [1, 1, 1, 1, 1, 1]) (g9kr) = fun env st => g9b111111 (env 0) (env 2) (env 6) st := by
  refine Eq.trans (g9seq g9n111111 (g9e1111111)) ?_
  funext env st
  kernel_rfl
noncomputable def g9b11111 (x0 : V) (x1 : V) (x2 : V) (x6 : V) (x7 : V) (st : St) : Res :=
 A.nilc x0 fun a1 =>
 A.faddr 1 a1 fun a2 =>
 A.load false 1 a2 st fun a3 z4 =>
 A.bin .add x1 (.int .i64 1) fun a5 =>
 A.slice 2 a3 (some a5) none none fun a6 =>
 A.app 2 x7 (elemsOf 5 2 a6 z4) z4 fun a7 z8 =>
 A.nilc x0 fun a9 =>
 A.faddr 1 a9 fun a10 =>
 A.store 1 a10 a7 z8 fun z11 =>
 g9b111111 x0 x2 x6 z11
theorem g9n11111 : g9C [1, 1, 1, 1, 1] = .seq (g9C [1, 1, 1, 1, 1, 0]) (g9C [1, 1, 1, 1, 1, 1]) := by kernel_rfl
theorem g9e11111 : g9X (g9C [1, 1, 1, 1, 1]) (g9kr) = fun env st => g9b11111 (env 0) (env 1) (env 2) (env 6) (env 7) st := by
  refine Eq.trans (g9seq g9n11111 (g9e111111)) ?_
  funext env st
  kernel_rfl
noncomputable def g9b11 (x0 : V) (x1 : V) (x2 : V) (st : St) : Res :=
 A.nilc x0 fun a1 =>
 A.faddr 1 a1 fun a2 =>
 A.load false 1 a2 st fun a3 z4 =>
 A.iaddr 2 a3 x1 fun a5 =>
 A.load true 2 a5 z4 fun a6 z7 =>
 A.box (.agg [(.int .i64 0), (.int .i64 0)]) z7 fun a8 z9 =>
 A.store 2 a8 a6 z9 fun z10 =>
 A.nilc x0 fun a11 =>
 A.faddr 1 a11 fun a12 =>
 A.load false 1 a12 z10 fun a13 z14 =>
 A.slice 2 a13 none (some x1) none fun a15 =>
 A.app 2 (.lst [] 1) (elemsOf 5 2 a15 z14) z14 fun a16 z17 =>
 g9b11111 x0 x1 x2 a8 a16 z17
theorem g9n11 : g9C [1, 1] = .seq (g9C [1, 1, 0]) (g9C [1, 1, 1]) := by kernel_rfl
theorem g9n111 : g9C [1, 1, 1] = .seq (g9C [1, 1, 1, 0]) (g9C [1, 1, 1, 1]) := by kernel_rfl
theorem g9n1111 : g9C [1, 1, 1, 1] = .seq (g9C [1, 1, 1, 1, 0]) (g9C [1, 1, 1, 1, 1]) := by kernel_rfl
theorem g9e11 : g9X (g9C [1, 1]) (g9kr) = fun env st => g9b11 (env 0) (env 1) (env 2) st := by
  refine Eq.trans (g9seq g9n11 (g9seq g9n111 (g9seq g9n1111 (g9e11111)))) ?_
  funext env st
  kernel_rfl
noncomputable def f9 (x0 : V) (x1 : V) (x2 : V) (st : St) : Res :=
 A.nilc x0 fun a1 =>
 A.faddr 1 a1 fun a2 =>
 A.load false 1 a2 st fun a3 z4 =>
 A.lenL a3 fun a5 =>
 A.eql 2 false a5 (.int .i64 0) fun a6 =>
 A.cond a6
 (some (.ret (.tup []), z4))
 (A.bin .and x1 (.int .i64 65535) fun a7 =>
 A.nilc x0 fun a8 =>
 A.faddr 1 a8 fun a9 =>
 A.load false 1 a9 z4 fun a10 z11 =>
 A.lenL a10 fun a12 =>
 A.bin .rem a7 a12 fun a13 =>
 g9b11 x0 a13 x2 z11)
theorem g9nr : g9C [] = .seq (g9C [0]) (g9C [1]) := by kernel_rfl
theorem g9n1 : g9C [1] = .seq (g9C [1, 0]) (g9C [1, 1]) := by kernel_rfl
theorem g9er (env : Env) (st : St) : g9X (g9C []) g9kr env st = f9 (env 0) (env 1) (env 2) st := by
  rw [(g9seq g9nr (g9seq g9n1 (g9e11)))]
  kernel_rfl
theorem s9_eq (x0 : V) (x1 : V) (x2 : V) (st : St) : s9 [x0, x1, x2] st = f9 x0 x1 x2 st := by
  have h : afn Try.prog g9mu g9T big (areg Try.prog g9mu g9T) 9 [x0, x1, x2] st = g9X (g9C []) g9kr (fun t => [x0, x1, x2].getD t (.tup [])) st := by kernel_rfl
  rw [s9, sealF_eq]
  exact h.trans (g9er _ st)
/-! (*sinew/sinewlaw14.world).quietNow -/
def g13mu : Nat → Bool := fun _ => false
noncomputable def g13T : Tbl := tget [(20, s20)]
theorem g13t : SimT Try.prog g13T := simT_cons sim20 (simT_nil)
noncomputable def s13 : Fn := sealF (afn Try.prog g13mu g13T big (areg Try.prog g13mu g13T) 13)
theorem sim13 : Sim Try.prog 13 s13 := (afn_sim g13t (fun m => areg_sound g13t hmix m) 13 (by kernel_rfl)).sealed
noncomputable def g13C (p : List Nat) : Code := sub (match Try.f13.body with | some c => c | none => .skip) p
noncomputable def g13X (c : Code) (K : Kon) : Env → St → Res := aexec Try.prog g13mu g13T big 45 (areg Try.prog g13mu g13T 45) c K
noncomputable def g13kr : Kon := aresK Try.prog Try.f13.results.toList
theorem g13reg {c : Code} {K : Kon} {G : Env → St → Res} {id : Nat} {ops : Array Oper} {l1 l2 : List Nat} (hc : c = .region id ops false) (hl : List.range ops.size = l1 ++ l2) (h : (fun env st => aops Try.prog g13mu g13T 45 ops l2 env st (K .normal)) = G) : g13X c K = fun env st => aops Try.prog g13mu g13T 45 ops l1 env st G := reg_cut hc hl h
theorem g13seq {c x y : Code} {K : Kon} {G : Env → St → Res} (hc : c = .seq x y) (hy : g13X y K = G) : g13X c K = g13X x (kSeq G K) := seq_cut hc hy
theorem g13blk {c x : Code} {K : Kon} {i : Nat} (hc : c = .block i x) : g13X c K = g13X x (kBlk i K) := blk_cut hc
theorem g13loop {c x : Code} {K : Kon} (hc : c = .loop x) : g13X c K = aloop (g13X x) K big := loop_cut hc
theorem g13cond {c x y : Code} {K : Kon} {v : Operand} {F G : Env → St → Res} (hc : c = .cond v x y) (hx : g13X x K = F) (hy : g13X y K = G) : g13X c K = condF v F G := cond_cut hc hx hy
noncomputable def g13k0 : Kon := kSeq (g13X (g13C [1, 1, 1]) (g13kr)) (g13kr)
noncomputable def g13k1 : Kon := kBlk 0 (g13k0)
noncomputable def g13k2 (L11010 : V → V → St → Res) : Kon := kSeq (fun env st => L11010 (env 0) (env 3) st) (g13k1)
noncomputable def g13k3 (L11010 : V → V → St → Res) : Kon := kSeq (g13X (g13C [1, 1, 0, 1, 0, 0, 1, 1]) (g13k2 L11010)) (g13k2 L11010)
noncomputable def g13k4 (L11010 : V → V → St → Res) : Kon := kBlk 1 (g13k3 L11010)
noncomputable def g13k5 (L11010 : V → V → St → Res) : Kon := kSeq (g13X (g13C [1, 1, 0, 1, 0, 0, 1, 0, 0, 1]) (g13k4 L11010)) (g13k4 L11010)
noncomputable def g13b1101001000_9 (L11010 : V → V → St → Res) (x0 : V) (x3 : V) (x35 : V) (st : St) : Res :=
 A.guard x35 false
 (A.nilc x0 fun a1 =>
 A.faddr 3 a1 fun a2 =>
 A.load false 1 a2 st fun a3 z4 =>
 A.iaddr 1 a3 x3 fun a5 =>
 A.load false 1 a5 z4 fun a6 z7 =>
 A.bin .gtr a6 (.int .i64 0) fun a8 =>
 A.cond a8
 (some (.ret ((.bool false) : V).er1, z7))
 (A.bin .add x3 (.int .i64 1) fun a9 =>
 L11010 x0 a9 z7))
 (some (.ret ((.bool false) : V).er1, st))
theorem g13e1101001000_9 (L11010 : V → V → St → Res) : (fun env st => aops Try.prog g13mu g13T 45 (rops (g13C [1, 1, 0, 1, 0, 0, 1, 0, 0, 0])) [9, 10, 11, 12, 13, 14, 15, 16, 17] env st ((g13k5 L11010) .normal)) = fun env st => g13b1101001000_9 L11010 (env 0) (env 3) (env 35) st := by
  refine Eq.trans (Eq.refl _) ?_
  funext env st
  kernel_rfl
noncomputable def g13b11010 : Nat → V → V → St → Res
| 0, _, _, _ => none
| n + 1, x0, x3, st =>
 A.nilc x0 fun a1 =>
 A.faddr 0 a1 fun a2 =>
 A.load false 1 a2 st fun a3 z4 =>
 A.lenL a3 fun a5 =>
 A.bin .lss x3 a5 fun a6 =>
 A.cond a6
 (A.nilc x0 fun a7 =>
 A.faddr 0 a7 fun a8 =>
 A.load false 1 a8 z4 fun a9 z10 =>
 A.iaddr 1 a9 x3 fun a11 =>
 A.load false 1 a11 z10 fun a12 z13 =>
 A.ret (s20 [a12.er1] z13) fun a14 z15 =>
 g13b1101001000_9 (g13b11010 n) x0 x3 a14 z15)
 (some (.ret ((.bool true) : V).er1, z4))
theorem g13n11010 : g13C [1, 1, 0, 1, 0] = .loop (g13C [1, 1, 0, 1, 0, 0]) := by kernel_rfl
theorem g13n110100 : g13C [1, 1, 0, 1, 0, 0] = .seq (g13C [1, 1, 0, 1, 0, 0, 0]) (g13C [1, 1, 0, 1, 0, 0, 1]) := by kernel_rfl
theorem g13n1101001 : g13C [1, 1, 0, 1, 0, 0, 1] = .seq (g13C [1, 1, 0, 1, 0, 0, 1, 0]) (g13C [1, 1, 0, 1, 0, 0, 1, 1]) := by kernel_rfl
theorem g13n11010010 : g13C [1, 1, 0, 1, 0, 0, 1, 0] = .block 1 (g13C [1, 1, 0, 1, 0, 0, 1, 0, 0]) := by kernel_rfl
theorem g13n110100100 : g13C [1, 1, 0, 1, 0, 0, 1, 0, 0] = .seq (g13C [1, 1, 0, 1, 0, 0, 1, 0, 0, 0]) (g13C [1, 1, 0, 1, 0, 0, 1, 0, 0, 1]) := by kernel_rfl
theorem g13rg1101001000 : g13C [1, 1, 0, 1, 0, 0, 1, 0, 0, 0] = .region 6 (rops (g13C [1, 1, 0, 1, 0, 0, 1, 0, 0, 0])) false := by kernel_rfl
theorem g13rg1101001000l : List.range (rops (g13C [1, 1, 0, 1, 0, 0, 1, 0, 0, 0])).size = [0, 1, 2, 3, 4, 5, 6, 7, 8] ++ [9, 10, 11, 12, 13, 14, 15, 16, 17] := by kernel_rfl
theorem g13e11010 : g13X (g13C [1, 1, 0, 1, 0]) (g13k1) = fun env st => g13b11010 big (env 0) (env 3) st := by
  have key : ∀ n, aloop (g13X (g13C [1, 1, 0, 1, 0, 0])) (g13k1) n = fun env st => g13b11010 n (env 0) (env 3) st := by
    intro n
    induction n with
    | zero => rfl
    | succ n ih =>
      have h : aloop (g13X (g13C [1, 1, 0, 1, 0, 0])) (g13k1) (n + 1) = g13X (g13C [1, 1, 0, 1, 0, 0]) (kSeq (aloop (g13X (g13C [1, 1, 0, 1, 0, 0])) (g13k1) n) (g13k1)) := rfl
      rw [h, ih]
      refine Eq.trans (g13seq g13n110100 ((g13seq g13n1101001 rfl).trans ((g13blk g13n11010010).trans ((g13seq g13n110100100 rfl).trans (g13reg g13rg1101001000 g13rg1101001000l (g13e1101001000_9 (g13b11010 n))))))) ?_
      funext env st
      kernel_rfl
  exact (g13loop g13n11010).trans (key big)
noncomputable def g13b11 (x0 : V) (st : St) : Res :=
 g13b11010 big x0 (.int .i64 0) st
theorem g13n11 : g13C [1, 1] = .seq (g13C [1, 1, 0]) (g13C [1, 1, 1]) := by kernel_rfl
theorem g13n110 : g13C [1, 1, 0] = .seq (g13C [1, 1, 0, 0]) (g13C [1, 1, 0, 1]) := by kernel_rfl
theorem g13n1101 : g13C [1, 1, 0, 1] = .block 0 (g13C [1, 1, 0, 1, 0]) := by kernel_rfl
theorem g13e11 : g13X (g13C [1, 1]) (g13kr) = fun env st => g13b11 (env 0) st := by
  refine Eq.trans ((g13seq g13n11 rfl).trans (g13seq g13n110 ((g13blk g13n1101).trans (g13e11010)))) ?_
  funext env st
  kernel_rfl
noncomputable def f13 (x0 : V) (st : St) : Res :=
 A.nilc x0 fun a1 =>
 A.faddr 1 a1 fun a2 =>
 A.load false 1 a2 st fun a3 z4 =>
 A.lenL a3 fun a5 =>
 A.bin .gtr a5 (.int .i64 0) fun a6 =>
 A.guard a6 false
 (A.nilc x0 fun a7 =>
 A.faddr 2 a7 fun a8 =>
 A.load false 1 a8 z4 fun a9 z10 =>
 A.lenL a9 fun a11 =>
 A.bin .gtr a11 (.int .i64 0) fun a12 =>
 A.cond a12
 (some (.ret ((.bool false) : V).er1, z10))
 (g13b11 x0 z10))
 (some (.ret ((.bool false) : V).er1, z4))
theorem g13nr : g13C [] = .seq (g13C [0]) (g13C [1]) := by kernel_rfl
theorem g13n1 : g13C [1] = .seq (g13C [1, 0]) (g13C [1, 1]) := by kernel_rfl
theorem g13er (env : Env) (st : St) : g13X (g13C []) g13kr env st = f13 (env 0) st := by
  rw [(g13seq g13nr (g13seq g13n1 (g13e11)))]
  kernel_rfl
theorem s13_eq (x0 : V) (st : St) : s13 [x0] st = f13 x0 st := by
  have h : afn Try.prog g13mu g13T big (areg Try.prog g13mu g13T) 13 [x0] st = g13X (g13C []) g13kr (fun t => [x0].getD t (.tup [])) st := by kernel_rfl
  rw [s13, sealF_eq]
  exact h.trans (g13er _ st)
/-! sinew/sinewlaw14.awake -/
def g14mu : Nat → Bool := fun _ => false
noncomputable def g14T : Tbl := tget [(12, s12), (15, s15), (16, s16), (17, s17), (18, s18), (19, s19), (20, s20), (21, s21)]
theorem g14t : SimT Try.prog g14T := simT_cons sim12 ( simT_cons sim15 ( simT_cons sim16 ( simT_cons sim17 ( simT_cons sim18 ( simT_cons sim19 ( simT_cons sim20 ( simT_cons sim21 (simT_nil))))))))
noncomputable def s14 : Fn := sealF (afn Try.prog g14mu g14T big (areg Try.prog g14mu g14T) 14)
theorem sim14 : Sim Try.prog 14 s14 := (afn_sim g14t (fun m => areg_sound g14t hmix m) 14 (by kernel_rfl)).sealed
noncomputable def g14C (p : List Nat) : Code := sub (match Try.f14.body with | some c => c | none => .skip) p
noncomputable def g14X (c : Code) (K : Kon) : Env → St → Res := aexec Try.prog g14mu g14T big 84 (areg Try.prog g14mu g14T 84) c K
noncomputable def g14kr : Kon := aresK Try.prog Try.f14.results.toList
theorem g14reg {c : Code} {K : Kon} {G : Env → St → Res} {id : Nat} {ops : Array Oper} {l1 l2 : List Nat} (hc : c = .region id ops false) (hl : List.range ops.size = l1 ++ l2) (h : (fun env st => aops Try.prog g14mu g14T 84 ops l2 env st (K .normal)) = G) : g14X c K = fun env st => aops Try.prog g14mu g14T 84 ops l1 env st G := reg_cut hc hl h
theorem g14seq {c x y : Code} {K : Kon} {G : Env → St → Res} (hc : c = .seq x y) (hy : g14X y K = G) : g14X c K = g14X x (kSeq G K) := seq_cut hc hy
theorem g14blk {c x : Code} {K : Kon} {i : Nat} (hc : c = .block i x) : g14X c K = g14X x (kBlk i K) := blk_cut hc
theorem g14loop {c x : Code} {K : Kon} (hc : c = .loop x) : g14X c K = aloop (g14X x) K big := loop_cut hc
theorem g14cond {c x y : Code} {K : Kon} {v : Operand} {F G : Env → St → Res} (hc : c = .cond v x y) (hx : g14X x K = F) (hy : g14X y K = G) : g14X c K = condF v F G := cond_cut hc hx hy
noncomputable def g14k0 : Kon := kSeq (g14X (g14C [1, 1, 1, 1, 1, 1, 1]) (g14kr)) (g14kr)
noncomputable def g14b1111110_25 (x1 : V) (x79 : V) (st : St) : Res :=
 A.guard x79 true
 (A.ret (s12 [x1.er1] st) fun a1 z2 =>
 A.un .not a1 fun a3 =>
 some (.ret a3.er1, z2))
 (some (.ret ((.bool false) : V).er1, st))
theorem g14e1111110_25 : (fun env st => aops Try.prog g14mu g14T 84 (rops (g14C [1, 1, 1, 1, 1, 1, 0])) [25, 26, 27, 28, 29] env st ((g14k0) .normal)) = fun env st => g14b1111110_25 (env 1) (env 79) st := by
  refine Eq.trans (Eq.refl _) ?_
  funext env st
  kernel_rfl
noncomputable def g14b1111110_15 (x1 : V) (x69 : V) (st : St) : Res :=
 A.guard x69 true
 (A.ret (s18 [x1.er1] st) fun a1 z2 =>
 A.eql 2 false a1 (.int .i64 0) fun a3 =>
 A.guard a3 true
 (A.ret (s19 [x1.er1] z2) fun a4 z5 =>
 A.eql 2 false a4 (.int .i64 0) fun a6 =>
 g14b1111110_25 x1 a6 z5)
 (g14b1111110_25 x1 (.bool false) z2))
 (g14b1111110_25 x1 (.bool false) st)
theorem g14e1111110_15 : (fun env st => aops Try.prog g14mu g14T 84 (rops (g14C [1, 1, 1, 1, 1, 1, 0])) [15, 16, 17, 18, 19, 20, 21, 22, 23, 24, 25, 26, 27, 28, 29] env st ((g14k0) .normal)) = fun env st => g14b1111110_15 (env 1) (env 69) st := by
  refine Eq.trans (ops_cut (l1 := [15, 16, 17, 18, 19, 20, 21, 22, 23, 24]) (l2 := [25, 26, 27, 28, 29]) (g14e1111110_25)) ?_
  funext env st
  kernel_rfl
noncomputable def g14b1111110_7 (x1 : V) (x7 : V) (x8 : V) (x61 : V) (st : St) : Res :=
 A.guard x61 true
 (A.eql 2 false x7 (.int .i64 0) fun a1 =>
 A.guard a1 true
 (A.eql 2 false x8 (.int .i64 0) fun a2 =>
 g14b1111110_15 x1 a2 st)
 (g14b1111110_15 x1 (.bool false) st))
 (g14b1111110_15 x1 (.bool false) st)
theorem g14e1111110_7 : (fun env st => aops Try.prog g14mu g14T 84 (rops (g14C [1, 1, 1, 1, 1, 1, 0])) [7, 8, 9, 10, 11, 12, 13, 14, 15, 16, 17, 18, 19, 20, 21, 22, 23, 24, 25, 26, 27, 28, 29] env st ((g14k0) .normal)) = fun env st => g14b1111110_7 (env 1) (env 7) (env 8) (env 61) st := by
  refine Eq.trans (ops_cut (l1 := [7, 8, 9, 10, 11, 12, 13, 14]) (l2 := [15, 16, 17, 18, 19, 20, 21, 22, 23, 24, 25, 26, 27, 28, 29]) (g14e1111110_15)) ?_
  funext env st
  kernel_rfl
noncomputable def g14b11111 (x1 : V) (x3 : V) (x5 : V) (x6 : V) (st : St) : Res :=
 A.ret (s16 [x3.er1] st) fun a1 z2 =>
 A.ext a1 0 fun a3 =>
 A.ext a1 1 fun a4 =>
 A.eql 2 false x5 (.int .i64 (-1)) fun a5 =>
 A.guard a5 true
 (A.eql 2 false x6 (.int .i64 0) fun a6 =>
 g14b1111110_7 x1 a3 a4 a6 z2)
 (g14b1111110_7 x1 a3 a4 (.bool false) z2)
theorem g14n11111 : g14C [1, 1, 1, 1, 1] = .seq (g14C [1, 1, 1, 1, 1, 0]) (g14C [1, 1, 1, 1, 1, 1]) := by kernel_rfl
theorem g14n111111 : g14C [1, 1, 1, 1, 1, 1] = .seq (g14C [1, 1, 1, 1, 1, 1, 0]) (g14C [1, 1, 1, 1, 1, 1, 1]) := by kernel_rfl
theorem g14rg1111110 : g14C [1, 1, 1, 1, 1, 1, 0] = .region 7 (rops (g14C [1, 1, 1, 1, 1, 1, 0])) false := by kernel_rfl
theorem g14rg1111110l : List.range (rops (g14C [1, 1, 1, 1, 1, 1, 0])).size = [0, 1, 2, 3, 4, 5, 6] ++ [7, 8, 9, 10, 11, 12, 13, 14, 15, 16, 17, 18, 19, 20, 21, 22, 23, 24, 25, 26, 27, 28, 29] := by kernel_rfl
theorem g14e11111 : g14X (g14C [1, 1, 1, 1, 1]) (g14kr) = fun env st => g14b11111 (env 1) (env 3) (env 5) (env 6) st := by
  refine Eq.trans (g14seq g14n11111 ((g14seq g14n111111 rfl).trans (g14reg g14rg1111110 g14rg1111110l (g14e1111110_7)))) ?_
  funext env st
  kernel_rfl
noncomputable def g14b1111 (x1 : V) (x3 : V) (st : St) : Res :=
 A.ret (s15 [x3.er1, ((.int .i64 0) : V).er1] st) fun a1 z2 =>
 A.ext a1 0 fun a3 =>
 A.ext a1 1 fun a4 =>
 g14b11111 x1 x3 a3 a4 z2
theorem g14n1111 : g14C [1, 1, 1, 1] = .seq (g14C [1, 1, 1, 1, 0]) (g14C [1, 1, 1, 1, 1]) := by kernel_rfl
theorem g14e1111 : g14X (g14C [1, 1, 1, 1]) (g14kr) = fun env st => g14b1111 (env 1) (env 3) st := by
  refine Eq.trans (g14seq g14n1111 (g14e11111)) ?_
  funext env st
  kernel_rfl
noncomputable def g14k1 : Kon := kSeq (fun env st => g14b1111 (env 1) (env 3) st) (g14kr)
noncomputable def g14k2 : Kon := kSeq (g14X (g14C [1, 1, 1, 0, 1]) (g14k1)) (g14k1)
noncomputable def g14b11100_24 (x1 : V) (x3 : V) (x40 : V) (st : St) : Res :=
 A.guard x40 false
 (A.ret (s17 [x1.er1, ((.int .i64 1) : V).er1] st) fun a1 z2 =>
 A.eql 2 true a1 (.int .i64 0) fun a3 =>
 A.cond a3
 (some (.ret ((.bool false) : V).er1, z2))
 (g14b1111 x1 x3 z2))
 (some (.ret ((.bool false) : V).er1, st))
theorem g14e11100_24 : (fun env st => aops Try.prog g14mu g14T 84 (rops (g14C [1, 1, 1, 0, 0])) [24, 25, 26, 27] env st ((g14k2) .normal)) = fun env st => g14b11100_24 (env 1) (env 3) (env 40) st := by
  refine Eq.trans (Eq.refl _) ?_
  funext env st
  kernel_rfl
noncomputable def g14b11100_15 (x1 : V) (x3 : V) (x31 : V) (st : St) : Res :=
 A.guard x31 false
 (A.ret (s20 [x1.er1] st) fun a1 z2 =>
 A.un .not a1 fun a3 =>
 A.guard a3 false
 (A.ret (s20 [x3.er1] z2) fun a4 z5 =>
 g14b11100_24 x1 x3 a4 z5)
 (g14b11100_24 x1 x3 (.bool true) z2))
 (g14b11100_24 x1 x3 (.bool true) st)
theorem g14e11100_15 : (fun env st => aops Try.prog g14mu g14T 84 (rops (g14C [1, 1, 1, 0, 0])) [15, 16, 17, 18, 19, 20, 21, 22, 23, 24, 25, 26, 27] env st ((g14k2) .normal)) = fun env st => g14b11100_15 (env 1) (env 3) (env 31) st := by
  refine Eq.trans (ops_cut (l1 := [15, 16, 17, 18, 19, 20, 21, 22, 23]) (l2 := [24, 25, 26, 27]) (g14e11100_24)) ?_
  funext env st
  kernel_rfl
noncomputable def g14b11100_7 (x1 : V) (x3 : V) (x23 : V) (st : St) : Res :=
 A.guard x23 false
 (A.eql 4 false x1 .ptr0 fun a1 =>
 A.guard a1 false
 (A.eql 4 false x3 .ptr0 fun a2 =>
 g14b11100_15 x1 x3 a2 st)
 (g14b11100_15 x1 x3 (.bool true) st))
 (g14b11100_15 x1 x3 (.bool true) st)
theorem g14e11100_7 : (fun env st => aops Try.prog g14mu g14T 84 (rops (g14C [1, 1, 1, 0, 0])) [7, 8, 9, 10, 11, 12, 13, 14, 15, 16, 17, 18, 19, 20, 21, 22, 23, 24, 25, 26, 27] env st ((g14k2) .normal)) = fun env st => g14b11100_7 (env 1) (env 3) (env 23) st := by
  refine Eq.trans (ops_cut (l1 := [7, 8, 9, 10, 11, 12, 13, 14]) (l2 := [15, 16, 17, 18, 19, 20, 21, 22, 23, 24, 25, 26, 27]) (g14e11100_15)) ?_
  funext env st
  kernel_rfl
noncomputable def g14b111 (x1 : V) (x2 : V) (x3 : V) (x4 : V) (st : St) : Res :=
 A.eql 2 true x2 (.int .i64 0) fun a1 =>
 A.guard a1 false
 (A.eql 2 true x4 (.int .i64 0) fun a2 =>
 g14b11100_7 x1 x3 a2 st)
 (g14b11100_7 x1 x3 (.bool true) st)
theorem g14n111 : g14C [1, 1, 1] = .seq (g14C [1, 1, 1, 0]) (g14C [1, 1, 1, 1]) := by kernel_rfl
theorem g14n1110 : g14C [1, 1, 1, 0] = .seq (g14C [1, 1, 1, 0, 0]) (g14C [1, 1, 1, 0, 1]) := by kernel_rfl
theorem g14rg11100 : g14C [1, 1, 1, 0, 0] = .region 3 (rops (g14C [1, 1, 1, 0, 0])) false := by kernel_rfl
theorem g14rg11100l : List.range (rops (g14C [1, 1, 1, 0, 0])).size = [0, 1, 2, 3, 4, 5, 6] ++ [7, 8, 9, 10, 11, 12, 13, 14, 15, 16, 17, 18, 19, 20, 21, 22, 23, 24, 25, 26, 27] := by kernel_rfl
theorem g14e111 : g14X (g14C [1, 1, 1]) (g14kr) = fun env st => g14b111 (env 1) (env 2) (env 3) (env 4) st := by
  refine Eq.trans ((g14seq g14n111 (g14e1111)).trans ((g14seq g14n1110 rfl).trans (g14reg g14rg11100 g14rg11100l (g14e11100_7)))) ?_
  funext env st
  kernel_rfl
noncomputable def f14 (st : St) : Res :=
 A.ret (s21 [((.int .i64 0) : V).er1, ((.int .i64 2) : V).er1, ((.bool true) : V).er1] st) fun a1 z2 =>
 A.ext a1 0 fun a3 =>
 A.ext a1 1 fun a4 =>
 A.ret (s21 [((.int .i64 1) : V).er1, ((.int .i64 2) : V).er1, ((.bool false) : V).er1] z2) fun a5 z6 =>
 A.ext a5 0 fun a7 =>
 A.ext a5 1 fun a8 =>
 g14b111 a3 a4 a7 a8 z6
theorem g14nr : g14C [] = .seq (g14C [0]) (g14C [1]) := by kernel_rfl
theorem g14n1 : g14C [1] = .seq (g14C [1, 0]) (g14C [1, 1]) := by kernel_rfl
theorem g14n11 : g14C [1, 1] = .seq (g14C [1, 1, 0]) (g14C [1, 1, 1]) := by kernel_rfl
theorem g14er (env : Env) (st : St) : g14X (g14C []) g14kr env st = f14 st := by
  rw [(g14seq g14nr (g14seq g14n1 (g14seq g14n11 (g14e111))))]
  kernel_rfl
theorem s14_eq (st : St) : s14 [] st = f14 st := by
  have h : afn Try.prog g14mu g14T big (areg Try.prog g14mu g14T) 14 [] st = g14X (g14C []) g14kr (fun t => [].getD t (.tup [])) st := by kernel_rfl
  rw [s14, sealF_eq]
  exact h.trans (g14er _ st)
/-! sinew/sinewlaw14.begun -/
def g7mu : Nat → Bool := fun i => Nat.beq i 50
noncomputable def g7T : Tbl := tget [(21, s21)]
theorem g7t : SimT Try.prog g7T := simT_cons sim21 (simT_nil)
noncomputable def s7 : Fn := sealF (afn Try.prog g7mu g7T big (areg Try.prog g7mu g7T) 7)
theorem sim7 : Sim Try.prog 7 s7 := (afn_sim g7t (fun m => areg_sound g7t hmix m) 7 (by kernel_rfl)).sealed
noncomputable def g7C (p : List Nat) : Code := sub (match Try.f7.body with | some c => c | none => .skip) p
noncomputable def g7X (c : Code) (K : Kon) : Env → St → Res := aexec Try.prog g7mu g7T big 60 (areg Try.prog g7mu g7T 60) c K
noncomputable def g7kr : Kon := aresK Try.prog Try.f7.results.toList
theorem g7reg {c : Code} {K : Kon} {G : Env → St → Res} {id : Nat} {ops : Array Oper} {l1 l2 : List Nat} (hc : c = .region id ops false) (hl : List.range ops.size = l1 ++ l2) (h : (fun env st => aops Try.prog g7mu g7T 60 ops l2 env st (K .normal)) = G) : g7X c K = fun env st => aops Try.prog g7mu g7T 60 ops l1 env st G := reg_cut hc hl h
theorem g7seq {c x y : Code} {K : Kon} {G : Env → St → Res} (hc : c = .seq x y) (hy : g7X y K = G) : g7X c K = g7X x (kSeq G K) := seq_cut hc hy
theorem g7blk {c x : Code} {K : Kon} {i : Nat} (hc : c = .block i x) : g7X c K = g7X x (kBlk i K) := blk_cut hc
theorem g7loop {c x : Code} {K : Kon} (hc : c = .loop x) : g7X c K = aloop (g7X x) K big := loop_cut hc
theorem g7cond {c x y : Code} {K : Kon} {v : Operand} {F G : Env → St → Res} (hc : c = .cond v x y) (hx : g7X x K = F) (hy : g7X y K = G) : g7X c K = condF v F G := cond_cut hc hx hy
noncomputable def g7k0 : Kon := kSeq (g7X (g7C [1, 1, 1]) (g7kr)) (g7kr)
noncomputable def g7k1 : Kon := kBlk 0 (g7k0)
noncomputable def g7k2 (L11010 : V → V → V → V → St → Res) : Kon := kSeq (fun env st => L11010 (env 0) (env 1) (env 5) (env 6) st) (g7k1)
noncomputable def g7k3 (L11010 : V → V → V → V → St → Res) : Kon := kSeq (g7X (g7C [1, 1, 0, 1, 0, 0, 1, 1]) (g7k2 L11010)) (g7k2 L11010)
noncomputable def g7k4 (L11010 : V → V → V → V → St → Res) : Kon := kBlk 1 (g7k3 L11010)
noncomputable def g7b110100100111 (L11010 : V → V → V → V → St → Res) (x0 : V) (x1 : V) (x5 : V) (x6 : V) (st : St) : Res :=
 A.nilc x5 fun a1 =>
 A.faddr 3 a1 fun a2 =>
 A.load false 1 a2 st fun a3 z4 =>
 A.bslice 1 (.int .i64 0) 1 [(0, (.int .i64 0))] fun a5 =>
 A.appM 1 a3 (elemsOf 5 1 a5 z4) z4 fun a6 z7 =>
 A.nilc x5 fun a8 =>
 A.faddr 3 a8 fun a9 =>
 A.store 1 a9 a6 z7 fun z10 =>
 A.bin .add x6 (.int .i64 1) fun a11 =>
 L11010 x0 x1 x5 a11 z10
theorem g7e110100100111 (L11010 : V → V → V → V → St → Res) : g7X (g7C [1, 1, 0, 1, 0, 0, 1, 0, 0, 1, 1, 1]) (g7k4 L11010) = fun env st => g7b110100100111 L11010 (env 0) (env 1) (env 5) (env 6) st := by
  refine Eq.trans (Eq.refl (g7X (g7C [1, 1, 0, 1, 0, 0, 1, 0, 0, 1, 1, 1]) (g7k4 L11010))) ?_
  funext env st
  kernel_rfl
noncomputable def g7b11010010011 (L11010 : V → V → V → V → St → Res) (x0 : V) (x1 : V) (x5 : V) (x6 : V) (x7 : V) (st : St) : Res :=
 A.nilc x5 fun a1 =>
 A.faddr 0 a1 fun a2 =>
 A.load false 1 a2 st fun a3 z4 =>
 A.bslice 1 .ptr0 1 [(0, x7)] fun a5 =>
 A.app 1 a3 (elemsOf 5 1 a5 z4) z4 fun a6 z7 =>
 A.nilc x5 fun a8 =>
 A.faddr 0 a8 fun a9 =>
 A.store 1 a9 a6 z7 fun z10 =>
 g7b110100100111 L11010 x0 x1 x5 x6 z10
theorem g7n11010010011 : g7C [1, 1, 0, 1, 0, 0, 1, 0, 0, 1, 1] = .seq (g7C [1, 1, 0, 1, 0, 0, 1, 0, 0, 1, 1, 0]) (g7C [1, 1, 0, 1, 0, 0, 1, 0, 0, 1, 1, 1]) := by kernel_rfl
theorem g7e11010010011 (L11010 : V → V → V → V → St → Res) : g7X (g7C [1, 1, 0, 1, 0, 0, 1, 0, 0, 1, 1]) (g7k4 L11010) = fun env st => g7b11010010011 L11010 (env 0) (env 1) (env 5) (env 6) (env 7) st := by
  refine Eq.trans (g7seq g7n11010010011 (g7e110100100111 L11010)) ?_
  funext env st
  kernel_rfl
noncomputable def g7k5 (L11010 : V → V → V → V → St → Res) : Kon := kSeq (fun env st => g7b11010010011 L11010 (env 0) (env 1) (env 5) (env 6) (env 7) st) (g7k4 L11010)
noncomputable def g7b110100100101 (L11010 : V → V → V → V → St → Res) (x0 : V) (x1 : V) (x5 : V) (x6 : V) (x7 : V) (x29 : V) (st : St) : Res :=
 A.cond x29
 (A.nilc x5 fun a1 =>
 A.faddr 4 a1 fun a2 =>
 A.store 1 a2 (.bool false) st fun z3 =>
 some (.ret x5.er1, z3))
 (g7b11010010011 L11010 x0 x1 x5 x6 x7 st)
theorem g7e110100100101 (L11010 : V → V → V → V → St → Res) : g7X (g7C [1, 1, 0, 1, 0, 0, 1, 0, 0, 1, 0, 1]) (g7k5 L11010) = fun env st => g7b110100100101 L11010 (env 0) (env 1) (env 5) (env 6) (env 7) (env 29) st := by
  refine Eq.trans (Eq.refl (g7X (g7C [1, 1, 0, 1, 0, 0, 1, 0, 0, 1, 0, 1]) (g7k5 L11010))) ?_
  funext env st
  kernel_rfl
noncomputable def g7b1101001001 (L11010 : V → V → V → V → St → Res) (x0 : V) (x1 : V) (x5 : V) (x6 : V) (x7 : V) (x8 : V) (st : St) : Res :=
 A.eql 2 true x8 (.int .i64 0) fun a1 =>
 A.guard a1 false
 (A.eql 4 false x7 .ptr0 fun a2 =>
 g7b110100100101 L11010 x0 x1 x5 x6 x7 a2 st)
 (g7b110100100101 L11010 x0 x1 x5 x6 x7 (.bool true) st)
theorem g7n1101001001 : g7C [1, 1, 0, 1, 0, 0, 1, 0, 0, 1] = .seq (g7C [1, 1, 0, 1, 0, 0, 1, 0, 0, 1, 0]) (g7C [1, 1, 0, 1, 0, 0, 1, 0, 0, 1, 1]) := by kernel_rfl
theorem g7n11010010010 : g7C [1, 1, 0, 1, 0, 0, 1, 0, 0, 1, 0] = .seq (g7C [1, 1, 0, 1, 0, 0, 1, 0, 0, 1, 0, 0]) (g7C [1, 1, 0, 1, 0, 0, 1, 0, 0, 1, 0, 1]) := by kernel_rfl
theorem g7e1101001001 (L11010 : V → V → V → V → St → Res) : g7X (g7C [1, 1, 0, 1, 0, 0, 1, 0, 0, 1]) (g7k4 L11010) = fun env st => g7b1101001001 L11010 (env 0) (env 1) (env 5) (env 6) (env 7) (env 8) st := by
  refine Eq.trans ((g7seq g7n1101001001 (g7e11010010011 L11010)).trans (g7seq g7n11010010010 (g7e110100100101 L11010))) ?_
  funext env st
  kernel_rfl
noncomputable def g7b11010 : Nat → V → V → V → V → St → Res
| 0, _, _, _, _, _ => none
| n + 1, x0, x1, x5, x6, st =>
 A.bin .lss x6 x0 fun a1 =>
 A.cond a1
 (A.eql 2 false x6 (.int .i64 0) fun a2 =>
 A.ret (s21 [x6.er1, x0.er1, a2.er1] st) fun a3 z4 =>
 A.ext a3 0 fun a5 =>
 A.ext a3 1 fun a6 =>
 g7b1101001001 (g7b11010 n) x0 x1 x5 x6 a5 a6 z4)
 (A.nilc x5 fun a7 =>
 A.faddr 3 a7 fun a8 =>
 A.load false 1 a8 st fun a9 z10 =>
 A.iaddr 1 a9 (.int .i64 0) fun a11 =>
 A.store 1 a11 x1 z10 fun z12 =>
 some (.ret x5.er1, z12))
theorem g7n11010 : g7C [1, 1, 0, 1, 0] = .loop (g7C [1, 1, 0, 1, 0, 0]) := by kernel_rfl
theorem g7n110100 : g7C [1, 1, 0, 1, 0, 0] = .seq (g7C [1, 1, 0, 1, 0, 0, 0]) (g7C [1, 1, 0, 1, 0, 0, 1]) := by kernel_rfl
theorem g7n1101001 : g7C [1, 1, 0, 1, 0, 0, 1] = .seq (g7C [1, 1, 0, 1, 0, 0, 1, 0]) (g7C [1, 1, 0, 1, 0, 0, 1, 1]) := by kernel_rfl
theorem g7n11010010 : g7C [1, 1, 0, 1, 0, 0, 1, 0] = .block 1 (g7C [1, 1, 0, 1, 0, 0, 1, 0, 0]) := by kernel_rfl
theorem g7n110100100 : g7C [1, 1, 0, 1, 0, 0, 1, 0, 0] = .seq (g7C [1, 1, 0, 1, 0, 0, 1, 0, 0, 0]) (g7C [1, 1, 0, 1, 0, 0, 1, 0, 0, 1]) := by kernel_rfl
theorem g7e11010 : g7X (g7C [1, 1, 0, 1, 0]) (g7k1) = fun env st => g7b11010 big (env 0) (env 1) (env 5) (env 6) st := by
  have key : ∀ n, aloop (g7X (g7C [1, 1, 0, 1, 0, 0])) (g7k1) n = fun env st => g7b11010 n (env 0) (env 1) (env 5) (env 6) st := by
    intro n
    induction n with
    | zero => rfl
    | succ n ih =>
      have h : aloop (g7X (g7C [1, 1, 0, 1, 0, 0])) (g7k1) (n + 1) = g7X (g7C [1, 1, 0, 1, 0, 0]) (kSeq (aloop (g7X (g7C [1, 1, 0, 1, 0, 0])) (g7k1) n) (g7k1)) := rfl
      rw [h, ih]
      refine Eq.trans (g7seq g7n110100 ((g7seq g7n1101001 rfl).trans ((g7blk g7n11010010).trans (g7seq g7n110100100 (g7e1101001001 (g7b11010 n)))))) ?_
      funext env st
      kernel_rfl
  exact (g7loop g7n11010).trans (key big)
noncomputable def f7 (x0 : V) (x1 : V) (st : St) : Res :=
 A.build [(.lst [] 1), (.lst [] 1), (.lst [] 1), (.lst [] 1), (.bool false)] [(4, 1, (.bool true))] fun a1 =>
 A.box a1 st fun a2 z3 =>
 g7b11010 big x0 x1 a2 (.int .i64 0) z3
theorem g7nr : g7C [] = .seq (g7C [0]) (g7C [1]) := by kernel_rfl
theorem g7n1 : g7C [1] = .seq (g7C [1, 0]) (g7C [1, 1]) := by kernel_rfl
theorem g7n11 : g7C [1, 1] = .seq (g7C [1, 1, 0]) (g7C [1, 1, 1]) := by kernel_rfl
theorem g7n110 : g7C [1, 1, 0] = .seq (g7C [1, 1, 0, 0]) (g7C [1, 1, 0, 1]) := by kernel_rfl
theorem g7n1101 : g7C [1, 1, 0, 1] = .block 0 (g7C [1, 1, 0, 1, 0]) := by kernel_rfl
theorem g7er (env : Env) (st : St) : g7X (g7C []) g7kr env st = f7 (env 0) (env 1) st := by
  rw [(g7seq g7nr (g7seq g7n1 ((g7seq g7n11 rfl).trans (g7seq g7n110 ((g7blk g7n1101).trans (g7e11010))))))]
  kernel_rfl
theorem s7_eq (x0 : V) (x1 : V) (st : St) : s7 [x0, x1] st = f7 x0 x1 st := by
  have h : afn Try.prog g7mu g7T big (areg Try.prog g7mu g7T) 7 [x0, x1] st = g7X (g7C []) g7kr (fun t => [x0, x1].getD t (.tup [])) st := by kernel_rfl
  rw [s7, sealF_eq]
  exact h.trans (g7er _ st)
/-! sinew/sinewlaw14.QuietOwes -/
def g6mu : Nat → Bool := fun _ => false
noncomputable def g6T : Tbl := tget [(7, s7), (8, s8), (9, s9), (10, s10), (11, s11), (14, s14), (19, s19), (20, s20)]
theorem g6t : SimT Try.prog g6T := simT_cons sim7 ( simT_cons sim8 ( simT_cons sim9 ( simT_cons sim10 ( simT_cons sim11 ( simT_cons sim14 ( simT_cons sim19 ( simT_cons sim20 (simT_nil))))))))
noncomputable def s6 : Fn := sealF (afn Try.prog g6mu g6T big (areg Try.prog g6mu g6T) 6)
theorem sim6 : Sim Try.prog 6 s6 := (afn_sim g6t (fun m => areg_sound g6t hmix m) 6 (by kernel_rfl)).sealed
noncomputable def g6C (p : List Nat) : Code := sub (match Try.f6.body with | some c => c | none => .skip) p
noncomputable def g6X (c : Code) (K : Kon) : Env → St → Res := aexec Try.prog g6mu g6T big 125 (areg Try.prog g6mu g6T 125) c K
noncomputable def g6kr : Kon := aresK Try.prog Try.f6.results.toList
theorem g6reg {c : Code} {K : Kon} {G : Env → St → Res} {id : Nat} {ops : Array Oper} {l1 l2 : List Nat} (hc : c = .region id ops false) (hl : List.range ops.size = l1 ++ l2) (h : (fun env st => aops Try.prog g6mu g6T 125 ops l2 env st (K .normal)) = G) : g6X c K = fun env st => aops Try.prog g6mu g6T 125 ops l1 env st G := reg_cut hc hl h
theorem g6seq {c x y : Code} {K : Kon} {G : Env → St → Res} (hc : c = .seq x y) (hy : g6X y K = G) : g6X c K = g6X x (kSeq G K) := seq_cut hc hy
theorem g6blk {c x : Code} {K : Kon} {i : Nat} (hc : c = .block i x) : g6X c K = g6X x (kBlk i K) := blk_cut hc
theorem g6loop {c x : Code} {K : Kon} (hc : c = .loop x) : g6X c K = aloop (g6X x) K big := loop_cut hc
theorem g6cond {c x y : Code} {K : Kon} {v : Operand} {F G : Env → St → Res} (hc : c = .cond v x y) (hx : g6X x K = F) (hy : g6X y K = G) : g6X c K = condF v F G := cond_cut hc hx hy
noncomputable def g6k0 : Kon := kSeq (g6X (g6C [1, 1, 1, 1]) (g6kr)) (g6kr)
noncomputable def g6k1 : Kon := kBlk 0 (g6k0)
noncomputable def g6k2 (L111010 : V → V → V → V → St → Res) : Kon := kSeq (fun env st => L111010 (env 1) (env 5) (env 6) (env 7) st) (g6k1)
noncomputable def g6k3 (L111010 : V → V → V → V → St → Res) : Kon := kSeq (g6X (g6C [1, 1, 1, 0, 1, 0, 0, 1, 1]) (g6k2 L111010)) (g6k2 L111010)
noncomputable def g6k4 (L111010 : V → V → V → V → St → Res) : Kon := kBlk 1 (g6k3 L111010)
noncomputable def g6k5 (L111010 : V → V → V → V → St → Res) : Kon := kSeq (g6X (g6C [1, 1, 1, 0, 1, 0, 0, 1, 0, 0, 1, 1, 1, 1]) (g6k4 L111010)) (g6k4 L111010)
noncomputable def g6k6 (L111010 : V → V → V → V → St → Res) : Kon := kBlk 3 (g6k5 L111010)
noncomputable def g6k7 (L111010 : V → V → V → V → St → Res) (L1110100100111010 : V → V → V → V → V → V → V → St → Res) : Kon := kSeq (fun env st => L1110100100111010 (env 1) (env 5) (env 6) (env 7) (env 9) (env 10) (env 11) st) (g6k6 L111010)
noncomputable def g6k8 (L111010 : V → V → V → V → St → Res) (L1110100100111010 : V → V → V → V → V → V → V → St → Res) : Kon := kSeq (g6X (g6C [1, 1, 1, 0, 1, 0, 0, 1, 0, 0, 1, 1, 1, 0, 1, 0, 0, 1, 1]) (g6k7 L111010 L1110100100111010)) (g6k7 L111010 L1110100100111010)
noncomputable def g6k9 (L111010 : V → V → V → V → St → Res) (L1110100100111010 : V → V → V → V → V → V → V → St → Res) : Kon := kBlk 4 (g6k8 L111010 L1110100100111010)
noncomputable def g6b111010010011101001001 (L111010 : V → V → V → V → St → Res) (L1110100100111010 : V → V → V → V → V → V → V → St → Res) (x1 : V) (x5 : V) (x6 : V) (x7 : V) (x9 : V) (x10 : V) (x11 : V) (st : St) : Res :=
 A.bin .gtr x11 (.int .i64 0) fun a1 =>
 A.guard a1 true
 (A.nilc x6 fun a2 =>
 A.faddr 0 a2 fun a3 =>
 A.load false 1 a3 st fun a4 z5 =>
 A.iaddr 1 a4 x11 fun a6 =>
 A.load false 1 a6 z5 fun a7 z8 =>
 A.ret (s20 [a7.er1] z8) fun a9 z10 =>
 A.cond a9
 (A.bin .add x10 (.int .i64 1) fun a11 =>
 A.bin .add x11 (.int .i64 1) fun a12 =>
 L1110100100111010 x1 x5 x6 x7 x9 a11 a12 z10)
 (A.bin .add x11 (.int .i64 1) fun a13 =>
 L1110100100111010 x1 x5 x6 x7 x9 x10 a13 z10))
 (A.bin .add x11 (.int .i64 1) fun a14 =>
 L1110100100111010 x1 x5 x6 x7 x9 x10 a14 st)
theorem g6e111010010011101001001 (L111010 : V → V → V → V → St → Res) (L1110100100111010 : V → V → V → V → V → V → V → St → Res) : g6X (g6C [1, 1, 1, 0, 1, 0, 0, 1, 0, 0, 1, 1, 1, 0, 1, 0, 0, 1, 0, 0, 1]) (g6k9 L111010 L1110100100111010) = fun env st => g6b111010010011101001001 L111010 L1110100100111010 (env 1) (env 5) (env 6) (env 7) (env 9) (env 10) (env 11) st := by
  refine Eq.trans (Eq.refl (g6X (g6C [1, 1, 1, 0, 1, 0, 0, 1, 0, 0, 1, 1, 1, 0, 1, 0, 0, 1, 0, 0, 1]) (g6k9 L111010 L1110100100111010))) ?_
  funext env st
  kernel_rfl
noncomputable def g6b1110100100111010 (L111010 : V → V → V → V → St → Res) : Nat → V → V → V → V → V → V → V → St → Res
| 0, _, _, _, _, _, _, _, _ => none
| n + 1, x1, x5, x6, x7, x9, x10, x11, st =>
 A.bin .lss x11 x5 fun a1 =>
 A.cond a1
 (A.nilc x6 fun a2 =>
 A.faddr 0 a2 fun a3 =>
 A.load false 1 a3 st fun a4 z5 =>
 A.iaddr 1 a4 x11 fun a6 =>
 A.load false 1 a6 z5 fun a7 z8 =>
 A.ret (s19 [a7.er1] z8) fun a9 z10 =>
 A.bin .add x9 a9 fun a11 =>
 g6b111010010011101001001 L111010 (g6b1110100100111010 L111010 n) x1 x5 x6 x7 a11 x10 x11 z10)
 (A.nilc x6 fun a12 =>
 A.faddr 1 a12 fun a13 =>
 A.load false 1 a13 st fun a14 _ =>
 A.lenL a14 fun a15 =>
 A.nilc x6 fun a16 =>
 A.faddr 2 a16 fun a17 =>
 A.load false 1 a17 st fun a18 _ =>
 A.lenL a18 fun a19 =>
 A.bin .add a15 a19 fun a20 =>
 A.bin .add a20 x10 fun a21 =>
 A.eql 2 true x9 a21 fun a22 =>
 A.cond a22
 (some (.ret ((.bool false) : V).er1, st))
 (A.bin .add x7 (.int .i64 1) fun a23 =>
 L111010 x1 x5 x6 a23 st))
theorem g6n1110100100111010 : g6C [1, 1, 1, 0, 1, 0, 0, 1, 0, 0, 1, 1, 1, 0, 1, 0] = .loop (g6C [1, 1, 1, 0, 1, 0, 0, 1, 0, 0, 1, 1, 1, 0, 1, 0, 0]) := by kernel_rfl
theorem g6n11101001001110100 : g6C [1, 1, 1, 0, 1, 0, 0, 1, 0, 0, 1, 1, 1, 0, 1, 0, 0] = .seq (g6C [1, 1, 1, 0, 1, 0, 0, 1, 0, 0, 1, 1, 1, 0, 1, 0, 0, 0]) (g6C [1, 1, 1, 0, 1, 0, 0, 1, 0, 0, 1, 1, 1, 0, 1, 0, 0, 1]) := by kernel_rfl
theorem g6n111010010011101001 : g6C [1, 1, 1, 0, 1, 0, 0, 1, 0, 0, 1, 1, 1, 0, 1, 0, 0, 1] = .seq (g6C [1, 1, 1, 0, 1, 0, 0, 1, 0, 0, 1, 1, 1, 0, 1, 0, 0, 1, 0]) (g6C [1, 1, 1, 0, 1, 0, 0, 1, 0, 0, 1, 1, 1, 0, 1, 0, 0, 1, 1]) := by kernel_rfl
theorem g6n1110100100111010010 : g6C [1, 1, 1, 0, 1, 0, 0, 1, 0, 0, 1, 1, 1, 0, 1, 0, 0, 1, 0] = .block 4 (g6C [1, 1, 1, 0, 1, 0, 0, 1, 0, 0, 1, 1, 1, 0, 1, 0, 0, 1, 0, 0]) := by kernel_rfl
theorem g6n11101001001110100100 : g6C [1, 1, 1, 0, 1, 0, 0, 1, 0, 0, 1, 1, 1, 0, 1, 0, 0, 1, 0, 0] = .seq (g6C [1, 1, 1, 0, 1, 0, 0, 1, 0, 0, 1, 1, 1, 0, 1, 0, 0, 1, 0, 0, 0]) (g6C [1, 1, 1, 0, 1, 0, 0, 1, 0, 0, 1, 1, 1, 0, 1, 0, 0, 1, 0, 0, 1]) := by kernel_rfl
theorem g6e1110100100111010 (L111010 : V → V → V → V → St → Res) : g6X (g6C [1, 1, 1, 0, 1, 0, 0, 1, 0, 0, 1, 1, 1, 0, 1, 0]) (g6k6 L111010) = fun env st => g6b1110100100111010 L111010 big (env 1) (env 5) (env 6) (env 7) (env 9) (env 10) (env 11) st := by
  have key : ∀ n, aloop (g6X (g6C [1, 1, 1, 0, 1, 0, 0, 1, 0, 0, 1, 1, 1, 0, 1, 0, 0])) (g6k6 L111010) n = fun env st => g6b1110100100111010 L111010 n (env 1) (env 5) (env 6) (env 7) (env 9) (env 10) (env 11) st := by
    intro n
    induction n with
    | zero => rfl
    | succ n ih =>
      have h : aloop (g6X (g6C [1, 1, 1, 0, 1, 0, 0, 1, 0, 0, 1, 1, 1, 0, 1, 0, 0])) (g6k6 L111010) (n + 1) = g6X (g6C [1, 1, 1, 0, 1, 0, 0, 1, 0, 0, 1, 1, 1, 0, 1, 0, 0]) (kSeq (aloop (g6X (g6C [1, 1, 1, 0, 1, 0, 0, 1, 0, 0, 1, 1, 1, 0, 1, 0, 0])) (g6k6 L111010) n) (g6k6 L111010)) := rfl
      rw [h, ih]
      refine Eq.trans (g6seq g6n11101001001110100 ((g6seq g6n111010010011101001 rfl).trans ((g6blk g6n1110100100111010010).trans (g6seq g6n11101001001110100100 (g6e111010010011101001001 L111010 (g6b1110100100111010 L111010 n)))))) ?_
      funext env st
      kernel_rfl
  exact (g6loop g6n1110100100111010).trans (key big)
noncomputable def g6b111010010011 (L111010 : V → V → V → V → St → Res) (x1 : V) (x5 : V) (x6 : V) (x7 : V) (st : St) : Res :=
 g6b1110100100111010 L111010 big x1 x5 x6 x7 (.int .i64 0) (.int .i64 0) (.int .i64 0) st
theorem g6n111010010011 : g6C [1, 1, 1, 0, 1, 0, 0, 1, 0, 0, 1, 1] = .seq (g6C [1, 1, 1, 0, 1, 0, 0, 1, 0, 0, 1, 1, 0]) (g6C [1, 1, 1, 0, 1, 0, 0, 1, 0, 0, 1, 1, 1]) := by kernel_rfl
theorem g6n1110100100111 : g6C [1, 1, 1, 0, 1, 0, 0, 1, 0, 0, 1, 1, 1] = .seq (g6C [1, 1, 1, 0, 1, 0, 0, 1, 0, 0, 1, 1, 1, 0]) (g6C [1, 1, 1, 0, 1, 0, 0, 1, 0, 0, 1, 1, 1, 1]) := by kernel_rfl
theorem g6n11101001001110 : g6C [1, 1, 1, 0, 1, 0, 0, 1, 0, 0, 1, 1, 1, 0] = .seq (g6C [1, 1, 1, 0, 1, 0, 0, 1, 0, 0, 1, 1, 1, 0, 0]) (g6C [1, 1, 1, 0, 1, 0, 0, 1, 0, 0, 1, 1, 1, 0, 1]) := by kernel_rfl
theorem g6n111010010011101 : g6C [1, 1, 1, 0, 1, 0, 0, 1, 0, 0, 1, 1, 1, 0, 1] = .block 3 (g6C [1, 1, 1, 0, 1, 0, 0, 1, 0, 0, 1, 1, 1, 0, 1, 0]) := by kernel_rfl
theorem g6e111010010011 (L111010 : V → V → V → V → St → Res) : g6X (g6C [1, 1, 1, 0, 1, 0, 0, 1, 0, 0, 1, 1]) (g6k4 L111010) = fun env st => g6b111010010011 L111010 (env 1) (env 5) (env 6) (env 7) st := by
  refine Eq.trans (g6seq g6n111010010011 ((g6seq g6n1110100100111 rfl).trans (g6seq g6n11101001001110 ((g6blk g6n111010010011101).trans (g6e1110100100111010 L111010))))) ?_
  funext env st
  kernel_rfl
noncomputable def g6k10 (L111010 : V → V → V → V → St → Res) : Kon := kSeq (fun env st => g6b111010010011 L111010 (env 1) (env 5) (env 6) (env 7) st) (g6k4 L111010)
noncomputable def g6k11 (L111010 : V → V → V → V → St → Res) : Kon := kBlk 2 (g6k10 L111010)
noncomputable def g6b11101001001010111 (L111010 : V → V → V → V → St → Res) (x1 : V) (x5 : V) (x6 : V) (x7 : V) (x8 : V) (x40 : V) (x59 : V) (st : St) : Res :=
 A.cond x59
 (A.bin .shr x8 (.int .u64 2) fun a1 =>
 A.bin .shr x8 (.int .u64 10) fun a2 =>
 A.bin .and a2 (.int .i64 3) fun a3 =>
 A.ret (s9 [x6.er1, a1.er1, a3.er1] st) fun a4 z5 =>
 g6b111010010011 L111010 x1 x5 x6 x7 z5)
 (A.eql 2 false x40 (.int .i64 2) fun a6 =>
 A.cond a6
 (A.bin .shr x8 (.int .u64 2) fun a7 =>
 A.ret (s10 [x6.er1, a7.er1] st) fun a8 z9 =>
 g6b111010010011 L111010 x1 x5 x6 x7 z9)
 (A.bin .shr x8 (.int .u64 2) fun a10 =>
 A.bin .rem a10 x5 fun a11 =>
 A.ret (s11 [x6.er1, a11.er1] st) fun a12 z13 =>
 g6b111010010011 L111010 x1 x5 x6 x7 z13))
theorem g6e11101001001010111 (L111010 : V → V → V → V → St → Res) : g6X (g6C [1, 1, 1, 0, 1, 0, 0, 1, 0, 0, 1, 0, 1, 0, 1, 1, 1]) (g6k11 L111010) = fun env st => g6b11101001001010111 L111010 (env 1) (env 5) (env 6) (env 7) (env 8) (env 40) (env 59) st := by
  refine Eq.trans (Eq.refl (g6X (g6C [1, 1, 1, 0, 1, 0, 0, 1, 0, 0, 1, 0, 1, 0, 1, 1, 1]) (g6k11 L111010))) ?_
  funext env st
  kernel_rfl
noncomputable def g6b11101001 (L111010 : V → V → V → V → St → Res) (x1 : V) (x5 : V) (x6 : V) (x7 : V) (st : St) : Res :=
 A.iaddr 1 x1 x7 fun a1 =>
 A.load false 1 a1 st fun a2 z3 =>
 A.bin .and a2 (.int .i64 65535) fun a4 =>
 A.bin .and a4 (.int .i64 3) fun a5 =>
 A.eql 2 false a5 (.int .i64 0) fun a6 =>
 A.cond a6
 (A.bin .shr a4 (.int .u64 2) fun a7 =>
 A.bin .rem a7 x5 fun a8 =>
 A.bin .shr a4 (.int .u64 5) fun a9 =>
 A.bin .rem a9 x5 fun a10 =>
 A.noP (A.ret (s8 [x6.er1, a8.er1, a10.er1] z3) kid) fun a11 z12 =>
 g6b111010010011 L111010 x1 x5 x6 x7 z12)
 (A.eql 2 false a5 (.int .i64 1) fun a13 =>
 g6b11101001001010111 L111010 x1 x5 x6 x7 a4 a5 a13 z3)
theorem g6n11101001 : g6C [1, 1, 1, 0, 1, 0, 0, 1] = .seq (g6C [1, 1, 1, 0, 1, 0, 0, 1, 0]) (g6C [1, 1, 1, 0, 1, 0, 0, 1, 1]) := by kernel_rfl
theorem g6n111010010 : g6C [1, 1, 1, 0, 1, 0, 0, 1, 0] = .block 1 (g6C [1, 1, 1, 0, 1, 0, 0, 1, 0, 0]) := by kernel_rfl
theorem g6n1110100100 : g6C [1, 1, 1, 0, 1, 0, 0, 1, 0, 0] = .seq (g6C [1, 1, 1, 0, 1, 0, 0, 1, 0, 0, 0]) (g6C [1, 1, 1, 0, 1, 0, 0, 1, 0, 0, 1]) := by kernel_rfl
theorem g6n11101001001 : g6C [1, 1, 1, 0, 1, 0, 0, 1, 0, 0, 1] = .seq (g6C [1, 1, 1, 0, 1, 0, 0, 1, 0, 0, 1, 0]) (g6C [1, 1, 1, 0, 1, 0, 0, 1, 0, 0, 1, 1]) := by kernel_rfl
theorem g6n111010010010 : g6C [1, 1, 1, 0, 1, 0, 0, 1, 0, 0, 1, 0] = .seq (g6C [1, 1, 1, 0, 1, 0, 0, 1, 0, 0, 1, 0, 0]) (g6C [1, 1, 1, 0, 1, 0, 0, 1, 0, 0, 1, 0, 1]) := by kernel_rfl
theorem g6n1110100100101 : g6C [1, 1, 1, 0, 1, 0, 0, 1, 0, 0, 1, 0, 1] = .block 2 (g6C [1, 1, 1, 0, 1, 0, 0, 1, 0, 0, 1, 0, 1, 0]) := by kernel_rfl
theorem g6n11101001001010 : g6C [1, 1, 1, 0, 1, 0, 0, 1, 0, 0, 1, 0, 1, 0] = .seq (g6C [1, 1, 1, 0, 1, 0, 0, 1, 0, 0, 1, 0, 1, 0, 0]) (g6C [1, 1, 1, 0, 1, 0, 0, 1, 0, 0, 1, 0, 1, 0, 1]) := by kernel_rfl
theorem g6n111010010010101 : g6C [1, 1, 1, 0, 1, 0, 0, 1, 0, 0, 1, 0, 1, 0, 1] = .cond (.tmp 47) (g6C [1, 1, 1, 0, 1, 0, 0, 1, 0, 0, 1, 0, 1, 0, 1, 0]) (g6C [1, 1, 1, 0, 1, 0, 0, 1, 0, 0, 1, 0, 1, 0, 1, 1]) := by kernel_rfl
theorem g6n1110100100101011 : g6C [1, 1, 1, 0, 1, 0, 0, 1, 0, 0, 1, 0, 1, 0, 1, 1] = .seq (g6C [1, 1, 1, 0, 1, 0, 0, 1, 0, 0, 1, 0, 1, 0, 1, 1, 0]) (g6C [1, 1, 1, 0, 1, 0, 0, 1, 0, 0, 1, 0, 1, 0, 1, 1, 1]) := by kernel_rfl
theorem g6e11101001 (L111010 : V → V → V → V → St → Res) : g6X (g6C [1, 1, 1, 0, 1, 0, 0, 1]) (g6k2 L111010) = fun env st => g6b11101001 L111010 (env 1) (env 5) (env 6) (env 7) st := by
  refine Eq.trans ((g6seq g6n11101001 rfl).trans ((g6blk g6n111010010).trans (g6seq g6n1110100100 ((g6seq g6n11101001001 (g6e111010010011 L111010)).trans (g6seq g6n111010010010 ((g6blk g6n1110100100101).trans (g6seq g6n11101001001010 (g6cond g6n111010010010101 rfl (g6seq g6n1110100100101011 (g6e11101001001010111 L111010)))))))))) ?_
  funext env st
  kernel_rfl
noncomputable def g6b111010 : Nat → V → V → V → V → St → Res
| 0, _, _, _, _, _ => none
| n + 1, x1, x5, x6, x7, st =>
 A.lenL x1 fun a1 =>
 A.bin .lss x7 a1 fun a2 =>
 A.guard a2 true
 (A.bin .lss x7 (.int .i64 200) fun a3 =>
 A.guard a3 true
 (A.nilc x6 fun a4 =>
 A.faddr 4 a4 fun a5 =>
 A.load false 1 a5 st fun a6 z7 =>
 A.cond a6
 (g6b11101001 (g6b111010 n) x1 x5 x6 x7 z7)
 (A.nilc x6 fun a8 =>
 A.faddr 4 a8 fun a9 =>
 A.load false 1 a9 z7 fun a10 z11 =>
 A.guard a10 true
 (A.ret (s14 [] z11) fun a12 z13 =>
 some (.ret a12.er1, z13))
 (some (.ret ((.bool false) : V).er1, z11))))
 (A.nilc x6 fun a14 =>
 A.faddr 4 a14 fun a15 =>
 A.load false 1 a15 st fun a16 z17 =>
 A.guard a16 true
 (A.ret (s14 [] z17) fun a18 z19 =>
 some (.ret a18.er1, z19))
 (some (.ret ((.bool false) : V).er1, z17))))
 (A.nilc x6 fun a20 =>
 A.faddr 4 a20 fun a21 =>
 A.load false 1 a21 st fun a22 z23 =>
 A.guard a22 true
 (A.ret (s14 [] z23) fun a24 z25 =>
 some (.ret a24.er1, z25))
 (some (.ret ((.bool false) : V).er1, z23)))
theorem g6n111010 : g6C [1, 1, 1, 0, 1, 0] = .loop (g6C [1, 1, 1, 0, 1, 0, 0]) := by kernel_rfl
theorem g6n1110100 : g6C [1, 1, 1, 0, 1, 0, 0] = .seq (g6C [1, 1, 1, 0, 1, 0, 0, 0]) (g6C [1, 1, 1, 0, 1, 0, 0, 1]) := by kernel_rfl
theorem g6e111010 : g6X (g6C [1, 1, 1, 0, 1, 0]) (g6k1) = fun env st => g6b111010 big (env 1) (env 5) (env 6) (env 7) st := by
  have key : ∀ n, aloop (g6X (g6C [1, 1, 1, 0, 1, 0, 0])) (g6k1) n = fun env st => g6b111010 n (env 1) (env 5) (env 6) (env 7) st := by
    intro n
    induction n with
    | zero => rfl
    | succ n ih =>
      have h : aloop (g6X (g6C [1, 1, 1, 0, 1, 0, 0])) (g6k1) (n + 1) = g6X (g6C [1, 1, 1, 0, 1, 0, 0]) (kSeq (aloop (g6X (g6C [1, 1, 1, 0, 1, 0, 0])) (g6k1) n) (g6k1)) := rfl
      rw [h, ih]
      refine Eq.trans (g6seq g6n1110100 (g6e11101001 (g6b111010 n))) ?_
      funext env st
      kernel_rfl
  exact (g6loop g6n111010).trans (key big)
noncomputable def f6 (x0 : V) (x1 : V) (st : St) : Res :=
 A.bin .and x0 (.int .i64 65535) fun a1 =>
 A.bin .rem a1 (.int .i64 6) fun a2 =>
 A.bin .add (.int .i64 1) a2 fun a3 =>
 A.ret (s7 [a3.er1, ((.int .i64 4) : V).er1] st) fun a4 z5 =>
 g6b111010 big x1 a3 a4 (.int .i64 0) z5
theorem g6nr : g6C [] = .seq (g6C [0]) (g6C [1]) := by kernel_rfl
theorem g6n1 : g6C [1] = .seq (g6C [1, 0]) (g6C [1, 1]) := by kernel_rfl
theorem g6n11 : g6C [1, 1] = .seq (g6C [1, 1, 0]) (g6C [1, 1, 1]) := by kernel_rfl
theorem g6n111 : g6C [1, 1, 1] = .seq (g6C [1, 1, 1, 0]) (g6C [1, 1, 1, 1]) := by kernel_rfl
theorem g6n1110 : g6C [1, 1, 1, 0] = .seq (g6C [1, 1, 1, 0, 0]) (g6C [1, 1, 1, 0, 1]) := by kernel_rfl
theorem g6n11101 : g6C [1, 1, 1, 0, 1] = .block 0 (g6C [1, 1, 1, 0, 1, 0]) := by kernel_rfl
theorem g6er (env : Env) (st : St) : g6X (g6C []) g6kr env st = f6 (env 0) (env 1) st := by
  rw [(g6seq g6nr (g6seq g6n1 (g6seq g6n11 ((g6seq g6n111 rfl).trans (g6seq g6n1110 ((g6blk g6n11101).trans (g6e111010)))))))]
  kernel_rfl
theorem s6_eq (x0 : V) (x1 : V) (st : St) : s6 [x0, x1] st = f6 x0 x1 st := by
  have h : afn Try.prog g6mu g6T big (areg Try.prog g6mu g6T) 6 [x0, x1] st = g6X (g6C []) g6kr (fun t => [x0, x1].getD t (.tup [])) st := by kernel_rfl
  rw [s6, sealF_eq]
  exact h.trans (g6er _ st)
/-! sinew/sinewlaw14.QuietDone -/
def g3mu : Nat → Bool := fun _ => false
noncomputable def g3T : Tbl := tget [(7, s7), (8, s8), (9, s9), (10, s10), (11, s11), (12, s12), (13, s13), (14, s14)]
theorem g3t : SimT Try.prog g3T := simT_cons sim7 ( simT_cons sim8 ( simT_cons sim9 ( simT_cons sim10 ( simT_cons sim11 ( simT_cons sim12 ( simT_cons sim13 ( simT_cons sim14 (simT_nil))))))))
noncomputable def s3 : Fn := sealF (afn Try.prog g3mu g3T big (areg Try.prog g3mu g3T) 3)
theorem sim3 : Sim Try.prog 3 s3 := (afn_sim g3t (fun m => areg_sound g3t hmix m) 3 (by kernel_rfl)).sealed
noncomputable def g3C (p : List Nat) : Code := sub (match Try.f3.body with | some c => c | none => .skip) p
noncomputable def g3X (c : Code) (K : Kon) : Env → St → Res := aexec Try.prog g3mu g3T big 96 (areg Try.prog g3mu g3T 96) c K
noncomputable def g3kr : Kon := aresK Try.prog Try.f3.results.toList
theorem g3reg {c : Code} {K : Kon} {G : Env → St → Res} {id : Nat} {ops : Array Oper} {l1 l2 : List Nat} (hc : c = .region id ops false) (hl : List.range ops.size = l1 ++ l2) (h : (fun env st => aops Try.prog g3mu g3T 96 ops l2 env st (K .normal)) = G) : g3X c K = fun env st => aops Try.prog g3mu g3T 96 ops l1 env st G := reg_cut hc hl h
theorem g3seq {c x y : Code} {K : Kon} {G : Env → St → Res} (hc : c = .seq x y) (hy : g3X y K = G) : g3X c K = g3X x (kSeq G K) := seq_cut hc hy
theorem g3blk {c x : Code} {K : Kon} {i : Nat} (hc : c = .block i x) : g3X c K = g3X x (kBlk i K) := blk_cut hc
theorem g3loop {c x : Code} {K : Kon} (hc : c = .loop x) : g3X c K = aloop (g3X x) K big := loop_cut hc
theorem g3cond {c x y : Code} {K : Kon} {v : Operand} {F G : Env → St → Res} (hc : c = .cond v x y) (hx : g3X x K = F) (hy : g3X y K = G) : g3X c K = condF v F G := cond_cut hc hx hy
noncomputable def g3k0 : Kon := kSeq (g3X (g3C [1, 1, 1, 1]) (g3kr)) (g3kr)
noncomputable def g3k1 : Kon := kBlk 0 (g3k0)
noncomputable def g3k2 (L111010 : V → V → V → V → St → Res) : Kon := kSeq (fun env st => L111010 (env 1) (env 5) (env 6) (env 7) st) (g3k1)
noncomputable def g3k3 (L111010 : V → V → V → V → St → Res) : Kon := kSeq (g3X (g3C [1, 1, 1, 0, 1, 0, 0, 1, 1]) (g3k2 L111010)) (g3k2 L111010)
noncomputable def g3k4 (L111010 : V → V → V → V → St → Res) : Kon := kBlk 1 (g3k3 L111010)
noncomputable def g3k5 (L111010 : V → V → V → V → St → Res) : Kon := kSeq (g3X (g3C [1, 1, 1, 0, 1, 0, 0, 1, 0, 0, 1, 1, 1]) (g3k4 L111010)) (g3k4 L111010)
noncomputable def g3b1110100100110_14 (L111010 : V → V → V → V → St → Res) (x1 : V) (x5 : V) (x6 : V) (x7 : V) (x84 : V) (st : St) : Res :=
 A.guard x84 true
 (A.ret (s13 [x6.er1] st) fun a1 z2 =>
 A.un .not a1 fun a3 =>
 A.cond a3
 (some (.ret ((.bool false) : V).er1, z2))
 (A.bin .add x7 (.int .i64 1) fun a4 =>
 L111010 x1 x5 x6 a4 z2))
 (A.bin .add x7 (.int .i64 1) fun a5 =>
 L111010 x1 x5 x6 a5 st)
theorem g3e1110100100110_14 (L111010 : V → V → V → V → St → Res) : (fun env st => aops Try.prog g3mu g3T 96 (rops (g3C [1, 1, 1, 0, 1, 0, 0, 1, 0, 0, 1, 1, 0])) [14, 15, 16, 17] env st ((g3k5 L111010) .normal)) = fun env st => g3b1110100100110_14 L111010 (env 1) (env 5) (env 6) (env 7) (env 84) st := by
  refine Eq.trans (Eq.refl _) ?_
  funext env st
  kernel_rfl
noncomputable def g3b111010010011 (L111010 : V → V → V → V → St → Res) (x1 : V) (x5 : V) (x6 : V) (x7 : V) (st : St) : Res :=
 A.nilc x6 fun a1 =>
 A.faddr 4 a1 fun a2 =>
 A.load false 1 a2 st fun a3 z4 =>
 A.guard a3 true
 (A.nilc x6 fun a5 =>
 A.faddr 0 a5 fun a6 =>
 A.load false 1 a6 z4 fun a7 z8 =>
 A.iaddr 1 a7 (.int .i64 0) fun a9 =>
 A.load false 1 a9 z8 fun a10 z11 =>
 A.ret (s12 [a10.er1] z11) fun a12 z13 =>
 g3b1110100100110_14 L111010 x1 x5 x6 x7 a12 z13)
 (g3b1110100100110_14 L111010 x1 x5 x6 x7 (.bool false) z4)
theorem g3n111010010011 : g3C [1, 1, 1, 0, 1, 0, 0, 1, 0, 0, 1, 1] = .seq (g3C [1, 1, 1, 0, 1, 0, 0, 1, 0, 0, 1, 1, 0]) (g3C [1, 1, 1, 0, 1, 0, 0, 1, 0, 0, 1, 1, 1]) := by kernel_rfl
theorem g3rg1110100100110 : g3C [1, 1, 1, 0, 1, 0, 0, 1, 0, 0, 1, 1, 0] = .region 15 (rops (g3C [1, 1, 1, 0, 1, 0, 0, 1, 0, 0, 1, 1, 0])) false := by kernel_rfl
theorem g3rg1110100100110l : List.range (rops (g3C [1, 1, 1, 0, 1, 0, 0, 1, 0, 0, 1, 1, 0])).size = [0, 1, 2, 3, 4, 5, 6, 7, 8, 9, 10, 11, 12, 13] ++ [14, 15, 16, 17] := by kernel_rfl
theorem g3e111010010011 (L111010 : V → V → V → V → St → Res) : g3X (g3C [1, 1, 1, 0, 1, 0, 0, 1, 0, 0, 1, 1]) (g3k4 L111010) = fun env st => g3b111010010011 L111010 (env 1) (env 5) (env 6) (env 7) st := by
  refine Eq.trans ((g3seq g3n111010010011 rfl).trans (g3reg g3rg1110100100110 g3rg1110100100110l (g3e1110100100110_14 L111010))) ?_
  funext env st
  kernel_rfl
noncomputable def g3k6 (L111010 : V → V → V → V → St → Res) : Kon := kSeq (fun env st => g3b111010010011 L111010 (env 1) (env 5) (env 6) (env 7) st) (g3k4 L111010)
noncomputable def g3k7 (L111010 : V → V → V → V → St → Res) : Kon := kBlk 2 (g3k6 L111010)
noncomputable def g3b11101001001010111 (L111010 : V → V → V → V → St → Res) (x1 : V) (x5 : V) (x6 : V) (x7 : V) (x8 : V) (x37 : V) (x56 : V) (st : St) : Res :=
 A.cond x56
 (A.bin .shr x8 (.int .u64 2) fun a1 =>
 A.bin .shr x8 (.int .u64 10) fun a2 =>
 A.bin .and a2 (.int .i64 3) fun a3 =>
 A.ret (s9 [x6.er1, a1.er1, a3.er1] st) fun a4 z5 =>
 g3b111010010011 L111010 x1 x5 x6 x7 z5)
 (A.eql 2 false x37 (.int .i64 2) fun a6 =>
 A.cond a6
 (A.bin .shr x8 (.int .u64 2) fun a7 =>
 A.ret (s10 [x6.er1, a7.er1] st) fun a8 z9 =>
 g3b111010010011 L111010 x1 x5 x6 x7 z9)
 (A.bin .shr x8 (.int .u64 2) fun a10 =>
 A.bin .rem a10 x5 fun a11 =>
 A.ret (s11 [x6.er1, a11.er1] st) fun a12 z13 =>
 g3b111010010011 L111010 x1 x5 x6 x7 z13))
theorem g3e11101001001010111 (L111010 : V → V → V → V → St → Res) : g3X (g3C [1, 1, 1, 0, 1, 0, 0, 1, 0, 0, 1, 0, 1, 0, 1, 1, 1]) (g3k7 L111010) = fun env st => g3b11101001001010111 L111010 (env 1) (env 5) (env 6) (env 7) (env 8) (env 37) (env 56) st := by
  refine Eq.trans (Eq.refl (g3X (g3C [1, 1, 1, 0, 1, 0, 0, 1, 0, 0, 1, 0, 1, 0, 1, 1, 1]) (g3k7 L111010))) ?_
  funext env st
  kernel_rfl
noncomputable def g3b11101001 (L111010 : V → V → V → V → St → Res) (x1 : V) (x5 : V) (x6 : V) (x7 : V) (st : St) : Res :=
 A.iaddr 1 x1 x7 fun a1 =>
 A.load false 1 a1 st fun a2 z3 =>
 A.bin .and a2 (.int .i64 65535) fun a4 =>
 A.bin .and a4 (.int .i64 3) fun a5 =>
 A.eql 2 false a5 (.int .i64 0) fun a6 =>
 A.cond a6
 (A.bin .shr a4 (.int .u64 2) fun a7 =>
 A.bin .rem a7 x5 fun a8 =>
 A.bin .shr a4 (.int .u64 5) fun a9 =>
 A.bin .rem a9 x5 fun a10 =>
 A.noP (A.ret (s8 [x6.er1, a8.er1, a10.er1] z3) kid) fun a11 z12 =>
 g3b111010010011 L111010 x1 x5 x6 x7 z12)
 (A.eql 2 false a5 (.int .i64 1) fun a13 =>
 g3b11101001001010111 L111010 x1 x5 x6 x7 a4 a5 a13 z3)
theorem g3n11101001 : g3C [1, 1, 1, 0, 1, 0, 0, 1] = .seq (g3C [1, 1, 1, 0, 1, 0, 0, 1, 0]) (g3C [1, 1, 1, 0, 1, 0, 0, 1, 1]) := by kernel_rfl
theorem g3n111010010 : g3C [1, 1, 1, 0, 1, 0, 0, 1, 0] = .block 1 (g3C [1, 1, 1, 0, 1, 0, 0, 1, 0, 0]) := by kernel_rfl
theorem g3n1110100100 : g3C [1, 1, 1, 0, 1, 0, 0, 1, 0, 0] = .seq (g3C [1, 1, 1, 0, 1, 0, 0, 1, 0, 0, 0]) (g3C [1, 1, 1, 0, 1, 0, 0, 1, 0, 0, 1]) := by kernel_rfl
theorem g3n11101001001 : g3C [1, 1, 1, 0, 1, 0, 0, 1, 0, 0, 1] = .seq (g3C [1, 1, 1, 0, 1, 0, 0, 1, 0, 0, 1, 0]) (g3C [1, 1, 1, 0, 1, 0, 0, 1, 0, 0, 1, 1]) := by kernel_rfl
theorem g3n111010010010 : g3C [1, 1, 1, 0, 1, 0, 0, 1, 0, 0, 1, 0] = .seq (g3C [1, 1, 1, 0, 1, 0, 0, 1, 0, 0, 1, 0, 0]) (g3C [1, 1, 1, 0, 1, 0, 0, 1, 0, 0, 1, 0, 1]) := by kernel_rfl
theorem g3n1110100100101 : g3C [1, 1, 1, 0, 1, 0, 0, 1, 0, 0, 1, 0, 1] = .block 2 (g3C [1, 1, 1, 0, 1, 0, 0, 1, 0, 0, 1, 0, 1, 0]) := by kernel_rfl
theorem g3n11101001001010 : g3C [1, 1, 1, 0, 1, 0, 0, 1, 0, 0, 1, 0, 1, 0] = .seq (g3C [1, 1, 1, 0, 1, 0, 0, 1, 0, 0, 1, 0, 1, 0, 0]) (g3C [1, 1, 1, 0, 1, 0, 0, 1, 0, 0, 1, 0, 1, 0, 1]) := by kernel_rfl
theorem g3n111010010010101 : g3C [1, 1, 1, 0, 1, 0, 0, 1, 0, 0, 1, 0, 1, 0, 1] = .cond (.tmp 44) (g3C [1, 1, 1, 0, 1, 0, 0, 1, 0, 0, 1, 0, 1, 0, 1, 0]) (g3C [1, 1, 1, 0, 1, 0, 0, 1, 0, 0, 1, 0, 1, 0, 1, 1]) := by kernel_rfl
theorem g3n1110100100101011 : g3C [1, 1, 1, 0, 1, 0, 0, 1, 0, 0, 1, 0, 1, 0, 1, 1] = .seq (g3C [1, 1, 1, 0, 1, 0, 0, 1, 0, 0, 1, 0, 1, 0, 1, 1, 0]) (g3C [1, 1, 1, 0, 1, 0, 0, 1, 0, 0, 1, 0, 1, 0, 1, 1, 1]) := by kernel_rfl
theorem g3e11101001 (L111010 : V → V → V → V → St → Res) : g3X (g3C [1, 1, 1, 0, 1, 0, 0, 1]) (g3k2 L111010) = fun env st => g3b11101001 L111010 (env 1) (env 5) (env 6) (env 7) st := by
  refine Eq.trans ((g3seq g3n11101001 rfl).trans ((g3blk g3n111010010).trans (g3seq g3n1110100100 ((g3seq g3n11101001001 (g3e111010010011 L111010)).trans (g3seq g3n111010010010 ((g3blk g3n1110100100101).trans (g3seq g3n11101001001010 (g3cond g3n111010010010101 rfl (g3seq g3n1110100100101011 (g3e11101001001010111 L111010)))))))))) ?_
  funext env st
  kernel_rfl
noncomputable def g3b111010 : Nat → V → V → V → V → St → Res
| 0, _, _, _, _, _ => none
| n + 1, x1, x5, x6, x7, st =>
 A.lenL x1 fun a1 =>
 A.bin .lss x7 a1 fun a2 =>
 A.guard a2 true
 (A.bin .lss x7 (.int .i64 300) fun a3 =>
 A.guard a3 true
 (A.nilc x6 fun a4 =>
 A.faddr 4 a4 fun a5 =>
 A.load false 1 a5 st fun a6 z7 =>
 A.cond a6
 (g3b11101001 (g3b111010 n) x1 x5 x6 x7 z7)
 (A.nilc x6 fun a8 =>
 A.faddr 4 a8 fun a9 =>
 A.load false 1 a9 z7 fun a10 z11 =>
 A.guard a10 true
 (A.ret (s14 [] z11) fun a12 z13 =>
 some (.ret a12.er1, z13))
 (some (.ret ((.bool false) : V).er1, z11))))
 (A.nilc x6 fun a14 =>
 A.faddr 4 a14 fun a15 =>
 A.load false 1 a15 st fun a16 z17 =>
 A.guard a16 true
 (A.ret (s14 [] z17) fun a18 z19 =>
 some (.ret a18.er1, z19))
 (some (.ret ((.bool false) : V).er1, z17))))
 (A.nilc x6 fun a20 =>
 A.faddr 4 a20 fun a21 =>
 A.load false 1 a21 st fun a22 z23 =>
 A.guard a22 true
 (A.ret (s14 [] z23) fun a24 z25 =>
 some (.ret a24.er1, z25))
 (some (.ret ((.bool false) : V).er1, z23)))
theorem g3n111010 : g3C [1, 1, 1, 0, 1, 0] = .loop (g3C [1, 1, 1, 0, 1, 0, 0]) := by kernel_rfl
theorem g3n1110100 : g3C [1, 1, 1, 0, 1, 0, 0] = .seq (g3C [1, 1, 1, 0, 1, 0, 0, 0]) (g3C [1, 1, 1, 0, 1, 0, 0, 1]) := by kernel_rfl
theorem g3e111010 : g3X (g3C [1, 1, 1, 0, 1, 0]) (g3k1) = fun env st => g3b111010 big (env 1) (env 5) (env 6) (env 7) st := by
  have key : ∀ n, aloop (g3X (g3C [1, 1, 1, 0, 1, 0, 0])) (g3k1) n = fun env st => g3b111010 n (env 1) (env 5) (env 6) (env 7) st := by
    intro n
    induction n with
    | zero => rfl
    | succ n ih =>
      have h : aloop (g3X (g3C [1, 1, 1, 0, 1, 0, 0])) (g3k1) (n + 1) = g3X (g3C [1, 1, 1, 0, 1, 0, 0]) (kSeq (aloop (g3X (g3C [1, 1, 1, 0, 1, 0, 0])) (g3k1) n) (g3k1)) := rfl
      rw [h, ih]
      refine Eq.trans (g3seq g3n1110100 (g3e11101001 (g3b111010 n))) ?_
      funext env st
      kernel_rfl
  exact (g3loop g3n111010).trans (key big)
noncomputable def f3 (x0 : V) (x1 : V) (st : St) : Res :=
 A.bin .and x0 (.int .i64 65535) fun a1 =>
 A.bin .rem a1 (.int .i64 6) fun a2 =>
 A.bin .add (.int .i64 1) a2 fun a3 =>
 A.ret (s7 [a3.er1, ((.int .i64 3) : V).er1] st) fun a4 z5 =>
 g3b111010 big x1 a3 a4 (.int .i64 0) z5
theorem g3nr : g3C [] = .seq (g3C [0]) (g3C [1]) := by kernel_rfl
theorem g3n1 : g3C [1] = .seq (g3C [1, 0]) (g3C [1, 1]) := by kernel_rfl
theorem g3n11 : g3C [1, 1] = .seq (g3C [1, 1, 0]) (g3C [1, 1, 1]) := by kernel_rfl
theorem g3n111 : g3C [1, 1, 1] = .seq (g3C [1, 1, 1, 0]) (g3C [1, 1, 1, 1]) := by kernel_rfl
theorem g3n1110 : g3C [1, 1, 1, 0] = .seq (g3C [1, 1, 1, 0, 0]) (g3C [1, 1, 1, 0, 1]) := by kernel_rfl
theorem g3n11101 : g3C [1, 1, 1, 0, 1] = .block 0 (g3C [1, 1, 1, 0, 1, 0]) := by kernel_rfl
theorem g3er (env : Env) (st : St) : g3X (g3C []) g3kr env st = f3 (env 0) (env 1) st := by
  rw [(g3seq g3nr (g3seq g3n1 (g3seq g3n11 ((g3seq g3n111 rfl).trans (g3seq g3n1110 ((g3blk g3n11101).trans (g3e111010)))))))]
  kernel_rfl
theorem s3_eq (x0 : V) (x1 : V) (st : St) : s3 [x0, x1] st = f3 x0 x1 st := by
  have h : afn Try.prog g3mu g3T big (areg Try.prog g3mu g3T) 3 [x0, x1] st = g3X (g3C []) g3kr (fun t => [x0, x1].getD t (.tup [])) st := by kernel_rfl
  rw [s3, sealF_eq]
  exact h.trans (g3er _ st)
/-! sinew/sinewlaw14.QuietEnds -/
def g4mu : Nat → Bool := fun _ => false
noncomputable def g4T : Tbl := tget [(7, s7), (8, s8), (9, s9), (10, s10), (11, s11), (12, s12), (13, s13), (14, s14)]
theorem g4t : SimT Try.prog g4T := simT_cons sim7 ( simT_cons sim8 ( simT_cons sim9 ( simT_cons sim10 ( simT_cons sim11 ( simT_cons sim12 ( simT_cons sim13 ( simT_cons sim14 (simT_nil))))))))
noncomputable def s4 : Fn := sealF (afn Try.prog g4mu g4T big (areg Try.prog g4mu g4T) 4)
theorem sim4 : Sim Try.prog 4 s4 := (afn_sim g4t (fun m => areg_sound g4t hmix m) 4 (by kernel_rfl)).sealed
noncomputable def g4C (p : List Nat) : Code := sub (match Try.f4.body with | some c => c | none => .skip) p
noncomputable def g4X (c : Code) (K : Kon) : Env → St → Res := aexec Try.prog g4mu g4T big 161 (areg Try.prog g4mu g4T 161) c K
noncomputable def g4kr : Kon := aresK Try.prog Try.f4.results.toList
theorem g4reg {c : Code} {K : Kon} {G : Env → St → Res} {id : Nat} {ops : Array Oper} {l1 l2 : List Nat} (hc : c = .region id ops false) (hl : List.range ops.size = l1 ++ l2) (h : (fun env st => aops Try.prog g4mu g4T 161 ops l2 env st (K .normal)) = G) : g4X c K = fun env st => aops Try.prog g4mu g4T 161 ops l1 env st G := reg_cut hc hl h
theorem g4seq {c x y : Code} {K : Kon} {G : Env → St → Res} (hc : c = .seq x y) (hy : g4X y K = G) : g4X c K = g4X x (kSeq G K) := seq_cut hc hy
theorem g4blk {c x : Code} {K : Kon} {i : Nat} (hc : c = .block i x) : g4X c K = g4X x (kBlk i K) := blk_cut hc
theorem g4loop {c x : Code} {K : Kon} (hc : c = .loop x) : g4X c K = aloop (g4X x) K big := loop_cut hc
theorem g4cond {c x y : Code} {K : Kon} {v : Operand} {F G : Env → St → Res} (hc : c = .cond v x y) (hx : g4X x K = F) (hy : g4X y K = G) : g4X c K = condF v F G := cond_cut hc hx hy
noncomputable def g4k0 : Kon := kSeq (g4X (g4C [1, 1, 1, 1, 1, 1, 1, 1]) (g4kr)) (g4kr)
noncomputable def g4b11111110_14 (x8 : V) (x154 : V) (st : St) : Res :=
 A.guard x154 true
 (A.ret (s13 [x8.er1] st) fun a1 z2 =>
 A.guard a1 true
 (A.ret (s14 [] z2) fun a3 z4 =>
 some (.ret a3.er1, z4))
 (some (.ret ((.bool false) : V).er1, z2)))
 (some (.ret ((.bool false) : V).er1, st))
theorem g4e11111110_14 : (fun env st => aops Try.prog g4mu g4T 161 (rops (g4C [1, 1, 1, 1, 1, 1, 1, 0])) [14, 15, 16, 17, 18, 19, 20] env st ((g4k0) .normal)) = fun env st => g4b11111110_14 (env 8) (env 154) st := by
  refine Eq.trans (Eq.refl _) ?_
  funext env st
  kernel_rfl
noncomputable def g4b1111111 (x8 : V) (st : St) : Res :=
 A.nilc x8 fun a1 =>
 A.faddr 4 a1 fun a2 =>
 A.load false 1 a2 st fun a3 z4 =>
 A.guard a3 true
 (A.nilc x8 fun a5 =>
 A.faddr 0 a5 fun a6 =>
 A.load false 1 a6 z4 fun a7 z8 =>
 A.iaddr 1 a7 (.int .i64 0) fun a9 =>
 A.load false 1 a9 z8 fun a10 z11 =>
 A.ret (s12 [a10.er1] z11) fun a12 z13 =>
 g4b11111110_14 x8 a12 z13)
 (g4b11111110_14 x8 (.bool false) z4)
theorem g4n1111111 : g4C [1, 1, 1, 1, 1, 1, 1] = .seq (g4C [1, 1, 1, 1, 1, 1, 1, 0]) (g4C [1, 1, 1, 1, 1, 1, 1, 1]) := by kernel_rfl
theorem g4rg11111110 : g4C [1, 1, 1, 1, 1, 1, 1, 0] = .region 29 (rops (g4C [1, 1, 1, 1, 1, 1, 1, 0])) false := by kernel_rfl
theorem g4rg11111110l : List.range (rops (g4C [1, 1, 1, 1, 1, 1, 1, 0])).size = [0, 1, 2, 3, 4, 5, 6, 7, 8, 9, 10, 11, 12, 13] ++ [14, 15, 16, 17, 18, 19, 20] := by kernel_rfl
theorem g4e1111111 : g4X (g4C [1, 1, 1, 1, 1, 1, 1]) (g4kr) = fun env st => g4b1111111 (env 8) st := by
  refine Eq.trans ((g4seq g4n1111111 rfl).trans (g4reg g4rg11111110 g4rg11111110l (g4e11111110_14))) ?_
  funext env st
  kernel_rfl
noncomputable def g4k1 : Kon := kSeq (fun env st => g4b1111111 (env 8) st) (g4kr)
noncomputable def g4k2 : Kon := kBlk 5 (g4k1)
noncomputable def g4k3 (L111111010 : V → V → V → St → Res) : Kon := kSeq (fun env st => L111111010 (env 2) (env 8) (env 12) st) (g4k2)
noncomputable def g4k4 (L111111010 : V → V → V → St → Res) : Kon := kSeq (g4X (g4C [1, 1, 1, 1, 1, 1, 0, 1, 0, 0, 1, 1]) (g4k3 L111111010)) (g4k3 L111111010)
noncomputable def g4k5 (L111111010 : V → V → V → St → Res) : Kon := kBlk 6 (g4k4 L111111010)
noncomputable def g4b111111010010011 (L111111010 : V → V → V → St → Res) (x2 : V) (x8 : V) (x12 : V) (x13 : V) (st : St) : Res :=
 A.bin .rem x12 (.int .i64 2) fun a1 =>
 A.eql 2 false a1 (.int .i64 1) fun a2 =>
 A.guard a2 false
 (A.nilc x8 fun a3 =>
 A.faddr 2 a3 fun a4 =>
 A.load false 1 a4 st fun a5 z6 =>
 A.lenL a5 fun a7 =>
 A.eql 2 false a7 (.int .i64 0) fun a8 =>
 A.cond a8
 (A.ret (s9 [x8.er1, x13.er1, ((.int .i64 0) : V).er1] z6) fun a9 z10 =>
 A.bin .add x12 (.int .i64 1) fun a11 =>
 L111111010 x2 x8 a11 z10)
 (A.bin .add x12 (.int .i64 1) fun a12 =>
 L111111010 x2 x8 a12 z6))
 (A.ret (s9 [x8.er1, x13.er1, ((.int .i64 0) : V).er1] st) fun a13 z14 =>
 A.bin .add x12 (.int .i64 1) fun a15 =>
 L111111010 x2 x8 a15 z14)
theorem g4e111111010010011 (L111111010 : V → V → V → St → Res) : g4X (g4C [1, 1, 1, 1, 1, 1, 0, 1, 0, 0, 1, 0, 0, 1, 1]) (g4k5 L111111010) = fun env st => g4b111111010010011 L111111010 (env 2) (env 8) (env 12) (env 13) st := by
  refine Eq.trans (Eq.refl (g4X (g4C [1, 1, 1, 1, 1, 1, 0, 1, 0, 0, 1, 0, 0, 1, 1]) (g4k5 L111111010))) ?_
  funext env st
  kernel_rfl
noncomputable def g4b11111101001001 (L111111010 : V → V → V → St → Res) (x2 : V) (x8 : V) (x12 : V) (x13 : V) (st : St) : Res :=
 A.bin .rem x12 (.int .i64 2) fun a1 =>
 A.eql 2 false a1 (.int .i64 0) fun a2 =>
 A.guard a2 false
 (A.nilc x8 fun a3 =>
 A.faddr 1 a3 fun a4 =>
 A.load false 1 a4 st fun a5 z6 =>
 A.lenL a5 fun a7 =>
 A.eql 2 false a7 (.int .i64 0) fun a8 =>
 A.cond a8
 (A.ret (s10 [x8.er1, x13.er1] z6) fun a9 z10 =>
 g4b111111010010011 L111111010 x2 x8 x12 x13 z10)
 (g4b111111010010011 L111111010 x2 x8 x12 x13 z6))
 (A.ret (s10 [x8.er1, x13.er1] st) fun a11 z12 =>
 g4b111111010010011 L111111010 x2 x8 x12 x13 z12)
theorem g4n11111101001001 : g4C [1, 1, 1, 1, 1, 1, 0, 1, 0, 0, 1, 0, 0, 1] = .seq (g4C [1, 1, 1, 1, 1, 1, 0, 1, 0, 0, 1, 0, 0, 1, 0]) (g4C [1, 1, 1, 1, 1, 1, 0, 1, 0, 0, 1, 0, 0, 1, 1]) := by kernel_rfl
theorem g4e11111101001001 (L111111010 : V → V → V → St → Res) : g4X (g4C [1, 1, 1, 1, 1, 1, 0, 1, 0, 0, 1, 0, 0, 1]) (g4k5 L111111010) = fun env st => g4b11111101001001 L111111010 (env 2) (env 8) (env 12) (env 13) st := by
  refine Eq.trans (g4seq g4n11111101001001 (g4e111111010010011 L111111010)) ?_
  funext env st
  kernel_rfl
noncomputable def g4b11111101001 (L111111010 : V → V → V → St → Res) (x2 : V) (x8 : V) (x12 : V) (st : St) : Res :=
 A.bin .and x12 (.int .i64 31) fun a1 =>
 A.bin .shr x2 a1 fun a2 =>
 g4b11111101001001 L111111010 x2 x8 x12 a2 st
theorem g4n11111101001 : g4C [1, 1, 1, 1, 1, 1, 0, 1, 0, 0, 1] = .seq (g4C [1, 1, 1, 1, 1, 1, 0, 1, 0, 0, 1, 0]) (g4C [1, 1, 1, 1, 1, 1, 0, 1, 0, 0, 1, 1]) := by kernel_rfl
theorem g4n111111010010 : g4C [1, 1, 1, 1, 1, 1, 0, 1, 0, 0, 1, 0] = .block 6 (g4C [1, 1, 1, 1, 1, 1, 0, 1, 0, 0, 1, 0, 0]) := by kernel_rfl
theorem g4n1111110100100 : g4C [1, 1, 1, 1, 1, 1, 0, 1, 0, 0, 1, 0, 0] = .seq (g4C [1, 1, 1, 1, 1, 1, 0, 1, 0, 0, 1, 0, 0, 0]) (g4C [1, 1, 1, 1, 1, 1, 0, 1, 0, 0, 1, 0, 0, 1]) := by kernel_rfl
theorem g4e11111101001 (L111111010 : V → V → V → St → Res) : g4X (g4C [1, 1, 1, 1, 1, 1, 0, 1, 0, 0, 1]) (g4k3 L111111010) = fun env st => g4b11111101001 L111111010 (env 2) (env 8) (env 12) st := by
  refine Eq.trans ((g4seq g4n11111101001 rfl).trans ((g4blk g4n111111010010).trans (g4seq g4n1111110100100 (g4e11111101001001 L111111010)))) ?_
  funext env st
  kernel_rfl
noncomputable def g4k6 (L111111010 : V → V → V → St → Res) : Kon := kSeq (fun env st => g4b11111101001 L111111010 (env 2) (env 8) (env 12) st) (g4k3 L111111010)
noncomputable def g4k7 (L111111010 : V → V → V → St → Res) : Kon := kSeq (g4X (g4C [1, 1, 1, 1, 1, 1, 0, 1, 0, 0, 0, 1]) (g4k6 L111111010)) (g4k6 L111111010)
noncomputable def g4b111111010000_9 (L111111010 : V → V → V → St → Res) (x2 : V) (x8 : V) (x12 : V) (x97 : V) (st : St) : Res :=
 A.guard x97 true
 (A.nilc x8 fun a1 =>
 A.faddr 0 a1 fun a2 =>
 A.load false 1 a2 st fun a3 z4 =>
 A.iaddr 1 a3 (.int .i64 0) fun a5 =>
 A.load false 1 a5 z4 fun a6 z7 =>
 A.ret (s12 [a6.er1] z7) fun a8 z9 =>
 A.un .not a8 fun a10 =>
 A.cond a10
 (g4b11111101001 L111111010 x2 x8 x12 z9)
 (g4b1111111 x8 z9))
 (g4b1111111 x8 st)
theorem g4e111111010000_9 (L111111010 : V → V → V → St → Res) : (fun env st => aops Try.prog g4mu g4T 161 (rops (g4C [1, 1, 1, 1, 1, 1, 0, 1, 0, 0, 0, 0])) [9, 10, 11, 12, 13, 14, 15, 16, 17] env st ((g4k7 L111111010) .normal)) = fun env st => g4b111111010000_9 L111111010 (env 2) (env 8) (env 12) (env 97) st := by
  refine Eq.trans (Eq.refl _) ?_
  funext env st
  kernel_rfl
noncomputable def g4b111111010 : Nat → V → V → V → St → Res
| 0, _, _, _, _ => none
| n + 1, x2, x8, x12, st =>
 A.bin .lss x12 (.int .i64 3000) fun a1 =>
 A.guard a1 true
 (A.nilc x8 fun a2 =>
 A.faddr 4 a2 fun a3 =>
 A.load false 1 a3 st fun a4 z5 =>
 g4b111111010000_9 (g4b111111010 n) x2 x8 x12 a4 z5)
 (g4b111111010000_9 (g4b111111010 n) x2 x8 x12 (.bool false) st)
theorem g4n111111010 : g4C [1, 1, 1, 1, 1, 1, 0, 1, 0] = .loop (g4C [1, 1, 1, 1, 1, 1, 0, 1, 0, 0]) := by kernel_rfl
theorem g4n1111110100 : g4C [1, 1, 1, 1, 1, 1, 0, 1, 0, 0] = .seq (g4C [1, 1, 1, 1, 1, 1, 0, 1, 0, 0, 0]) (g4C [1, 1, 1, 1, 1, 1, 0, 1, 0, 0, 1]) := by kernel_rfl
theorem g4n11111101000 : g4C [1, 1, 1, 1, 1, 1, 0, 1, 0, 0, 0] = .seq (g4C [1, 1, 1, 1, 1, 1, 0, 1, 0, 0, 0, 0]) (g4C [1, 1, 1, 1, 1, 1, 0, 1, 0, 0, 0, 1]) := by kernel_rfl
theorem g4rg111111010000 : g4C [1, 1, 1, 1, 1, 1, 0, 1, 0, 0, 0, 0] = .region 22 (rops (g4C [1, 1, 1, 1, 1, 1, 0, 1, 0, 0, 0, 0])) false := by kernel_rfl
theorem g4rg111111010000l : List.range (rops (g4C [1, 1, 1, 1, 1, 1, 0, 1, 0, 0, 0, 0])).size = [0, 1, 2, 3, 4, 5, 6, 7, 8] ++ [9, 10, 11, 12, 13, 14, 15, 16, 17] := by kernel_rfl
theorem g4e111111010 : g4X (g4C [1, 1, 1, 1, 1, 1, 0, 1, 0]) (g4k2) = fun env st => g4b111111010 big (env 2) (env 8) (env 12) st := by
  have key : ∀ n, aloop (g4X (g4C [1, 1, 1, 1, 1, 1, 0, 1, 0, 0])) (g4k2) n = fun env st => g4b111111010 n (env 2) (env 8) (env 12) st := by
    intro n
    induction n with
    | zero => rfl
    | succ n ih =>
      have h : aloop (g4X (g4C [1, 1, 1, 1, 1, 1, 0, 1, 0, 0])) (g4k2) (n + 1) = g4X (g4C [1, 1, 1, 1, 1, 1, 0, 1, 0, 0]) (kSeq (aloop (g4X (g4C [1, 1, 1, 1, 1, 1, 0, 1, 0, 0])) (g4k2) n) (g4k2)) := rfl
      rw [h, ih]
      refine Eq.trans ((g4seq g4n1111110100 (g4e11111101001 (g4b111111010 n))).trans ((g4seq g4n11111101000 rfl).trans (g4reg g4rg111111010000 g4rg111111010000l (g4e111111010000_9 (g4b111111010 n))))) ?_
      funext env st
      kernel_rfl
  exact (g4loop g4n111111010).trans (key big)
noncomputable def g4b111111 (x2 : V) (x8 : V) (st : St) : Res :=
 g4b111111010 big x2 x8 (.int .i64 0) st
theorem g4n111111 : g4C [1, 1, 1, 1, 1, 1] = .seq (g4C [1, 1, 1, 1, 1, 1, 0]) (g4C [1, 1, 1, 1, 1, 1, 1]) := by kernel_rfl
theorem g4n1111110 : g4C [1, 1, 1, 1, 1, 1, 0] = .seq (g4C [1, 1, 1, 1, 1, 1, 0, 0]) (g4C [1, 1, 1, 1, 1, 1, 0, 1]) := by kernel_rfl
theorem g4n11111101 : g4C [1, 1, 1, 1, 1, 1, 0, 1] = .block 5 (g4C [1, 1, 1, 1, 1, 1, 0, 1, 0]) := by kernel_rfl
theorem g4e111111 : g4X (g4C [1, 1, 1, 1, 1, 1]) (g4kr) = fun env st => g4b111111 (env 2) (env 8) st := by
  refine Eq.trans ((g4seq g4n111111 (g4e1111111)).trans (g4seq g4n1111110 ((g4blk g4n11111101).trans (g4e111111010)))) ?_
  funext env st
  kernel_rfl
noncomputable def g4k8 : Kon := kSeq (fun env st => g4b111111 (env 2) (env 8) st) (g4kr)
noncomputable def g4k9 : Kon := kBlk 3 (g4k8)
noncomputable def g4b11111010 : Nat → V → V → V → V → St → Res
| 0, _, _, _, _, _ => none
| n + 1, x2, x7, x8, x11, st =>
 A.bin .lss x11 x7 fun a1 =>
 A.cond a1
 (A.nilc x8 fun a2 =>
 A.faddr 3 a2 fun a3 =>
 A.load false 1 a3 st fun a4 z5 =>
 A.iaddr 1 a4 x11 fun a6 =>
 A.store 1 a6 (.int .i64 0) z5 fun z7 =>
 A.ret (s11 [x8.er1, x11.er1] z7) fun a8 z9 =>
 A.bin .add x11 (.int .i64 1) fun a10 =>
 (g4b11111010 n) x2 x7 x8 a10 z9)
 (g4b111111 x2 x8 st)
theorem g4n11111010 : g4C [1, 1, 1, 1, 1, 0, 1, 0] = .loop (g4C [1, 1, 1, 1, 1, 0, 1, 0, 0]) := by kernel_rfl
noncomputable def g4k10 (L11111010 : V → V → V → V → St → Res) : Kon := kSeq (fun env st => L11111010 (env 2) (env 7) (env 8) (env 11) st) (g4k9)
theorem g4e11111010 : g4X (g4C [1, 1, 1, 1, 1, 0, 1, 0]) (g4k9) = fun env st => g4b11111010 big (env 2) (env 7) (env 8) (env 11) st := by
  have key : ∀ n, aloop (g4X (g4C [1, 1, 1, 1, 1, 0, 1, 0, 0])) (g4k9) n = fun env st => g4b11111010 n (env 2) (env 7) (env 8) (env 11) st := by
    intro n
    induction n with
    | zero => rfl
    | succ n ih =>
      have h : aloop (g4X (g4C [1, 1, 1, 1, 1, 0, 1, 0, 0])) (g4k9) (n + 1) = g4X (g4C [1, 1, 1, 1, 1, 0, 1, 0, 0]) (kSeq (aloop (g4X (g4C [1, 1, 1, 1, 1, 0, 1, 0, 0])) (g4k9) n) (g4k9)) := rfl
      rw [h, ih]
      refine Eq.trans (Eq.refl _) ?_
      funext env st
      kernel_rfl
  exact (g4loop g4n11111010).trans (key big)
noncomputable def g4b1111 (x2 : V) (x7 : V) (x8 : V) (st : St) : Res :=
 A.nilc x8 fun a1 =>
 A.faddr 4 a1 fun a2 =>
 A.load false 1 a2 st fun a3 z4 =>
 A.un .not a3 fun a5 =>
 A.cond a5
 (some (.ret ((.bool false) : V).er1, z4))
 (g4b11111010 big x2 x7 x8 (.int .i64 0) z4)
theorem g4n1111 : g4C [1, 1, 1, 1] = .seq (g4C [1, 1, 1, 1, 0]) (g4C [1, 1, 1, 1, 1]) := by kernel_rfl
theorem g4n11111 : g4C [1, 1, 1, 1, 1] = .seq (g4C [1, 1, 1, 1, 1, 0]) (g4C [1, 1, 1, 1, 1, 1]) := by kernel_rfl
theorem g4n111110 : g4C [1, 1, 1, 1, 1, 0] = .seq (g4C [1, 1, 1, 1, 1, 0, 0]) (g4C [1, 1, 1, 1, 1, 0, 1]) := by kernel_rfl
theorem g4n1111101 : g4C [1, 1, 1, 1, 1, 0, 1] = .block 3 (g4C [1, 1, 1, 1, 1, 0, 1, 0]) := by kernel_rfl
theorem g4e1111 : g4X (g4C [1, 1, 1, 1]) (g4kr) = fun env st => g4b1111 (env 2) (env 7) (env 8) st := by
  refine Eq.trans (g4seq g4n1111 ((g4seq g4n11111 (g4e111111)).trans (g4seq g4n111110 ((g4blk g4n1111101).trans (g4e11111010))))) ?_
  funext env st
  kernel_rfl
noncomputable def g4k11 : Kon := kSeq (fun env st => g4b1111 (env 2) (env 7) (env 8) st) (g4kr)
noncomputable def g4k12 : Kon := kBlk 0 (g4k11)
noncomputable def g4k13 (L111010 : V → V → V → V → V → St → Res) : Kon := kSeq (fun env st => L111010 (env 1) (env 2) (env 7) (env 8) (env 9) st) (g4k12)
noncomputable def g4k14 (L111010 : V → V → V → V → V → St → Res) : Kon := kSeq (g4X (g4C [1, 1, 1, 0, 1, 0, 0, 1, 1]) (g4k13 L111010)) (g4k13 L111010)
noncomputable def g4k15 (L111010 : V → V → V → V → V → St → Res) : Kon := kBlk 1 (g4k14 L111010)
noncomputable def g4k16 (L111010 : V → V → V → V → V → St → Res) : Kon := kBlk 2 (g4k15 L111010)
noncomputable def g4b1110100100110111 (L111010 : V → V → V → V → V → St → Res) (x1 : V) (x2 : V) (x7 : V) (x8 : V) (x9 : V) (x10 : V) (x42 : V) (x55 : V) (st : St) : Res :=
 A.cond x55
 (A.bin .shr x10 (.int .u64 2) fun a1 =>
 A.bin .shr x10 (.int .u64 10) fun a2 =>
 A.bin .and a2 (.int .i64 3) fun a3 =>
 A.ret (s9 [x8.er1, a1.er1, a3.er1] st) fun a4 z5 =>
 A.bin .add x9 (.int .i64 1) fun a6 =>
 L111010 x1 x2 x7 x8 a6 z5)
 (A.eql 2 false x42 (.int .i64 2) fun a7 =>
 A.cond a7
 (A.bin .shr x10 (.int .u64 2) fun a8 =>
 A.ret (s10 [x8.er1, a8.er1] st) fun a9 z10 =>
 A.bin .add x9 (.int .i64 1) fun a11 =>
 L111010 x1 x2 x7 x8 a11 z10)
 (A.bin .add x9 (.int .i64 1) fun a12 =>
 L111010 x1 x2 x7 x8 a12 st))
theorem g4e1110100100110111 (L111010 : V → V → V → V → V → St → Res) : g4X (g4C [1, 1, 1, 0, 1, 0, 0, 1, 0, 0, 1, 1, 0, 1, 1, 1]) (g4k16 L111010) = fun env st => g4b1110100100110111 L111010 (env 1) (env 2) (env 7) (env 8) (env 9) (env 10) (env 42) (env 55) st := by
  refine Eq.trans (Eq.refl (g4X (g4C [1, 1, 1, 0, 1, 0, 0, 1, 0, 0, 1, 1, 0, 1, 1, 1]) (g4k16 L111010))) ?_
  funext env st
  kernel_rfl
noncomputable def g4b11101001 (L111010 : V → V → V → V → V → St → Res) (x1 : V) (x2 : V) (x7 : V) (x8 : V) (x9 : V) (st : St) : Res :=
 A.iaddr 1 x1 x9 fun a1 =>
 A.load false 1 a1 st fun a2 z3 =>
 A.bin .and a2 (.int .i64 65535) fun a4 =>
 A.bin .and a4 (.int .i64 3) fun a5 =>
 A.eql 2 false a5 (.int .i64 0) fun a6 =>
 A.cond a6
 (A.bin .shr a4 (.int .u64 2) fun a7 =>
 A.bin .rem a7 x7 fun a8 =>
 A.bin .shr a4 (.int .u64 5) fun a9 =>
 A.bin .rem a9 x7 fun a10 =>
 A.noP (A.ret (s8 [x8.er1, a8.er1, a10.er1] z3) kid) fun a11 z12 =>
 A.bin .add x9 (.int .i64 1) fun a13 =>
 L111010 x1 x2 x7 x8 a13 z12)
 (A.eql 2 false a5 (.int .i64 1) fun a14 =>
 g4b1110100100110111 L111010 x1 x2 x7 x8 x9 a4 a5 a14 z3)
theorem g4n11101001 : g4C [1, 1, 1, 0, 1, 0, 0, 1] = .seq (g4C [1, 1, 1, 0, 1, 0, 0, 1, 0]) (g4C [1, 1, 1, 0, 1, 0, 0, 1, 1]) := by kernel_rfl
theorem g4n111010010 : g4C [1, 1, 1, 0, 1, 0, 0, 1, 0] = .block 1 (g4C [1, 1, 1, 0, 1, 0, 0, 1, 0, 0]) := by kernel_rfl
theorem g4n1110100100 : g4C [1, 1, 1, 0, 1, 0, 0, 1, 0, 0] = .seq (g4C [1, 1, 1, 0, 1, 0, 0, 1, 0, 0, 0]) (g4C [1, 1, 1, 0, 1, 0, 0, 1, 0, 0, 1]) := by kernel_rfl
theorem g4n11101001001 : g4C [1, 1, 1, 0, 1, 0, 0, 1, 0, 0, 1] = .seq (g4C [1, 1, 1, 0, 1, 0, 0, 1, 0, 0, 1, 0]) (g4C [1, 1, 1, 0, 1, 0, 0, 1, 0, 0, 1, 1]) := by kernel_rfl
theorem g4n111010010011 : g4C [1, 1, 1, 0, 1, 0, 0, 1, 0, 0, 1, 1] = .block 2 (g4C [1, 1, 1, 0, 1, 0, 0, 1, 0, 0, 1, 1, 0]) := by kernel_rfl
theorem g4n1110100100110 : g4C [1, 1, 1, 0, 1, 0, 0, 1, 0, 0, 1, 1, 0] = .seq (g4C [1, 1, 1, 0, 1, 0, 0, 1, 0, 0, 1, 1, 0, 0]) (g4C [1, 1, 1, 0, 1, 0, 0, 1, 0, 0, 1, 1, 0, 1]) := by kernel_rfl
theorem g4n11101001001101 : g4C [1, 1, 1, 0, 1, 0, 0, 1, 0, 0, 1, 1, 0, 1] = .cond (.tmp 43) (g4C [1, 1, 1, 0, 1, 0, 0, 1, 0, 0, 1, 1, 0, 1, 0]) (g4C [1, 1, 1, 0, 1, 0, 0, 1, 0, 0, 1, 1, 0, 1, 1]) := by kernel_rfl
theorem g4n111010010011011 : g4C [1, 1, 1, 0, 1, 0, 0, 1, 0, 0, 1, 1, 0, 1, 1] = .seq (g4C [1, 1, 1, 0, 1, 0, 0, 1, 0, 0, 1, 1, 0, 1, 1, 0]) (g4C [1, 1, 1, 0, 1, 0, 0, 1, 0, 0, 1, 1, 0, 1, 1, 1]) := by kernel_rfl
theorem g4e11101001 (L111010 : V → V → V → V → V → St → Res) : g4X (g4C [1, 1, 1, 0, 1, 0, 0, 1]) (g4k13 L111010) = fun env st => g4b11101001 L111010 (env 1) (env 2) (env 7) (env 8) (env 9) st := by
  refine Eq.trans ((g4seq g4n11101001 rfl).trans ((g4blk g4n111010010).trans (g4seq g4n1110100100 (g4seq g4n11101001001 ((g4blk g4n111010010011).trans (g4seq g4n1110100100110 (g4cond g4n11101001001101 rfl (g4seq g4n111010010011011 (g4e1110100100110111 L111010))))))))) ?_
  funext env st
  kernel_rfl
noncomputable def g4b111010 : Nat → V → V → V → V → V → St → Res
| 0, _, _, _, _, _, _ => none
| n + 1, x1, x2, x7, x8, x9, st =>
 A.lenL x1 fun a1 =>
 A.bin .lss x9 a1 fun a2 =>
 A.guard a2 true
 (A.bin .lss x9 (.int .i64 200) fun a3 =>
 A.guard a3 true
 (A.nilc x8 fun a4 =>
 A.faddr 4 a4 fun a5 =>
 A.load false 1 a5 st fun a6 z7 =>
 A.cond a6
 (g4b11101001 (g4b111010 n) x1 x2 x7 x8 x9 z7)
 (g4b1111 x2 x7 x8 z7))
 (g4b1111 x2 x7 x8 st))
 (g4b1111 x2 x7 x8 st)
theorem g4n111010 : g4C [1, 1, 1, 0, 1, 0] = .loop (g4C [1, 1, 1, 0, 1, 0, 0]) := by kernel_rfl
theorem g4n1110100 : g4C [1, 1, 1, 0, 1, 0, 0] = .seq (g4C [1, 1, 1, 0, 1, 0, 0, 0]) (g4C [1, 1, 1, 0, 1, 0, 0, 1]) := by kernel_rfl
theorem g4e111010 : g4X (g4C [1, 1, 1, 0, 1, 0]) (g4k12) = fun env st => g4b111010 big (env 1) (env 2) (env 7) (env 8) (env 9) st := by
  have key : ∀ n, aloop (g4X (g4C [1, 1, 1, 0, 1, 0, 0])) (g4k12) n = fun env st => g4b111010 n (env 1) (env 2) (env 7) (env 8) (env 9) st := by
    intro n
    induction n with
    | zero => rfl
    | succ n ih =>
      have h : aloop (g4X (g4C [1, 1, 1, 0, 1, 0, 0])) (g4k12) (n + 1) = g4X (g4C [1, 1, 1, 0, 1, 0, 0]) (kSeq (aloop (g4X (g4C [1, 1, 1, 0, 1, 0, 0])) (g4k12) n) (g4k12)) := rfl
      rw [h, ih]
      refine Eq.trans (g4seq g4n1110100 (g4e11101001 (g4b111010 n))) ?_
      funext env st
      kernel_rfl
  exact (g4loop g4n111010).trans (key big)
noncomputable def f4 (x0 : V) (x1 : V) (x2 : V) (st : St) : Res :=
 A.bin .and x0 (.int .i64 65535) fun a1 =>
 A.bin .rem a1 (.int .i64 6) fun a2 =>
 A.bin .add (.int .i64 1) a2 fun a3 =>
 A.ret (s7 [a3.er1, ((.int .i64 3) : V).er1] st) fun a4 z5 =>
 g4b111010 big x1 x2 a3 a4 (.int .i64 0) z5
theorem g4nr : g4C [] = .seq (g4C [0]) (g4C [1]) := by kernel_rfl
theorem g4n1 : g4C [1] = .seq (g4C [1, 0]) (g4C [1, 1]) := by kernel_rfl
theorem g4n11 : g4C [1, 1] = .seq (g4C [1, 1, 0]) (g4C [1, 1, 1]) := by kernel_rfl
theorem g4n111 : g4C [1, 1, 1] = .seq (g4C [1, 1, 1, 0]) (g4C [1, 1, 1, 1]) := by kernel_rfl
theorem g4n1110 : g4C [1, 1, 1, 0] = .seq (g4C [1, 1, 1, 0, 0]) (g4C [1, 1, 1, 0, 1]) := by kernel_rfl
theorem g4n11101 : g4C [1, 1, 1, 0, 1] = .block 0 (g4C [1, 1, 1, 0, 1, 0]) := by kernel_rfl
theorem g4er (env : Env) (st : St) : g4X (g4C []) g4kr env st = f4 (env 0) (env 1) (env 2) st := by
  rw [(g4seq g4nr (g4seq g4n1 (g4seq g4n11 ((g4seq g4n111 (g4e1111)).trans (g4seq g4n1110 ((g4blk g4n11101).trans (g4e111010)))))))]
  kernel_rfl
theorem s4_eq (x0 : V) (x1 : V) (x2 : V) (st : St) : s4 [x0, x1, x2] st = f4 x0 x1 x2 st := by
  have h : afn Try.prog g4mu g4T big (areg Try.prog g4mu g4T) 4 [x0, x1, x2] st = g4X (g4C []) g4kr (fun t => [x0, x1, x2].getD t (.tup [])) st := by kernel_rfl
  rw [s4, sealF_eq]
  exact h.trans (g4er _ st)
end Go.Ab
