import Derived.Test.YtimicmlpaaohoaaAbQuiet
import Derived.Test.YtimicmlpaaohoaaAbP151
namespace Go.Ab
open Go.Proofs
set_option linter.unusedVariables false
set_option maxRecDepth 100000
/-! sinew/wire.Pack -/
def g30mu : Nat → Bool := fun _ => false
noncomputable def g30T : Tbl := tget [(41, s41), (42, s42), (43, s43)]
theorem g30t : SimT Try.prog g30T := simT_cons sim41 ( simT_cons sim42 ( simT_cons sim43 (simT_nil)))
noncomputable def s30 : Fn := sealF (fun args st => fg (afn Try.prog g30mu g30T big (areg Try.prog g30mu g30T) 30 args st) st)
theorem sim30 : Sim Try.prog 30 s30 := (afn_sim g30t (fun m => areg_sound g30t hmix m) 30 (by kernel_rfl)).fg.sealed
noncomputable def g30C (p : List Nat) : Code := sub (match Try.f30.body with | some c => c | none => .skip) p
noncomputable def g30X (c : Code) (K : Kon) : Env → St → Res := aexec Try.prog g30mu g30T big 23 (areg Try.prog g30mu g30T 23) c K
noncomputable def g30kr : Kon := aresK Try.prog Try.f30.results.toList
theorem g30reg {c : Code} {K : Kon} {G : Env → St → Res} {id : Nat} {ops : Array Oper} {l1 l2 : List Nat} (hc : c = .region id ops false) (hl : List.range ops.size = l1 ++ l2) (h : (fun env st => aops Try.prog g30mu g30T 23 ops l2 env st (K .normal)) = G) : g30X c K = fun env st => aops Try.prog g30mu g30T 23 ops l1 env st G := reg_cut hc hl h
theorem g30seq {c x y : Code} {K : Kon} {G : Env → St → Res} (hc : c = .seq x y) (hy : g30X y K = G) : g30X c K = g30X x (kSeq G K) := seq_cut hc hy
theorem g30blk {c x : Code} {K : Kon} {i : Nat} (hc : c = .block i x) : g30X c K = g30X x (kBlk i K) := blk_cut hc
theorem g30loop {c x : Code} {K : Kon} (hc : c = .loop x) : g30X c K = aloop (g30X x) K big := loop_cut hc
theorem g30cond {c x y : Code} {K : Kon} {v : Operand} {F G : Env → St → Res} (hc : c = .cond v x y) (hx : g30X x K = F) (hy : g30X y K = G) : g30X c K = condF v F G := cond_cut hc hx hy
noncomputable def g30b111 (x4 : V) (st : St) : Res :=
 A.lenS x4 fun a1 =>
 A.ret (s42 [a1.er1] st) fun a2 z3 =>
 A.ret (s43 [x4.er1] z3) fun a4 z5 =>
 A.ret (s42 [a4.er1] z5) fun a6 z7 =>
 A.bin .add a2 a6 fun a8 =>
 A.bin .add a8 x4 fun a9 =>
 some (.ret (.tup [a9.er1, ((.int .i64 0) : V).er1]), z7)
theorem g30e111 : g30X (g30C [1, 1, 1]) (g30kr) = fun env st => g30b111 (env 4) st := by
  refine Eq.trans (Eq.refl (g30X (g30C [1, 1, 1]) (g30kr))) ?_
  funext env st
  kernel_rfl
noncomputable def f30 (x0 : V) (st : St) : Res :=
 A.box x0 st fun a1 z2 =>
 A.load true 4 a1 z2 fun a3 z4 =>
 A.ret (s41 [a3.er1] z4) fun a5 z6 =>
 A.ext a5 0 fun a7 =>
 A.ext a5 1 fun a8 =>
 A.eql 2 true a8 (.int .i64 0) fun a9 =>
 A.cond a9
 (some (.ret (.tup [((.str []) : V).er1, a8.er1]), z6))
 (g30b111 a7 z6)
theorem g30nr : g30C [] = .seq (g30C [0]) (g30C [1]) := by kernel_rfl
theorem g30n1 : g30C [1] = .seq (g30C [1, 0]) (g30C [1, 1]) := by kernel_rfl
theorem g30n11 : g30C [1, 1] = .seq (g30C [1, 1, 0]) (g30C [1, 1, 1]) := by kernel_rfl
theorem g30er (env : Env) (st : St) : g30X (g30C []) g30kr env st = f30 (env 0) st := by
  rw [(g30seq g30nr (g30seq g30n1 (g30seq g30n11 (g30e111))))]
  kernel_rfl
theorem s30_eq (x0 : V) (st : St) : s30 [x0] st = fg (f30 x0 st) st := by
  have h : afn Try.prog g30mu g30T big (areg Try.prog g30mu g30T) 30 [x0] st = g30X (g30C []) g30kr (fun t => [x0].getD t (.tup [])) st := by kernel_rfl
  rw [s30, sealF_eq]
  show fg _ st = fg _ st
  refine congrArg (fun r => fg r st) ?_
  exact h.trans (g30er _ st)
/-! (*sinew/link.Link).given -/
def g31mu : Nat → Bool := fun _ => false
noncomputable def g31T : Tbl := tget []
theorem g31t : SimT Try.prog g31T := simT_nil
noncomputable def s31 : Fn := sealF (afn Try.prog g31mu g31T big (areg Try.prog g31mu g31T) 31)
theorem sim31 : Sim Try.prog 31 s31 := (afn_sim g31t (fun m => areg_sound g31t hmix m) 31 (by kernel_rfl)).sealed
noncomputable def f31 (x0 : V) (st : St) : Res :=
 A.eql 4 true x0 .ptr0 fun a1 =>
 A.guard a1 true
 (A.nilc x0 fun a2 =>
 A.faddr 0 a2 fun a3 =>
 A.load false 1 a3 st fun a4 z5 =>
 A.bin .gtr a4 (.int .i64 0) fun a6 =>
 some (.ret a6.er1, z5))
 (some (.ret ((.bool false) : V).er1, st))
theorem s31_eq (x0 : V) (st : St) : s31 [x0] st = f31 x0 st := by
  rw [s31, sealF_eq]
  kernel_rfl
/-! sinew/link.packet -/
def g44mu : Nat → Bool := fun _ => false
noncomputable def g44T : Tbl := tget [(30, s30)]
theorem g44t : SimT Try.prog g44T := simT_cons sim30 (simT_nil)
noncomputable def s44 : Fn := sealF (fun args st => fg (afn Try.prog g44mu g44T big (areg Try.prog g44mu g44T) 44 args st) st)
theorem sim44 : Sim Try.prog 44 s44 := (afn_sim g44t (fun m => areg_sound g44t hmix m) 44 (by kernel_rfl)).fg.sealed
noncomputable def f44 (x0 : V) (st : St) : Res :=
 A.box x0 st fun a1 z2 =>
 A.load true 4 a1 z2 fun a3 z4 =>
 A.ret (s30 [a3.er1] z4) fun a5 z6 =>
 A.ext a5 0 fun a7 =>
 A.ext a5 1 fun a8 =>
 some (.ret a7.er1, z6)
theorem s44_eq (x0 : V) (st : St) : s44 [x0] st = fg (f44 x0 st) st := by
  rw [s44, sealF_eq]
  show fg _ st = fg _ st
  refine congrArg (fun r => fg r st) ?_
  kernel_rfl
/-! (*sinew/link.Link).at -/
def g32mu : Nat → Bool := fun _ => false
noncomputable def g32T : Tbl := tget [(44, s44)]
theorem g32t : SimT Try.prog g32T := simT_cons sim44 (simT_nil)
noncomputable def s32 : Fn := sealF (fun args st => fg (afn Try.prog g32mu g32T big (areg Try.prog g32mu g32T) 32 args st) st)
theorem sim32 : Sim Try.prog 32 s32 := (afn_sim g32t (fun m => areg_sound g32t hmix m) 32 (by kernel_rfl)).fg.sealed
noncomputable def f32 (x0 : V) (x1 : V) (st : St) : Res :=
 A.nilc x0 fun a1 =>
 A.faddr 0 a1 fun a2 =>
 A.load false 1 a2 st fun a3 _ =>
 A.nilc x0 fun a4 =>
 A.faddr 1 a4 fun a5 =>
 A.load false 1 a5 st fun a6 _ =>
 A.nilc x0 fun a7 =>
 A.faddr 2 a7 fun a8 =>
 A.load false 1 a8 st fun a9 _ =>
 A.bin .add a9 x1 fun a10 =>
 A.nilc x0 fun a11 =>
 A.faddr 3 a11 fun a12 =>
 A.load false 1 a12 st fun a13 _ =>
 A.bslice 1 (.int .i64 0) 4 [(0, a3), (1, a6), (2, a10), (3, a13)] fun a14 =>
 A.nilc x0 fun a15 =>
 A.faddr 4 a15 fun a16 =>
 A.load false 1 a16 st fun a17 _ =>
 A.iaddr 1 a17 x1 fun a18 =>
 A.load false 1 a18 st fun a19 _ =>
 A.bslice 1 (.str []) 1 [(0, a19)] fun a20 =>
 A.build [(.int .i64 0), (.lst [] 1), (.lst [] 1), (.lst [] 1)] [(0, 1, (.int .i64 1)), (1, 1, a14), (2, 1, a20)] fun a21 =>
 A.noP (A.ret (s44 [a21.er1] st) kid) fun a22 z23 =>
 some (.ret a22.er1, z23)
theorem s32_eq (x0 : V) (x1 : V) (st : St) : s32 [x0, x1] st = fg (f32 x0 x1 st) st := by
  rw [s32, sealF_eq]
  show fg _ st = fg _ st
  refine congrArg (fun r => fg r st) ?_
  kernel_rfl
/-! (*sinew/link.Link).Put -/
def g13mu : Nat → Bool := fun _ => false
noncomputable def g13T : Tbl := tget [(30, s30), (31, s31), (32, s32)]
theorem g13t : SimT Try.prog g13T := simT_cons sim30 ( simT_cons sim31 ( simT_cons sim32 (simT_nil)))
noncomputable def s13 : Fn := sealF (afn Try.prog g13mu g13T big (areg Try.prog g13mu g13T) 13)
theorem sim13 : Sim Try.prog 13 s13 := (afn_sim g13t (fun m => areg_sound g13t hmix m) 13 (by kernel_rfl)).sealed
noncomputable def g13C (p : List Nat) : Code := sub (match Try.f13.body with | some c => c | none => .skip) p
noncomputable def g13X (c : Code) (K : Kon) : Env → St → Res := aexec Try.prog g13mu g13T big 58 (areg Try.prog g13mu g13T 58) c K
noncomputable def g13kr : Kon := aresK Try.prog Try.f13.results.toList
theorem g13reg {c : Code} {K : Kon} {G : Env → St → Res} {id : Nat} {ops : Array Oper} {l1 l2 : List Nat} (hc : c = .region id ops false) (hl : List.range ops.size = l1 ++ l2) (h : (fun env st => aops Try.prog g13mu g13T 58 ops l2 env st (K .normal)) = G) : g13X c K = fun env st => aops Try.prog g13mu g13T 58 ops l1 env st G := reg_cut hc hl h
theorem g13seq {c x y : Code} {K : Kon} {G : Env → St → Res} (hc : c = .seq x y) (hy : g13X y K = G) : g13X c K = g13X x (kSeq G K) := seq_cut hc hy
theorem g13blk {c x : Code} {K : Kon} {i : Nat} (hc : c = .block i x) : g13X c K = g13X x (kBlk i K) := blk_cut hc
theorem g13loop {c x : Code} {K : Kon} (hc : c = .loop x) : g13X c K = aloop (g13X x) K big := loop_cut hc
theorem g13cond {c x y : Code} {K : Kon} {v : Operand} {F G : Env → St → Res} (hc : c = .cond v x y) (hx : g13X x K = F) (hy : g13X y K = G) : g13X c K = condF v F G := cond_cut hc hx hy
noncomputable def g13b1111 (x0 : V) (st : St) : Res :=
 A.nilc x0 fun a1 =>
 A.faddr 4 a1 fun a2 =>
 A.load false 1 a2 st fun a3 z4 =>
 A.lenL a3 fun a5 =>
 A.bin .gtr a5 (.int .i64 64) fun a6 =>
 A.cond a6
 (some (.ret (.tup [((.lst [] 1) : V).er1, ((.int .i64 0) : V).er1]), z4))
 (A.nilc x0 fun a7 =>
 A.faddr 4 a7 fun a8 =>
 A.load false 1 a8 z4 fun a9 z10 =>
 A.lenL a9 fun a11 =>
 A.bin .sub a11 (.int .i64 1) fun a12 =>
 A.ret (s32 [x0.er1, a12.er1] z10) fun a13 z14 =>
 A.bslice 1 (.str []) 1 [(0, a13)] fun a15 =>
 some (.ret (.tup [a15.er1, ((.int .i64 0) : V).er1]), z14))
theorem g13e1111 : g13X (g13C [1, 1, 1, 1]) (g13kr) = fun env st => g13b1111 (env 0) st := by
  refine Eq.trans (Eq.refl (g13X (g13C [1, 1, 1, 1]) (g13kr))) ?_
  funext env st
  kernel_rfl
noncomputable def g13b111 (x0 : V) (x6 : V) (st : St) : Res :=
 A.nilc x0 fun a1 =>
 A.faddr 4 a1 fun a2 =>
 A.load false 1 a2 st fun a3 z4 =>
 A.bslice 1 (.str []) 1 [(0, x6)] fun a5 =>
 A.app 1 a3 (elemsOf 5 1 a5 z4) z4 fun a6 z7 =>
 A.nilc x0 fun a8 =>
 A.faddr 4 a8 fun a9 =>
 A.store 1 a9 a6 z7 fun z10 =>
 g13b1111 x0 z10
theorem g13n111 : g13C [1, 1, 1] = .seq (g13C [1, 1, 1, 0]) (g13C [1, 1, 1, 1]) := by kernel_rfl
theorem g13e111 : g13X (g13C [1, 1, 1]) (g13kr) = fun env st => g13b111 (env 0) (env 6) st := by
  refine Eq.trans (g13seq g13n111 (g13e1111)) ?_
  funext env st
  kernel_rfl
noncomputable def g13k0 : Kon := kSeq (fun env st => g13b111 (env 0) (env 6) st) (g13kr)
noncomputable def g13k1 : Kon := kBlk 0 (g13k0)
noncomputable def g13b11001 (x0 : V) (x6 : V) (x13 : V) (st : St) : Res :=
 A.cond x13
 (some (.ret (.tup [((.lst [] 1) : V).er1, ((.int .i64 1) : V).er1]), st))
 (A.nilc x0 fun a1 =>
 A.faddr 4 a1 fun a2 =>
 A.load false 1 a2 st fun a3 z4 =>
 A.lenL a3 fun a5 =>
 A.bin .geq a5 (.int .i64 4096) fun a6 =>
 A.cond a6
 (some (.ret (.tup [((.lst [] 1) : V).er1, ((.int .i64 2) : V).er1]), z4))
 (g13b111 x0 x6 z4))
theorem g13e11001 : g13X (g13C [1, 1, 0, 0, 1]) (g13k1) = fun env st => g13b11001 (env 0) (env 6) (env 13) st := by
  refine Eq.trans (Eq.refl (g13X (g13C [1, 1, 0, 0, 1]) (g13k1))) ?_
  funext env st
  kernel_rfl
noncomputable def f13 (x0 : V) (x1 : V) (st : St) : Res :=
 A.box x1 st fun a1 z2 =>
 A.load true 4 a1 z2 fun a3 z4 =>
 A.ret (s30 [a3.er1] z4) fun a5 z6 =>
 A.ext a5 0 fun a7 =>
 A.ext a5 1 fun a8 =>
 A.ret (s31 [x0.er1] z6) fun a9 z10 =>
 A.un .not a9 fun a11 =>
 A.guard a11 false
 (A.eql 2 true a8 (.int .i64 0) fun a12 =>
 A.guard a12 false
 (A.lenS a7 fun a13 =>
 A.bin .gtr a13 (.int .i64 32768) fun a14 =>
 g13b11001 x0 a7 a14 z10)
 (g13b11001 x0 a7 (.bool true) z10))
 (g13b11001 x0 a7 (.bool true) z10)
theorem g13nr : g13C [] = .seq (g13C [0]) (g13C [1]) := by kernel_rfl
theorem g13n1 : g13C [1] = .seq (g13C [1, 0]) (g13C [1, 1]) := by kernel_rfl
theorem g13n11 : g13C [1, 1] = .seq (g13C [1, 1, 0]) (g13C [1, 1, 1]) := by kernel_rfl
theorem g13n110 : g13C [1, 1, 0] = .block 0 (g13C [1, 1, 0, 0]) := by kernel_rfl
theorem g13n1100 : g13C [1, 1, 0, 0] = .seq (g13C [1, 1, 0, 0, 0]) (g13C [1, 1, 0, 0, 1]) := by kernel_rfl
theorem g13er (env : Env) (st : St) : g13X (g13C []) g13kr env st = f13 (env 0) (env 1) st := by
  rw [(g13seq g13nr (g13seq g13n1 ((g13seq g13n11 (g13e111)).trans ((g13blk g13n110).trans (g13seq g13n1100 (g13e11001))))))]
  kernel_rfl
theorem s13_eq (x0 : V) (x1 : V) (st : St) : s13 [x0, x1] st = f13 x0 x1 st := by
  have h : afn Try.prog g13mu g13T big (areg Try.prog g13mu g13T) 13 [x0, x1] st = g13X (g13C []) g13kr (fun t => [x0, x1].getD t (.tup [])) st := by kernel_rfl
  rw [s13, sealF_eq]
  exact h.trans (g13er _ st)
/-! sinew/wire.ofFour -/
def g75mu : Nat → Bool := fun _ => false
noncomputable def g75T : Tbl := tget []
theorem g75t : SimT Try.prog g75T := simT_nil
noncomputable def s75 : Fn := sealF (afn Try.prog g75mu g75T big (areg Try.prog g75mu g75T) 75)
theorem sim75 : Sim Try.prog 75 s75 := (afn_sim g75t (fun m => areg_sound g75t hmix m) 75 (by kernel_rfl)).sealed
noncomputable def f75 (x0 : V) (st : St) : Res :=
 A.idxS x0 (.int .i64 0) fun a1 =>
 A.toInt .i64 a1 fun a2 =>
 A.bin .shl a2 (.int .u64 24) fun a3 =>
 A.idxS x0 (.int .i64 1) fun a4 =>
 A.toInt .i64 a4 fun a5 =>
 A.bin .shl a5 (.int .u64 16) fun a6 =>
 A.bin .or a3 a6 fun a7 =>
 A.idxS x0 (.int .i64 2) fun a8 =>
 A.toInt .i64 a8 fun a9 =>
 A.bin .shl a9 (.int .u64 8) fun a10 =>
 A.bin .or a7 a10 fun a11 =>
 A.idxS x0 (.int .i64 3) fun a12 =>
 A.toInt .i64 a12 fun a13 =>
 A.bin .or a11 a13 fun a14 =>
 some (.ret a14.er1, st)
theorem s75_eq (x0 : V) (st : St) : s75 [x0] st = f75 x0 st := by
  rw [s75, sealF_eq]
  kernel_rfl
/-! sinew/octet.Num -/
def g83mu : Nat → Bool := fun _ => false
noncomputable def g83T : Tbl := tget []
theorem g83t : SimT Try.prog g83T := simT_nil
noncomputable def s83 : Fn := sealF (afn Try.prog g83mu g83T big (areg Try.prog g83mu g83T) 83)
theorem sim83 : Sim Try.prog 83 s83 := (afn_sim g83t (fun m => areg_sound g83t hmix m) 83 (by kernel_rfl)).sealed
noncomputable def g83C (p : List Nat) : Code := sub (match Try.f83.body with | some c => c | none => .skip) p
noncomputable def g83X (c : Code) (K : Kon) : Env → St → Res := aexec Try.prog g83mu g83T big 56 (areg Try.prog g83mu g83T 56) c K
noncomputable def g83kr : Kon := aresK Try.prog Try.f83.results.toList
theorem g83reg {c : Code} {K : Kon} {G : Env → St → Res} {id : Nat} {ops : Array Oper} {l1 l2 : List Nat} (hc : c = .region id ops false) (hl : List.range ops.size = l1 ++ l2) (h : (fun env st => aops Try.prog g83mu g83T 56 ops l2 env st (K .normal)) = G) : g83X c K = fun env st => aops Try.prog g83mu g83T 56 ops l1 env st G := reg_cut hc hl h
theorem g83seq {c x y : Code} {K : Kon} {G : Env → St → Res} (hc : c = .seq x y) (hy : g83X y K = G) : g83X c K = g83X x (kSeq G K) := seq_cut hc hy
theorem g83blk {c x : Code} {K : Kon} {i : Nat} (hc : c = .block i x) : g83X c K = g83X x (kBlk i K) := blk_cut hc
theorem g83loop {c x : Code} {K : Kon} (hc : c = .loop x) : g83X c K = aloop (g83X x) K big := loop_cut hc
theorem g83cond {c x y : Code} {K : Kon} {v : Operand} {F G : Env → St → Res} (hc : c = .cond v x y) (hx : g83X x K = F) (hy : g83X y K = G) : g83X c K = condF v F G := cond_cut hc hx hy
noncomputable def g83k0 : Kon := kSeq (g83X (g83C [1, 1, 1, 1, 1]) (g83kr)) (g83kr)
noncomputable def g83k1 : Kon := kBlk 1 (g83k0)
noncomputable def g83bz6y : Nat → V → V → V → V → V → St → Res
| 0, _, _, _, _, _, _ => none
| n + 1, x0, x2, x5, x40, x41, st =>
 A.bin .lss x41 x40 fun a1 =>
 A.cond a1
 (A.bin .shl x2 (.int .u64 8) fun a2 =>
 A.bin .add x41 (.int .i64 1) fun a3 =>
 A.idxS x0 a3 fun a4 =>
 A.toInt .i64 a4 fun a5 =>
 A.bin .or a2 a5 fun a6 =>
 A.bin .add x41 (.int .i64 1) fun a7 =>
 (g83bz6y n) x0 a6 x5 x40 a7 st)
 (A.bin .add x5 (.int .i64 1) fun a8 =>
 some (.ret (.tup [x2.er1, a8.er1, ((.int .i64 0) : V).er1]), st))
theorem g83nz6y : g83C [1, 1, 1, 1, 0, 1, 0] = .loop (g83C [1, 1, 1, 1, 0, 1, 0, 0]) := by kernel_rfl
noncomputable def g83k2 (Lz6y : V → V → V → V → V → St → Res) : Kon := kSeq (fun env st => Lz6y (env 0) (env 2) (env 5) (env 40) (env 41) st) (g83k1)
theorem g83ez6y : g83X (g83C [1, 1, 1, 1, 0, 1, 0]) (g83k1) = fun env st => g83bz6y big (env 0) (env 2) (env 5) (env 40) (env 41) st := by
  have key : ∀ n, aloop (g83X (g83C [1, 1, 1, 1, 0, 1, 0, 0])) (g83k1) n = fun env st => g83bz6y n (env 0) (env 2) (env 5) (env 40) (env 41) st := by
    intro n
    induction n with
    | zero => rfl
    | succ n ih =>
      have h : aloop (g83X (g83C [1, 1, 1, 1, 0, 1, 0, 0])) (g83k1) (n + 1) = g83X (g83C [1, 1, 1, 1, 0, 1, 0, 0]) (kSeq (aloop (g83X (g83C [1, 1, 1, 1, 0, 1, 0, 0])) (g83k1) n) (g83k1)) := rfl
      rw [h, ih]
      refine Eq.trans (Eq.refl _) ?_
      funext env st
      kernel_rfl
  exact (g83loop g83nz6y).trans (key big)
noncomputable def g83b1111 (x0 : V) (x2 : V) (x5 : V) (st : St) : Res :=
 g83bz6y big x0 x2 x5 x5 (.int .i64 0) st
theorem g83n1111 : g83C [1, 1, 1, 1] = .seq (g83C [1, 1, 1, 1, 0]) (g83C [1, 1, 1, 1, 1]) := by kernel_rfl
theorem g83n11110 : g83C [1, 1, 1, 1, 0] = .seq (g83C [1, 1, 1, 1, 0, 0]) (g83C [1, 1, 1, 1, 0, 1]) := by kernel_rfl
theorem g83nz3h : g83C [1, 1, 1, 1, 0, 1] = .block 1 (g83C [1, 1, 1, 1, 0, 1, 0]) := by kernel_rfl
theorem g83e1111 : g83X (g83C [1, 1, 1, 1]) (g83kr) = fun env st => g83b1111 (env 0) (env 2) (env 5) st := by
  refine Eq.trans ((g83seq g83n1111 rfl).trans (g83seq g83n11110 ((g83blk g83nz3h).trans (g83ez6y)))) ?_
  funext env st
  kernel_rfl
noncomputable def g83k3 : Kon := kSeq (fun env st => g83b1111 (env 0) (env 2) (env 5) st) (g83kr)
noncomputable def g83k4 : Kon := kSeq (g83X (g83C [1, 1, 1, 0, 1]) (g83k3)) (g83k3)
noncomputable def g83b11100_8 (x0 : V) (x2 : V) (x5 : V) (x31 : V) (st : St) : Res :=
 A.guard x31 false
 (A.eql 2 false x5 (.int .i64 8) fun a1 =>
 A.guardT a1 true
 (A.idxS x0 (.int .i64 1) fun a2 =>
 A.bin .geq a2 (.int .u8 128) fun a3 =>
 A.cond a3
 (some (.ret (.tup [((.int .i64 0) : V).er1, ((.int .i64 0) : V).er1, ((.int .i64 10) : V).er1]), st))
 (g83b1111 x0 x2 x5 st))
 (g83b1111 x0 x2 x5 st)
 (A.guardT a1 true
 (A.idxS (.tup []) (.int .i64 1) fun a4 =>
 A.bin .geq a4 (.int .u8 128) fun a5 =>
 A.cond a5
 (some (.ret (.tup [((.int .i64 0) : V).er1, ((.int .i64 0) : V).er1, ((.int .i64 10) : V).er1]), st))
 (g83b1111 x0 x2 x5 st))
 (g83b1111 x0 x2 x5 st)
 (A.guardT a1 true
 (A.bin .geq (.tup []) (.int .u8 128) fun a6 =>
 A.cond a6
 (some (.ret (.tup [((.int .i64 0) : V).er1, ((.int .i64 0) : V).er1, ((.int .i64 10) : V).er1]), st))
 (g83b1111 x0 x2 x5 st))
 (g83b1111 x0 x2 x5 st)
 (A.pick a1 (.tup []) (.bool false) fun a7 =>
 A.cond a7
 (some (.ret (.tup [((.int .i64 0) : V).er1, ((.int .i64 0) : V).er1, ((.int .i64 10) : V).er1]), st))
 (g83b1111 x0 x2 x5 st)))))
 (some (.ret (.tup [((.int .i64 0) : V).er1, ((.int .i64 0) : V).er1, ((.int .i64 10) : V).er1]), st))
theorem g83e11100_8 : (fun env st => aops Try.prog g83mu g83T 56 (rops (g83C [1, 1, 1, 0, 0])) [8, 9, 10, 11, 12, 13, 14, 15] env st ((g83k4) .normal)) = fun env st => g83b11100_8 (env 0) (env 2) (env 5) (env 31) st := by
  refine Eq.trans (Eq.refl _) ?_
  funext env st
  kernel_rfl
noncomputable def g83b11 (x0 : V) (x2 : V) (st : St) : Res :=
 A.idxS x0 (.int .i64 0) fun a1 =>
 A.toInt .i64 a1 fun a2 =>
 A.bin .gtr a2 (.int .i64 0) fun a3 =>
 A.guard a3 true
 (A.idxS x0 (.int .i64 1) fun a4 =>
 A.eql 2 false a4 (.int .u8 0) fun a5 =>
 g83b11100_8 x0 x2 a2 a5 st)
 (g83b11100_8 x0 x2 a2 (.bool false) st)
theorem g83n11 : g83C [1, 1] = .seq (g83C [1, 1, 0]) (g83C [1, 1, 1]) := by kernel_rfl
theorem g83n111 : g83C [1, 1, 1] = .seq (g83C [1, 1, 1, 0]) (g83C [1, 1, 1, 1]) := by kernel_rfl
theorem g83n1110 : g83C [1, 1, 1, 0] = .seq (g83C [1, 1, 1, 0, 0]) (g83C [1, 1, 1, 0, 1]) := by kernel_rfl
theorem g83rg11100 : g83C [1, 1, 1, 0, 0] = .region 8 (rops (g83C [1, 1, 1, 0, 0])) false := by kernel_rfl
theorem g83rg11100l : List.range (rops (g83C [1, 1, 1, 0, 0])).size = [0, 1, 2, 3, 4, 5, 6, 7] ++ [8, 9, 10, 11, 12, 13, 14, 15] := by kernel_rfl
theorem g83e11 : g83X (g83C [1, 1]) (g83kr) = fun env st => g83b11 (env 0) (env 2) st := by
  refine Eq.trans (g83seq g83n11 ((g83seq g83n111 (g83e1111)).trans ((g83seq g83n1110 rfl).trans (g83reg g83rg11100 g83rg11100l (g83e11100_8))))) ?_
  funext env st
  kernel_rfl
noncomputable def f83 (x0 : V) (st : St) : Res :=
 A.eql 3 false x0 (.str []) fun a1 =>
 A.cond a1
 (some (.ret (.tup [((.int .i64 0) : V).er1, ((.int .i64 0) : V).er1, ((.int .i64 11) : V).er1]), st))
 (A.idxS x0 (.int .i64 0) fun a2 =>
 A.bin .gtr a2 (.int .u8 8) fun a3 =>
 A.cond a3
 (some (.ret (.tup [((.int .i64 0) : V).er1, ((.int .i64 0) : V).er1, ((.int .i64 10) : V).er1]), st))
 (A.lenS x0 fun a4 =>
 A.idxS x0 (.int .i64 0) fun a5 =>
 A.toInt .i64 a5 fun a6 =>
 A.bin .leq a4 a6 fun a7 =>
 A.cond a7
 (some (.ret (.tup [((.int .i64 0) : V).er1, ((.int .i64 0) : V).er1, ((.int .i64 11) : V).er1]), st))
 (g83b11 x0 (.int .i64 0) st)))
theorem g83nr : g83C [] = .seq (g83C [0]) (g83C [1]) := by kernel_rfl
theorem g83n1 : g83C [1] = .seq (g83C [1, 0]) (g83C [1, 1]) := by kernel_rfl
theorem g83er (env : Env) (st : St) : g83X (g83C []) g83kr env st = f83 (env 0) st := by
  rw [(g83seq g83nr (g83seq g83n1 (g83e11)))]
  kernel_rfl
theorem s83_eq (x0 : V) (st : St) : s83 [x0] st = f83 x0 st := by
  have h : afn Try.prog g83mu g83T big (areg Try.prog g83mu g83T) 83 [x0] st = g83X (g83C []) g83kr (fun t => [x0].getD t (.tup [])) st := by kernel_rfl
  rw [s83, sealF_eq]
  exact h.trans (g83er _ st)
/-! sinew/wire.of$1 -/
def g82mu : Nat → Bool := fun _ => false
noncomputable def g82T : Tbl := tget [(83, s83)]
theorem g82t : SimT Try.prog g82T := simT_cons sim83 (simT_nil)
noncomputable def s82 : Fn := sealF (afn Try.prog g82mu g82T big (areg Try.prog g82mu g82T) 82)
theorem sim82 : Sim Try.prog 82 s82 := (afn_sim g82t (fun m => areg_sound g82t hmix m) 82 (by kernel_rfl)).sealed
noncomputable def g82C (p : List Nat) : Code := sub (match Try.f82.body with | some c => c | none => .skip) p
noncomputable def g82X (c : Code) (K : Kon) : Env → St → Res := aexec Try.prog g82mu g82T big 29 (areg Try.prog g82mu g82T 29) c K
noncomputable def g82kr : Kon := aresK Try.prog Try.f82.results.toList
theorem g82reg {c : Code} {K : Kon} {G : Env → St → Res} {id : Nat} {ops : Array Oper} {l1 l2 : List Nat} (hc : c = .region id ops false) (hl : List.range ops.size = l1 ++ l2) (h : (fun env st => aops Try.prog g82mu g82T 29 ops l2 env st (K .normal)) = G) : g82X c K = fun env st => aops Try.prog g82mu g82T 29 ops l1 env st G := reg_cut hc hl h
theorem g82seq {c x y : Code} {K : Kon} {G : Env → St → Res} (hc : c = .seq x y) (hy : g82X y K = G) : g82X c K = g82X x (kSeq G K) := seq_cut hc hy
theorem g82blk {c x : Code} {K : Kon} {i : Nat} (hc : c = .block i x) : g82X c K = g82X x (kBlk i K) := blk_cut hc
theorem g82loop {c x : Code} {K : Kon} (hc : c = .loop x) : g82X c K = aloop (g82X x) K big := loop_cut hc
theorem g82cond {c x y : Code} {K : Kon} {v : Operand} {F G : Env → St → Res} (hc : c = .cond v x y) (hx : g82X x K = F) (hy : g82X y K = G) : g82X c K = condF v F G := cond_cut hc hx hy
noncomputable def g82b111 (x1 : V) (x5 : V) (x6 : V) (st : St) : Res :=
 A.load false 1 x1 st fun a1 z2 =>
 A.sliceS a1 (some x6) none fun a3 =>
 A.store 1 x1 a3 z2 fun z4 =>
 some (.ret x5.er1, z4)
theorem g82e111 : g82X (g82C [1, 1, 1]) (g82kr) = fun env st => g82b111 (env 1) (env 5) (env 6) st := by
  refine Eq.trans (Eq.refl (g82X (g82C [1, 1, 1]) (g82kr))) ?_
  funext env st
  kernel_rfl
noncomputable def f82 (x0 : V) (x1 : V) (x2 : V) (st : St) : Res :=
 A.load false 1 x1 st fun a1 z2 =>
 A.ret (s83 [a1.er1] z2) fun a3 z4 =>
 A.ext a3 0 fun a5 =>
 A.ext a3 1 fun a6 =>
 A.ext a3 2 fun a7 =>
 A.load false 1 x2 z4 fun a8 z9 =>
 A.un .not a8 fun a10 =>
 A.guard a10 false
 (A.eql 2 true a7 (.int .i64 0) fun a11 =>
 A.guard a11 false
 (A.bin .gtr a5 x0 fun a12 =>
 A.cond a12
 (A.store 1 x2 (.bool false) z9 fun z13 =>
 some (.ret ((.int .i64 0) : V).er1, z13))
 (g82b111 x1 a5 a6 z9))
 (A.store 1 x2 (.bool false) z9 fun z14 =>
 some (.ret ((.int .i64 0) : V).er1, z14)))
 (A.store 1 x2 (.bool false) z9 fun z15 =>
 some (.ret ((.int .i64 0) : V).er1, z15))
theorem g82nr : g82C [] = .seq (g82C [0]) (g82C [1]) := by kernel_rfl
theorem g82n1 : g82C [1] = .seq (g82C [1, 0]) (g82C [1, 1]) := by kernel_rfl
theorem g82n11 : g82C [1, 1] = .seq (g82C [1, 1, 0]) (g82C [1, 1, 1]) := by kernel_rfl
theorem g82er (env : Env) (st : St) : g82X (g82C []) g82kr env st = f82 (env 0) (env 1) (env 2) st := by
  rw [(g82seq g82nr (g82seq g82n1 (g82seq g82n11 (g82e111))))]
  kernel_rfl
theorem s82_eq (x0 : V) (x1 : V) (x2 : V) (st : St) : s82 [x0, x1, x2] st = f82 x0 x1 x2 st := by
  have h : afn Try.prog g82mu g82T big (areg Try.prog g82mu g82T) 82 [x0, x1, x2] st = g82X (g82C []) g82kr (fun t => [x0, x1, x2].getD t (.tup [])) st := by kernel_rfl
  rw [s82, sealF_eq]
  exact h.trans (g82er _ st)
/-! sinew/octet.Str -/
def g87mu : Nat → Bool := fun _ => false
noncomputable def g87T : Tbl := tget [(83, s83)]
theorem g87t : SimT Try.prog g87T := simT_cons sim83 (simT_nil)
noncomputable def s87 : Fn := sealF (afn Try.prog g87mu g87T big (areg Try.prog g87mu g87T) 87)
theorem sim87 : Sim Try.prog 87 s87 := (afn_sim g87t (fun m => areg_sound g87t hmix m) 87 (by kernel_rfl)).sealed
noncomputable def g87C (p : List Nat) : Code := sub (match Try.f87.body with | some c => c | none => .skip) p
noncomputable def g87X (c : Code) (K : Kon) : Env → St → Res := aexec Try.prog g87mu g87T big 36 (areg Try.prog g87mu g87T 36) c K
noncomputable def g87kr : Kon := aresK Try.prog Try.f87.results.toList
theorem g87reg {c : Code} {K : Kon} {G : Env → St → Res} {id : Nat} {ops : Array Oper} {l1 l2 : List Nat} (hc : c = .region id ops false) (hl : List.range ops.size = l1 ++ l2) (h : (fun env st => aops Try.prog g87mu g87T 36 ops l2 env st (K .normal)) = G) : g87X c K = fun env st => aops Try.prog g87mu g87T 36 ops l1 env st G := reg_cut hc hl h
theorem g87seq {c x y : Code} {K : Kon} {G : Env → St → Res} (hc : c = .seq x y) (hy : g87X y K = G) : g87X c K = g87X x (kSeq G K) := seq_cut hc hy
theorem g87blk {c x : Code} {K : Kon} {i : Nat} (hc : c = .block i x) : g87X c K = g87X x (kBlk i K) := blk_cut hc
theorem g87loop {c x : Code} {K : Kon} (hc : c = .loop x) : g87X c K = aloop (g87X x) K big := loop_cut hc
theorem g87cond {c x y : Code} {K : Kon} {v : Operand} {F G : Env → St → Res} (hc : c = .cond v x y) (hx : g87X x K = F) (hy : g87X y K = G) : g87X c K = condF v F G := cond_cut hc hx hy
noncomputable def g87b111 (x0 : V) (x5 : V) (x6 : V) (st : St) : Res :=
 A.bin .add x6 x5 fun a1 =>
 A.sliceS x0 (some x6) (some a1) fun a2 =>
 A.bin .add x6 x5 fun a3 =>
 some (.ret (.tup [a2.er1, a3.er1, ((.int .i64 0) : V).er1]), st)
theorem g87e111 : g87X (g87C [1, 1, 1]) (g87kr) = fun env st => g87b111 (env 0) (env 5) (env 6) st := by
  refine Eq.trans (Eq.refl (g87X (g87C [1, 1, 1]) (g87kr))) ?_
  funext env st
  kernel_rfl
noncomputable def g87b11 (x0 : V) (x4 : V) (x5 : V) (x6 : V) (st : St) : Res :=
 A.eql 2 true x4 (.int .i64 0) fun a1 =>
 A.cond a1
 (some (.ret (.tup [((.str []) : V).er1, ((.int .i64 0) : V).er1, x4.er1]), st))
 (A.bin .gtr x5 (.int .i64 65536) fun a2 =>
 A.cond a2
 (some (.ret (.tup [((.str []) : V).er1, ((.int .i64 0) : V).er1, ((.int .i64 12) : V).er1]), st))
 (A.lenS x0 fun a3 =>
 A.bin .sub a3 x6 fun a4 =>
 A.bin .gtr x5 a4 fun a5 =>
 A.cond a5
 (some (.ret (.tup [((.str []) : V).er1, ((.int .i64 0) : V).er1, ((.int .i64 11) : V).er1]), st))
 (g87b111 x0 x5 x6 st)))
theorem g87n11 : g87C [1, 1] = .seq (g87C [1, 1, 0]) (g87C [1, 1, 1]) := by kernel_rfl
theorem g87e11 : g87X (g87C [1, 1]) (g87kr) = fun env st => g87b11 (env 0) (env 4) (env 5) (env 6) st := by
  refine Eq.trans (g87seq g87n11 (g87e111)) ?_
  funext env st
  kernel_rfl
noncomputable def f87 (x0 : V) (st : St) : Res :=
 A.ret (s83 [x0.er1] st) fun a1 z2 =>
 A.ext a1 0 fun a3 =>
 A.ext a1 1 fun a4 =>
 A.ext a1 2 fun a5 =>
 g87b11 x0 a5 a3 a4 z2
theorem g87nr : g87C [] = .seq (g87C [0]) (g87C [1]) := by kernel_rfl
theorem g87n1 : g87C [1] = .seq (g87C [1, 0]) (g87C [1, 1]) := by kernel_rfl
theorem g87er (env : Env) (st : St) : g87X (g87C []) g87kr env st = f87 (env 0) st := by
  rw [(g87seq g87nr (g87seq g87n1 (g87e11)))]
  kernel_rfl
theorem s87_eq (x0 : V) (st : St) : s87 [x0] st = f87 x0 st := by
  have h : afn Try.prog g87mu g87T big (areg Try.prog g87mu g87T) 87 [x0] st = g87X (g87C []) g87kr (fun t => [x0].getD t (.tup [])) st := by kernel_rfl
  rw [s87, sealF_eq]
  exact h.trans (g87er _ st)
/-! sinew/octet.List -/
def g85mu : Nat → Bool := fun _ => false
noncomputable def g85T : Tbl := tget [(83, s83), (87, s87)]
theorem g85t : SimT Try.prog g85T := simT_cons sim83 ( simT_cons sim87 (simT_nil))
noncomputable def s85 : Fn := sealF (fun args st => fg (afn Try.prog g85mu g85T big (areg Try.prog g85mu g85T) 85 args st) st)
theorem sim85 : Sim Try.prog 85 s85 := (afn_sim g85t (fun m => areg_sound g85t hmix m) 85 (by kernel_rfl)).fg.sealed
noncomputable def g85C (p : List Nat) : Code := sub (match Try.f85.body with | some c => c | none => .skip) p
noncomputable def g85X (c : Code) (K : Kon) : Env → St → Res := aexec Try.prog g85mu g85T big 44 (areg Try.prog g85mu g85T 44) c K
noncomputable def g85kr : Kon := aresK Try.prog Try.f85.results.toList
theorem g85reg {c : Code} {K : Kon} {G : Env → St → Res} {id : Nat} {ops : Array Oper} {l1 l2 : List Nat} (hc : c = .region id ops false) (hl : List.range ops.size = l1 ++ l2) (h : (fun env st => aops Try.prog g85mu g85T 44 ops l2 env st (K .normal)) = G) : g85X c K = fun env st => aops Try.prog g85mu g85T 44 ops l1 env st G := reg_cut hc hl h
theorem g85seq {c x y : Code} {K : Kon} {G : Env → St → Res} (hc : c = .seq x y) (hy : g85X y K = G) : g85X c K = g85X x (kSeq G K) := seq_cut hc hy
theorem g85blk {c x : Code} {K : Kon} {i : Nat} (hc : c = .block i x) : g85X c K = g85X x (kBlk i K) := blk_cut hc
theorem g85loop {c x : Code} {K : Kon} (hc : c = .loop x) : g85X c K = aloop (g85X x) K big := loop_cut hc
theorem g85cond {c x y : Code} {K : Kon} {v : Operand} {F G : Env → St → Res} (hc : c = .cond v x y) (hx : g85X x K = F) (hy : g85X y K = G) : g85X c K = condF v F G := cond_cut hc hx hy
noncomputable def g85k0 : Kon := kSeq (g85X (g85C [1, 1, 1, 1, 1]) (g85kr)) (g85kr)
noncomputable def g85k1 : Kon := kBlk 0 (g85k0)
noncomputable def g85k2 (Lz6y : V → V → V → V → V → St → Res) : Kon := kSeq (fun env st => Lz6y (env 0) (env 2) (env 3) (env 20) (env 21) st) (g85k1)
noncomputable def g85k3 (Lz6y : V → V → V → V → V → St → Res) : Kon := kSeq (g85X (g85C [1, 1, 1, 1, 0, 1, 0, 0, 1, 1, 1]) (g85k2 Lz6y)) (g85k2 Lz6y)
noncomputable def g85k4 (Lz6y : V → V → V → V → V → St → Res) : Kon := kBlk 1 (g85k3 Lz6y)
noncomputable def g85bzcd5 (Lz6y : V → V → V → V → V → St → Res) (x0 : V) (x2 : V) (x3 : V) (x6 : V) (x7 : V) (x8 : V) (x20 : V) (x21 : V) (st : St) : Res :=
 A.eql 2 true x8 (.int .i64 0) fun a1 =>
 A.cond a1
 (some (.ret (.tup [((.lst [] 1) : V).er1, ((.int .i64 0) : V).er1, x8.er1]), st))
 (A.bslice 1 (.str []) 1 [(0, x6)] fun a2 =>
 A.app 1 x2 (elemsOf 5 1 a2 st) st fun a3 z4 =>
 A.bin .add x3 x7 fun a5 =>
 A.bin .add x21 (.int .i64 1) fun a6 =>
 Lz6y x0 a3 a5 x20 a6 z4)
theorem g85ezcd5 (Lz6y : V → V → V → V → V → St → Res) : g85X (g85C [1, 1, 1, 1, 0, 1, 0, 0, 1, 1, 0, 0, 1]) (g85k4 Lz6y) = fun env st => g85bzcd5 Lz6y (env 0) (env 2) (env 3) (env 6) (env 7) (env 8) (env 20) (env 21) st := by
  refine Eq.trans (Eq.refl (g85X (g85C [1, 1, 1, 1, 0, 1, 0, 0, 1, 1, 0, 0, 1]) (g85k4 Lz6y))) ?_
  funext env st
  kernel_rfl
noncomputable def g85bz6y : Nat → V → V → V → V → V → St → Res
| 0, _, _, _, _, _, _ => none
| n + 1, x0, x2, x3, x20, x21, st =>
 A.bin .lss x21 x20 fun a1 =>
 A.cond a1
 (A.sliceS x0 (some x3) none fun a2 =>
 A.ret (s87 [a2.er1] st) fun a3 z4 =>
 A.ext a3 0 fun a5 =>
 A.ext a3 1 fun a6 =>
 A.ext a3 2 fun a7 =>
 g85bzcd5 (g85bz6y n) x0 x2 x3 a5 a6 a7 x20 x21 z4)
 (some (.ret (.tup [x2.er1, x3.er1, ((.int .i64 0) : V).er1]), st))
theorem g85nz6y : g85C [1, 1, 1, 1, 0, 1, 0] = .loop (g85C [1, 1, 1, 1, 0, 1, 0, 0]) := by kernel_rfl
theorem g85nzdw : g85C [1, 1, 1, 1, 0, 1, 0, 0] = .seq (g85C [1, 1, 1, 1, 0, 1, 0, 0, 0]) (g85C [1, 1, 1, 1, 0, 1, 0, 0, 1]) := by kernel_rfl
theorem g85nzrt : g85C [1, 1, 1, 1, 0, 1, 0, 0, 1] = .seq (g85C [1, 1, 1, 1, 0, 1, 0, 0, 1, 0]) (g85C [1, 1, 1, 1, 0, 1, 0, 0, 1, 1]) := by kernel_rfl
theorem g85nz1jn : g85C [1, 1, 1, 1, 0, 1, 0, 0, 1, 1] = .seq (g85C [1, 1, 1, 1, 0, 1, 0, 0, 1, 1, 0]) (g85C [1, 1, 1, 1, 0, 1, 0, 0, 1, 1, 1]) := by kernel_rfl
theorem g85nz33a : g85C [1, 1, 1, 1, 0, 1, 0, 0, 1, 1, 0] = .block 1 (g85C [1, 1, 1, 1, 0, 1, 0, 0, 1, 1, 0, 0]) := by kernel_rfl
theorem g85nz66k : g85C [1, 1, 1, 1, 0, 1, 0, 0, 1, 1, 0, 0] = .seq (g85C [1, 1, 1, 1, 0, 1, 0, 0, 1, 1, 0, 0, 0]) (g85C [1, 1, 1, 1, 0, 1, 0, 0, 1, 1, 0, 0, 1]) := by kernel_rfl
theorem g85ez6y : g85X (g85C [1, 1, 1, 1, 0, 1, 0]) (g85k1) = fun env st => g85bz6y big (env 0) (env 2) (env 3) (env 20) (env 21) st := by
  have key : ∀ n, aloop (g85X (g85C [1, 1, 1, 1, 0, 1, 0, 0])) (g85k1) n = fun env st => g85bz6y n (env 0) (env 2) (env 3) (env 20) (env 21) st := by
    intro n
    induction n with
    | zero => rfl
    | succ n ih =>
      have h : aloop (g85X (g85C [1, 1, 1, 1, 0, 1, 0, 0])) (g85k1) (n + 1) = g85X (g85C [1, 1, 1, 1, 0, 1, 0, 0]) (kSeq (aloop (g85X (g85C [1, 1, 1, 1, 0, 1, 0, 0])) (g85k1) n) (g85k1)) := rfl
      rw [h, ih]
      refine Eq.trans (g85seq g85nzdw (g85seq g85nzrt ((g85seq g85nz1jn rfl).trans ((g85blk g85nz33a).trans (g85seq g85nz66k (g85ezcd5 (g85bz6y n))))))) ?_
      funext env st
      kernel_rfl
  exact (g85loop g85nz6y).trans (key big)
noncomputable def g85b1111 (x0 : V) (x2 : V) (x3 : V) (x5 : V) (st : St) : Res :=
 g85bz6y big x0 x2 x3 x5 (.int .i64 0) st
theorem g85n1111 : g85C [1, 1, 1, 1] = .seq (g85C [1, 1, 1, 1, 0]) (g85C [1, 1, 1, 1, 1]) := by kernel_rfl
theorem g85n11110 : g85C [1, 1, 1, 1, 0] = .seq (g85C [1, 1, 1, 1, 0, 0]) (g85C [1, 1, 1, 1, 0, 1]) := by kernel_rfl
theorem g85nz3h : g85C [1, 1, 1, 1, 0, 1] = .block 0 (g85C [1, 1, 1, 1, 0, 1, 0]) := by kernel_rfl
theorem g85e1111 : g85X (g85C [1, 1, 1, 1]) (g85kr) = fun env st => g85b1111 (env 0) (env 2) (env 3) (env 5) st := by
  refine Eq.trans ((g85seq g85n1111 rfl).trans (g85seq g85n11110 ((g85blk g85nz3h).trans (g85ez6y)))) ?_
  funext env st
  kernel_rfl
noncomputable def g85b11 (x0 : V) (x2 : V) (x3 : V) (x4 : V) (x5 : V) (st : St) : Res :=
 A.eql 2 true x4 (.int .i64 0) fun a1 =>
 A.cond a1
 (some (.ret (.tup [((.lst [] 1) : V).er1, ((.int .i64 0) : V).er1, x4.er1]), st))
 (A.bin .gtr x5 (.int .i64 4096) fun a2 =>
 A.cond a2
 (some (.ret (.tup [((.lst [] 1) : V).er1, ((.int .i64 0) : V).er1, ((.int .i64 12) : V).er1]), st))
 (g85b1111 x0 x2 x3 x5 st))
theorem g85n11 : g85C [1, 1] = .seq (g85C [1, 1, 0]) (g85C [1, 1, 1]) := by kernel_rfl
theorem g85n111 : g85C [1, 1, 1] = .seq (g85C [1, 1, 1, 0]) (g85C [1, 1, 1, 1]) := by kernel_rfl
theorem g85e11 : g85X (g85C [1, 1]) (g85kr) = fun env st => g85b11 (env 0) (env 2) (env 3) (env 4) (env 5) st := by
  refine Eq.trans (g85seq g85n11 (g85seq g85n111 (g85e1111))) ?_
  funext env st
  kernel_rfl
noncomputable def f85 (x0 : V) (st : St) : Res :=
 A.ret (s83 [x0.er1] st) fun a1 z2 =>
 A.ext a1 0 fun a3 =>
 A.ext a1 1 fun a4 =>
 A.ext a1 2 fun a5 =>
 g85b11 x0 (.lst [] 1) a4 a5 a3 z2
theorem g85nr : g85C [] = .seq (g85C [0]) (g85C [1]) := by kernel_rfl
theorem g85n1 : g85C [1] = .seq (g85C [1, 0]) (g85C [1, 1]) := by kernel_rfl
theorem g85er (env : Env) (st : St) : g85X (g85C []) g85kr env st = f85 (env 0) st := by
  rw [(g85seq g85nr (g85seq g85n1 (g85e11)))]
  kernel_rfl
theorem s85_eq (x0 : V) (st : St) : s85 [x0] st = fg (f85 x0 st) st := by
  have h : afn Try.prog g85mu g85T big (areg Try.prog g85mu g85T) 85 [x0] st = g85X (g85C []) g85kr (fun t => [x0].getD t (.tup [])) st := by kernel_rfl
  rw [s85, sealF_eq]
  show fg _ st = fg _ st
  refine congrArg (fun r => fg r st) ?_
  exact h.trans (g85er _ st)
end Go.Ab
