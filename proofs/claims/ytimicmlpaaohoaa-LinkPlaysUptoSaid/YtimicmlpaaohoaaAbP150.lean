import Derived.Test.YtimicmlpaaohoaaAbQuiet
import Derived.Test.YtimicmlpaaohoaaAbB15
import Derived.Test.YtimicmlpaaohoaaAbR15
import Derived.Test.YtimicmlpaaohoaaAbR15s
namespace Go.Ab
open Go.Proofs
set_option linter.unusedVariables false
set_option maxRecDepth 100000
theorem hmix : Try.prog.follows .mixedOrders = true := by kernel_rfl
/-! sinew/link.New -/
def g9mu : Nat → Bool := fun _ => false
noncomputable def g9T : Tbl := tget []
theorem g9t : SimT Try.prog g9T := simT_nil
noncomputable def s9 : Fn := sealF (afn Try.prog g9mu g9T big (areg Try.prog g9mu g9T) 9)
theorem sim9 : Sim Try.prog 9 s9 := (afn_sim g9t (fun m => areg_sound g9t hmix m) 9 (by kernel_rfl)).sealed
noncomputable def g9C (p : List Nat) : Code := sub (match Try.f9.body with | some c => c | none => .skip) p
noncomputable def g9X (c : Code) (K : Kon) : Env → St → Res := aexec Try.prog g9mu g9T big 13 (areg Try.prog g9mu g9T 13) c K
noncomputable def g9kr : Kon := aresK Try.prog Try.f9.results.toList
theorem g9reg {c : Code} {K : Kon} {G : Env → St → Res} {id : Nat} {ops : Array Oper} {l1 l2 : List Nat} (hc : c = .region id ops false) (hl : List.range ops.size = l1 ++ l2) (h : (fun env st => aops Try.prog g9mu g9T 13 ops l2 env st (K .normal)) = G) : g9X c K = fun env st => aops Try.prog g9mu g9T 13 ops l1 env st G := reg_cut hc hl h
theorem g9seq {c x y : Code} {K : Kon} {G : Env → St → Res} (hc : c = .seq x y) (hy : g9X y K = G) : g9X c K = g9X x (kSeq G K) := seq_cut hc hy
theorem g9blk {c x : Code} {K : Kon} {i : Nat} (hc : c = .block i x) : g9X c K = g9X x (kBlk i K) := blk_cut hc
theorem g9loop {c x : Code} {K : Kon} (hc : c = .loop x) : g9X c K = aloop (g9X x) K big := loop_cut hc
theorem g9cond {c x y : Code} {K : Kon} {v : Operand} {F G : Env → St → Res} (hc : c = .cond v x y) (hx : g9X x K = F) (hy : g9X y K = G) : g9X c K = condF v F G := cond_cut hc hx hy
noncomputable def g9b11 (x0 : V) (st : St) : Res :=
 A.build [(.int .i64 0), (.int .i64 0), (.int .i64 0), (.int .i64 0), (.lst [] 1)] [(0, 1, x0), (2, 1, (.int .i64 1)), (3, 1, (.int .i64 1))] fun a1 =>
 A.box a1 st fun a2 z3 =>
 some (.ret (.tup [a2.er1, ((.int .i64 0) : V).er1]), z3)
theorem g9e11 : g9X (g9C [1, 1]) (g9kr) = fun env st => g9b11 (env 0) st := by
  refine Eq.trans (Eq.refl (g9X (g9C [1, 1]) (g9kr))) ?_
  funext env st
  kernel_rfl
noncomputable def f9 (x0 : V) (st : St) : Res :=
 A.bin .lss x0 (.int .i64 1) fun a1 =>
 A.guard a1 false
 (A.bin .gtr x0 (.int .i64 1099511627776) fun a2 =>
 A.cond a2
 (some (.ret (.tup [(.ptr0 : V).er1, ((.int .i64 1) : V).er1]), st))
 (g9b11 x0 st))
 (some (.ret (.tup [(.ptr0 : V).er1, ((.int .i64 1) : V).er1]), st))
theorem g9nr : g9C [] = .seq (g9C [0]) (g9C [1]) := by kernel_rfl
theorem g9n1 : g9C [1] = .seq (g9C [1, 0]) (g9C [1, 1]) := by kernel_rfl
theorem g9er (env : Env) (st : St) : g9X (g9C []) g9kr env st = f9 (env 0) st := by
  rw [(g9seq g9nr (g9seq g9n1 (g9e11)))]
  kernel_rfl
theorem s9_eq (x0 : V) (st : St) : s9 [x0] st = f9 x0 st := by
  have h : afn Try.prog g9mu g9T big (areg Try.prog g9mu g9T) 9 [x0] st = g9X (g9C []) g9kr (fun t => [x0].getD t (.tup [])) st := by kernel_rfl
  rw [s9, sealF_eq]
  exact h.trans (g9er _ st)
/-! sinew/sinewref15.New -/
def g10mu : Nat → Bool := fun _ => false
noncomputable def g10T : Tbl := tget []
theorem g10t : SimT Try.prog g10T := simT_nil
noncomputable def s10 : Fn := sealF (fun args st => fg (afn Try.prog g10mu g10T big (areg Try.prog g10mu g10T) 10 args st) st)
theorem sim10 : Sim Try.prog 10 s10 := (afn_sim g10t (fun m => areg_sound g10t hmix m) 10 (by kernel_rfl)).fg.sealed
noncomputable def f10 (x0 : V) (st : St) : Res :=
 A.box (.agg [(.int .i64 0), (.int .i64 0), (.int .i64 0), (.int .i64 0), (.lst [] 1)]) st fun a1 z2 =>
 A.bin .lss x0 (.int .i64 1) fun a3 =>
 A.guard a3 false
 (A.bin .gtr x0 (.int .i64 1099511627776) fun a4 =>
 A.cond a4
 (A.build [(.int .i64 0), (.int .i64 0), (.int .i64 0), (.int .i64 0), (.lst [] 1)] [] fun a5 =>
 A.store 5 a1 a5 z2 fun z6 =>
 A.res (rcell (A.load true 5 a1 z6 kid) (rtmp (.int .i64 1) (some []))) z6)
 (A.build [(.int .i64 0), (.int .i64 0), (.int .i64 0), (.int .i64 0), (.lst [] 1)] [(0, 1, x0), (2, 1, (.int .i64 1)), (3, 1, (.int .i64 1))] fun a7 =>
 A.store 5 a1 a7 z2 fun z8 =>
 A.res (rcell (A.load true 5 a1 z8 kid) (rtmp (.int .i64 0) (some []))) z8))
 (A.build [(.int .i64 0), (.int .i64 0), (.int .i64 0), (.int .i64 0), (.lst [] 1)] [] fun a9 =>
 A.store 5 a1 a9 z2 fun z10 =>
 A.res (rcell (A.load true 5 a1 z10 kid) (rtmp (.int .i64 1) (some []))) z10)
theorem s10_eq (x0 : V) (st : St) : s10 [x0] st = fg (f10 x0 st) st := by
  rw [s10, sealF_eq]
  show fg _ st = fg _ st
  refine congrArg (fun r => fg r st) ?_
  kernel_rfl
/-! sinew/wire.fits$1 -/
def g67mu : Nat → Bool := fun _ => false
noncomputable def g67T : Tbl := tget []
theorem g67t : SimT Try.prog g67T := simT_nil
noncomputable def s67 : Fn := sealF (afn Try.prog g67mu g67T big (areg Try.prog g67mu g67T) 67)
theorem sim67 : Sim Try.prog 67 s67 := (afn_sim g67t (fun m => areg_sound g67t hmix m) 67 (by kernel_rfl)).sealed
noncomputable def f67 (x0 : V) (st : St) : Res :=
 A.bin .lss x0 (.int .i64 0) fun a1 =>
 A.guard a1 false
 (A.bin .gtr x0 (.int .i64 4611686018427387903) fun a2 =>
 some (.ret a2.er1, st))
 (some (.ret ((.bool true) : V).er1, st))
theorem s67_eq (x0 : V) (st : St) : s67 [x0] st = f67 x0 st := by
  rw [s67, sealF_eq]
  kernel_rfl
/-! sinew/wire.fits$2 -/
def g68mu : Nat → Bool := fun _ => false
noncomputable def g68T : Tbl := tget []
theorem g68t : SimT Try.prog g68T := simT_nil
noncomputable def s68 : Fn := sealF (afn Try.prog g68mu g68T big (areg Try.prog g68mu g68T) 68)
theorem sim68 : Sim Try.prog 68 s68 := (afn_sim g68t (fun m => areg_sound g68t hmix m) 68 (by kernel_rfl)).sealed
noncomputable def f68 (x0 : V) (st : St) : Res :=
 A.lenS x0 fun a1 =>
 A.bin .gtr a1 (.int .i64 65536) fun a2 =>
 some (.ret a2.er1, st)
theorem s68_eq (x0 : V) (st : St) : s68 [x0] st = f68 x0 st := by
  rw [s68, sealF_eq]
  kernel_rfl
/-! slices.IndexFunc[[]string,string] -/
def g79mu : Nat → Bool := fun _ => false
noncomputable def g79T : Tbl := tget [(67, s67), (68, s68)]
theorem g79t : SimT Try.prog g79T := simT_cons sim67 ( simT_cons sim68 (simT_nil))
noncomputable def s79 : Fn := sealF (afn Try.prog g79mu g79T big (areg Try.prog g79mu g79T) 79)
theorem sim79 : Sim Try.prog 79 s79 := (afn_sim g79t (fun m => areg_sound g79t hmix m) 79 (by kernel_rfl)).sealed
noncomputable def g79C (p : List Nat) : Code := sub (match Try.f79.body with | some c => c | none => .skip) p
noncomputable def g79X (c : Code) (K : Kon) : Env → St → Res := aexec Try.prog g79mu g79T big 19 (areg Try.prog g79mu g79T 19) c K
noncomputable def g79kr : Kon := aresK Try.prog Try.f79.results.toList
theorem g79reg {c : Code} {K : Kon} {G : Env → St → Res} {id : Nat} {ops : Array Oper} {l1 l2 : List Nat} (hc : c = .region id ops false) (hl : List.range ops.size = l1 ++ l2) (h : (fun env st => aops Try.prog g79mu g79T 19 ops l2 env st (K .normal)) = G) : g79X c K = fun env st => aops Try.prog g79mu g79T 19 ops l1 env st G := reg_cut hc hl h
theorem g79seq {c x y : Code} {K : Kon} {G : Env → St → Res} (hc : c = .seq x y) (hy : g79X y K = G) : g79X c K = g79X x (kSeq G K) := seq_cut hc hy
theorem g79blk {c x : Code} {K : Kon} {i : Nat} (hc : c = .block i x) : g79X c K = g79X x (kBlk i K) := blk_cut hc
theorem g79loop {c x : Code} {K : Kon} (hc : c = .loop x) : g79X c K = aloop (g79X x) K big := loop_cut hc
theorem g79cond {c x y : Code} {K : Kon} {v : Operand} {F G : Env → St → Res} (hc : c = .cond v x y) (hx : g79X x K = F) (hy : g79X y K = G) : g79X c K = condF v F G := cond_cut hc hx hy
noncomputable def g79k0 : Kon := kSeq (g79X (g79C [1, 1]) (g79kr)) (g79kr)
noncomputable def g79k1 : Kon := kBlk 0 (g79k0)
noncomputable def g79b1010 : Nat → V → V → V → V → St → Res
| 0, _, _, _, _, _ => none
| n + 1, x0, x1, x7, x8, st =>
 A.bin .lss x8 x7 fun a1 =>
 A.cond a1
 (A.iaddr 1 x0 x8 fun a2 =>
 A.load false 1 a2 st fun a3 z4 =>
 A.call g79T x1 [a3] z4 fun a5 z6 =>
 A.cond a5
 (some (.ret x8.er1, z6))
 (A.bin .add x8 (.int .i64 1) fun a7 =>
 (g79b1010 n) x0 x1 x7 a7 z6))
 (some (.ret ((.int .i64 (-1)) : V).er1, st))
theorem g79n1010 : g79C [1, 0, 1, 0] = .loop (g79C [1, 0, 1, 0, 0]) := by kernel_rfl
noncomputable def g79k2 (L1010 : V → V → V → V → St → Res) : Kon := kSeq (fun env st => L1010 (env 0) (env 1) (env 7) (env 8) st) (g79k1)
theorem g79e1010 : g79X (g79C [1, 0, 1, 0]) (g79k1) = fun env st => g79b1010 big (env 0) (env 1) (env 7) (env 8) st := by
  have key : ∀ n, aloop (g79X (g79C [1, 0, 1, 0, 0])) (g79k1) n = fun env st => g79b1010 n (env 0) (env 1) (env 7) (env 8) st := by
    intro n
    induction n with
    | zero => rfl
    | succ n ih =>
      have h : aloop (g79X (g79C [1, 0, 1, 0, 0])) (g79k1) (n + 1) = g79X (g79C [1, 0, 1, 0, 0]) (kSeq (aloop (g79X (g79C [1, 0, 1, 0, 0])) (g79k1) n) (g79k1)) := rfl
      rw [h, ih]
      refine Eq.trans (Eq.refl _) ?_
      funext env st
      kernel_rfl
  exact (g79loop g79n1010).trans (key big)
noncomputable def f79 (x0 : V) (x1 : V) (st : St) : Res :=
 A.lenL x0 fun a1 =>
 g79b1010 big x0 x1 a1 (.int .i64 0) st
theorem g79nr : g79C [] = .seq (g79C [0]) (g79C [1]) := by kernel_rfl
theorem g79n1 : g79C [1] = .seq (g79C [1, 0]) (g79C [1, 1]) := by kernel_rfl
theorem g79n10 : g79C [1, 0] = .seq (g79C [1, 0, 0]) (g79C [1, 0, 1]) := by kernel_rfl
theorem g79n101 : g79C [1, 0, 1] = .block 0 (g79C [1, 0, 1, 0]) := by kernel_rfl
theorem g79er (env : Env) (st : St) : g79X (g79C []) g79kr env st = f79 (env 0) (env 1) st := by
  rw [(g79seq g79nr ((g79seq g79n1 rfl).trans (g79seq g79n10 ((g79blk g79n101).trans (g79e1010)))))]
  kernel_rfl
theorem s79_eq (x0 : V) (x1 : V) (st : St) : s79 [x0, x1] st = f79 x0 x1 st := by
  have h : afn Try.prog g79mu g79T big (areg Try.prog g79mu g79T) 79 [x0, x1] st = g79X (g79C []) g79kr (fun t => [x0, x1].getD t (.tup [])) st := by kernel_rfl
  rw [s79, sealF_eq]
  exact h.trans (g79er _ st)
/-! slices.ContainsFunc[[]string,string] -/
def g69mu : Nat → Bool := fun _ => false
noncomputable def g69T : Tbl := tget [(79, s79)]
theorem g69t : SimT Try.prog g69T := simT_cons sim79 (simT_nil)
noncomputable def s69 : Fn := sealF (afn Try.prog g69mu g69T big (areg Try.prog g69mu g69T) 69)
theorem sim69 : Sim Try.prog 69 s69 := (afn_sim g69t (fun m => areg_sound g69t hmix m) 69 (by kernel_rfl)).sealed
noncomputable def f69 (x0 : V) (x1 : V) (st : St) : Res :=
 A.ret (s79 [x0.er1, x1.er1] st) fun a1 z2 =>
 A.bin .geq a1 (.int .i64 0) fun a3 =>
 some (.ret a3.er1, z2)
theorem s69_eq (x0 : V) (x1 : V) (st : St) : s69 [x0, x1] st = f69 x0 x1 st := by
  rw [s69, sealF_eq]
  kernel_rfl
/-! slices.IndexFunc[[]int,int] -/
def g80mu : Nat → Bool := fun _ => false
noncomputable def g80T : Tbl := tget [(67, s67), (68, s68)]
theorem g80t : SimT Try.prog g80T := simT_cons sim67 ( simT_cons sim68 (simT_nil))
noncomputable def s80 : Fn := sealF (afn Try.prog g80mu g80T big (areg Try.prog g80mu g80T) 80)
theorem sim80 : Sim Try.prog 80 s80 := (afn_sim g80t (fun m => areg_sound g80t hmix m) 80 (by kernel_rfl)).sealed
noncomputable def g80C (p : List Nat) : Code := sub (match Try.f80.body with | some c => c | none => .skip) p
noncomputable def g80X (c : Code) (K : Kon) : Env → St → Res := aexec Try.prog g80mu g80T big 19 (areg Try.prog g80mu g80T 19) c K
noncomputable def g80kr : Kon := aresK Try.prog Try.f80.results.toList
theorem g80reg {c : Code} {K : Kon} {G : Env → St → Res} {id : Nat} {ops : Array Oper} {l1 l2 : List Nat} (hc : c = .region id ops false) (hl : List.range ops.size = l1 ++ l2) (h : (fun env st => aops Try.prog g80mu g80T 19 ops l2 env st (K .normal)) = G) : g80X c K = fun env st => aops Try.prog g80mu g80T 19 ops l1 env st G := reg_cut hc hl h
theorem g80seq {c x y : Code} {K : Kon} {G : Env → St → Res} (hc : c = .seq x y) (hy : g80X y K = G) : g80X c K = g80X x (kSeq G K) := seq_cut hc hy
theorem g80blk {c x : Code} {K : Kon} {i : Nat} (hc : c = .block i x) : g80X c K = g80X x (kBlk i K) := blk_cut hc
theorem g80loop {c x : Code} {K : Kon} (hc : c = .loop x) : g80X c K = aloop (g80X x) K big := loop_cut hc
theorem g80cond {c x y : Code} {K : Kon} {v : Operand} {F G : Env → St → Res} (hc : c = .cond v x y) (hx : g80X x K = F) (hy : g80X y K = G) : g80X c K = condF v F G := cond_cut hc hx hy
noncomputable def g80k0 : Kon := kSeq (g80X (g80C [1, 1]) (g80kr)) (g80kr)
noncomputable def g80k1 : Kon := kBlk 0 (g80k0)
noncomputable def g80b1010 : Nat → V → V → V → V → St → Res
| 0, _, _, _, _, _ => none
| n + 1, x0, x1, x7, x8, st =>
 A.bin .lss x8 x7 fun a1 =>
 A.cond a1
 (A.iaddr 1 x0 x8 fun a2 =>
 A.load false 1 a2 st fun a3 z4 =>
 A.call g80T x1 [a3] z4 fun a5 z6 =>
 A.cond a5
 (some (.ret x8.er1, z6))
 (A.bin .add x8 (.int .i64 1) fun a7 =>
 (g80b1010 n) x0 x1 x7 a7 z6))
 (some (.ret ((.int .i64 (-1)) : V).er1, st))
theorem g80n1010 : g80C [1, 0, 1, 0] = .loop (g80C [1, 0, 1, 0, 0]) := by kernel_rfl
noncomputable def g80k2 (L1010 : V → V → V → V → St → Res) : Kon := kSeq (fun env st => L1010 (env 0) (env 1) (env 7) (env 8) st) (g80k1)
theorem g80e1010 : g80X (g80C [1, 0, 1, 0]) (g80k1) = fun env st => g80b1010 big (env 0) (env 1) (env 7) (env 8) st := by
  have key : ∀ n, aloop (g80X (g80C [1, 0, 1, 0, 0])) (g80k1) n = fun env st => g80b1010 n (env 0) (env 1) (env 7) (env 8) st := by
    intro n
    induction n with
    | zero => rfl
    | succ n ih =>
      have h : aloop (g80X (g80C [1, 0, 1, 0, 0])) (g80k1) (n + 1) = g80X (g80C [1, 0, 1, 0, 0]) (kSeq (aloop (g80X (g80C [1, 0, 1, 0, 0])) (g80k1) n) (g80k1)) := rfl
      rw [h, ih]
      refine Eq.trans (Eq.refl _) ?_
      funext env st
      kernel_rfl
  exact (g80loop g80n1010).trans (key big)
noncomputable def f80 (x0 : V) (x1 : V) (st : St) : Res :=
 A.lenL x0 fun a1 =>
 g80b1010 big x0 x1 a1 (.int .i64 0) st
theorem g80nr : g80C [] = .seq (g80C [0]) (g80C [1]) := by kernel_rfl
theorem g80n1 : g80C [1] = .seq (g80C [1, 0]) (g80C [1, 1]) := by kernel_rfl
theorem g80n10 : g80C [1, 0] = .seq (g80C [1, 0, 0]) (g80C [1, 0, 1]) := by kernel_rfl
theorem g80n101 : g80C [1, 0, 1] = .block 0 (g80C [1, 0, 1, 0]) := by kernel_rfl
theorem g80er (env : Env) (st : St) : g80X (g80C []) g80kr env st = f80 (env 0) (env 1) st := by
  rw [(g80seq g80nr ((g80seq g80n1 rfl).trans (g80seq g80n10 ((g80blk g80n101).trans (g80e1010)))))]
  kernel_rfl
theorem s80_eq (x0 : V) (x1 : V) (st : St) : s80 [x0, x1] st = f80 x0 x1 st := by
  have h : afn Try.prog g80mu g80T big (areg Try.prog g80mu g80T) 80 [x0, x1] st = g80X (g80C []) g80kr (fun t => [x0, x1].getD t (.tup [])) st := by kernel_rfl
  rw [s80, sealF_eq]
  exact h.trans (g80er _ st)
/-! slices.ContainsFunc[[]int,int] -/
def g70mu : Nat → Bool := fun _ => false
noncomputable def g70T : Tbl := tget [(80, s80)]
theorem g70t : SimT Try.prog g70T := simT_cons sim80 (simT_nil)
noncomputable def s70 : Fn := sealF (afn Try.prog g70mu g70T big (areg Try.prog g70mu g70T) 70)
theorem sim70 : Sim Try.prog 70 s70 := (afn_sim g70t (fun m => areg_sound g70t hmix m) 70 (by kernel_rfl)).sealed
noncomputable def f70 (x0 : V) (x1 : V) (st : St) : Res :=
 A.ret (s80 [x0.er1, x1.er1] st) fun a1 z2 =>
 A.bin .geq a1 (.int .i64 0) fun a3 =>
 some (.ret a3.er1, z2)
theorem s70_eq (x0 : V) (x1 : V) (st : St) : s70 [x0, x1] st = f70 x0 x1 st := by
  rw [s70, sealF_eq]
  kernel_rfl
/-! sinew/wire.fits -/
def g51mu : Nat → Bool := fun _ => false
noncomputable def g51T : Tbl := tget [(69, s69), (70, s70)]
theorem g51t : SimT Try.prog g51T := simT_cons sim69 ( simT_cons sim70 (simT_nil))
noncomputable def s51 : Fn := sealF (fun args st => fg (afn Try.prog g51mu g51T big (areg Try.prog g51mu g51T) 51 args st) st)
theorem sim51 : Sim Try.prog 51 s51 := (afn_sim g51t (fun m => areg_sound g51t hmix m) 51 (by kernel_rfl)).fg.sealed
noncomputable def g51C (p : List Nat) : Code := sub (match Try.f51.body with | some c => c | none => .skip) p
noncomputable def g51X (c : Code) (K : Kon) : Env → St → Res := aexec Try.prog g51mu g51T big 70 (areg Try.prog g51mu g51T 70) c K
noncomputable def g51kr : Kon := aresK Try.prog Try.f51.results.toList
theorem g51reg {c : Code} {K : Kon} {G : Env → St → Res} {id : Nat} {ops : Array Oper} {l1 l2 : List Nat} (hc : c = .region id ops false) (hl : List.range ops.size = l1 ++ l2) (h : (fun env st => aops Try.prog g51mu g51T 70 ops l2 env st (K .normal)) = G) : g51X c K = fun env st => aops Try.prog g51mu g51T 70 ops l1 env st G := reg_cut hc hl h
theorem g51seq {c x y : Code} {K : Kon} {G : Env → St → Res} (hc : c = .seq x y) (hy : g51X y K = G) : g51X c K = g51X x (kSeq G K) := seq_cut hc hy
theorem g51blk {c x : Code} {K : Kon} {i : Nat} (hc : c = .block i x) : g51X c K = g51X x (kBlk i K) := blk_cut hc
theorem g51loop {c x : Code} {K : Kon} (hc : c = .loop x) : g51X c K = aloop (g51X x) K big := loop_cut hc
theorem g51cond {c x y : Code} {K : Kon} {v : Operand} {F G : Env → St → Res} (hc : c = .cond v x y) (hx : g51X x K = F) (hy : g51X y K = G) : g51X c K = condF v F G := cond_cut hc hx hy
noncomputable def g51k0 : Kon := kSeq (g51X (g51C [1, 1, 1, 1, 1, 1, 1]) (g51kr)) (g51kr)
noncomputable def g51bz72_17 (x4 : V) (x66 : V) (st : St) : Res :=
 A.guard x66 true
 (A.bin .leq x4 (.int .i64 4096) fun a1 =>
 some (.ret a1.er1, st))
 (some (.ret ((.bool false) : V).er1, st))
theorem g51ez72_17 : (fun env st => aops Try.prog g51mu g51T 70 (rops (g51C [1, 1, 1, 1, 1, 1, 0])) [17, 18, 19, 20] env st ((g51k0) .normal)) = fun env st => g51bz72_17 (env 4) (env 66) st := by
  refine Eq.trans (Eq.refl _) ?_
  funext env st
  kernel_rfl
noncomputable def g51bz72_6 (x1 : V) (x4 : V) (x5 : V) (x6 : V) (x55 : V) (st : St) : Res :=
 A.guard x55 true
 (A.un .not x5 fun a1 =>
 A.guard a1 true
 (A.faddr 2 x1 fun a2 =>
 A.load false 1 a2 st fun a3 z4 =>
 A.ret (s69 [a3.er1, x6.er1] z4) fun a5 z6 =>
 A.un .not a5 fun a7 =>
 g51bz72_17 x4 a7 z6)
 (g51bz72_17 x4 (.bool false) st))
 (g51bz72_17 x4 (.bool false) st)
theorem g51ez72_6 : (fun env st => aops Try.prog g51mu g51T 70 (rops (g51C [1, 1, 1, 1, 1, 1, 0])) [6, 7, 8, 9, 10, 11, 12, 13, 14, 15, 16, 17, 18, 19, 20] env st ((g51k0) .normal)) = fun env st => g51bz72_6 (env 1) (env 4) (env 5) (env 6) (env 55) st := by
  refine Eq.trans (ops_cut (l1 := [6, 7, 8, 9, 10, 11, 12, 13, 14, 15, 16]) (l2 := [17, 18, 19, 20]) (g51ez72_17)) ?_
  funext env st
  kernel_rfl
noncomputable def g51bz3j (x1 : V) (x3 : V) (x4 : V) (x5 : V) (x6 : V) (st : St) : Res :=
 A.faddr 1 x1 fun a1 =>
 A.load false 1 a1 st fun a2 z3 =>
 A.ret (s70 [a2.er1, x3.er1] z3) fun a4 z5 =>
 A.un .not a4 fun a6 =>
 g51bz72_6 x1 x4 x5 x6 a6 z5
theorem g51nz3j : g51C [1, 1, 1, 1, 1, 1] = .seq (g51C [1, 1, 1, 1, 1, 1, 0]) (g51C [1, 1, 1, 1, 1, 1, 1]) := by kernel_rfl
theorem g51rgz72 : g51C [1, 1, 1, 1, 1, 1, 0] = .region 12 (rops (g51C [1, 1, 1, 1, 1, 1, 0])) false := by kernel_rfl
theorem g51rgz72l : List.range (rops (g51C [1, 1, 1, 1, 1, 1, 0])).size = [0, 1, 2, 3, 4, 5] ++ [6, 7, 8, 9, 10, 11, 12, 13, 14, 15, 16, 17, 18, 19, 20] := by kernel_rfl
theorem g51ez3j : g51X (g51C [1, 1, 1, 1, 1, 1]) (g51kr) = fun env st => g51bz3j (env 1) (env 3) (env 4) (env 5) (env 6) st := by
  refine Eq.trans ((g51seq g51nz3j rfl).trans (g51reg g51rgz72 g51rgz72l (g51ez72_6))) ?_
  funext env st
  kernel_rfl
noncomputable def g51k1 : Kon := kSeq (fun env st => g51bz3j (env 1) (env 3) (env 4) (env 5) (env 6) st) (g51kr)
noncomputable def g51k2 : Kon := kBlk 0 (g51k1)
noncomputable def g51bze2 : Nat → V → V → V → V → V → V → V → V → St → Res
| 0, _, _, _, _, _, _, _, _, _ => none
| n + 1, x1, x3, x4, x5, x6, x33, x34, x35, st =>
 A.bin .lss x35 x34 fun a1 =>
 A.cond a1
 (A.iaddr 1 x33 x35 fun a2 =>
 A.load false 1 a2 st fun a3 z4 =>
 A.lenL a3 fun a5 =>
 A.bin .add x4 a5 fun a6 =>
 A.guard x5 false
 (A.ret (s69 [a3.er1, x6.er1] z4) fun a7 z8 =>
 A.bin .add x35 (.int .i64 1) fun a9 =>
 (g51bze2 n) x1 x3 a6 a7 x6 x33 x34 a9 z8)
 (A.bin .add x35 (.int .i64 1) fun a10 =>
 (g51bze2 n) x1 x3 a6 (.bool true) x6 x33 x34 a10 z4))
 (g51bz3j x1 x3 x4 x5 x6 st)
theorem g51nze2 : g51C [1, 1, 1, 1, 1, 0, 1, 0] = .loop (g51C [1, 1, 1, 1, 1, 0, 1, 0, 0]) := by kernel_rfl
noncomputable def g51k3 (Lze2 : V → V → V → V → V → V → V → V → St → Res) : Kon := kSeq (fun env st => Lze2 (env 1) (env 3) (env 4) (env 5) (env 6) (env 33) (env 34) (env 35) st) (g51k2)
theorem g51eze2 : g51X (g51C [1, 1, 1, 1, 1, 0, 1, 0]) (g51k2) = fun env st => g51bze2 big (env 1) (env 3) (env 4) (env 5) (env 6) (env 33) (env 34) (env 35) st := by
  have key : ∀ n, aloop (g51X (g51C [1, 1, 1, 1, 1, 0, 1, 0, 0])) (g51k2) n = fun env st => g51bze2 n (env 1) (env 3) (env 4) (env 5) (env 6) (env 33) (env 34) (env 35) st := by
    intro n
    induction n with
    | zero => rfl
    | succ n ih =>
      have h : aloop (g51X (g51C [1, 1, 1, 1, 1, 0, 1, 0, 0])) (g51k2) (n + 1) = g51X (g51C [1, 1, 1, 1, 1, 0, 1, 0, 0]) (kSeq (aloop (g51X (g51C [1, 1, 1, 1, 1, 0, 1, 0, 0])) (g51k2) n) (g51k2)) := rfl
      rw [h, ih]
      refine Eq.trans (Eq.refl _) ?_
      funext env st
      kernel_rfl
  exact (g51loop g51nze2).trans (key big)
noncomputable def g51b1111 (x1 : V) (x3 : V) (x4 : V) (x5 : V) (st : St) : Res :=
 A.faddr 3 x1 fun a1 =>
 A.load false 1 a1 st fun a2 z3 =>
 A.lenL a2 fun a4 =>
 g51bze2 big x1 x3 x4 x5 (.fn 68 [] []) a2 a4 (.int .i64 0) z3
theorem g51n1111 : g51C [1, 1, 1, 1] = .seq (g51C [1, 1, 1, 1, 0]) (g51C [1, 1, 1, 1, 1]) := by kernel_rfl
theorem g51n11111 : g51C [1, 1, 1, 1, 1] = .seq (g51C [1, 1, 1, 1, 1, 0]) (g51C [1, 1, 1, 1, 1, 1]) := by kernel_rfl
theorem g51nz3i : g51C [1, 1, 1, 1, 1, 0] = .seq (g51C [1, 1, 1, 1, 1, 0, 0]) (g51C [1, 1, 1, 1, 1, 0, 1]) := by kernel_rfl
theorem g51nz71 : g51C [1, 1, 1, 1, 1, 0, 1] = .block 0 (g51C [1, 1, 1, 1, 1, 0, 1, 0]) := by kernel_rfl
theorem g51e1111 : g51X (g51C [1, 1, 1, 1]) (g51kr) = fun env st => g51b1111 (env 1) (env 3) (env 4) (env 5) st := by
  refine Eq.trans (g51seq g51n1111 ((g51seq g51n11111 (g51ez3j)).trans (g51seq g51nz3i ((g51blk g51nz71).trans (g51eze2))))) ?_
  funext env st
  kernel_rfl
noncomputable def g51b11 (x1 : V) (st : St) : Res :=
 A.faddr 2 x1 fun a1 =>
 A.load false 1 a1 st fun a2 z3 =>
 A.lenL a2 fun a4 =>
 g51b1111 x1 (.fn 67 [] []) a4 (.bool false) z3
theorem g51n11 : g51C [1, 1] = .seq (g51C [1, 1, 0]) (g51C [1, 1, 1]) := by kernel_rfl
theorem g51n111 : g51C [1, 1, 1] = .seq (g51C [1, 1, 1, 0]) (g51C [1, 1, 1, 1]) := by kernel_rfl
theorem g51e11 : g51X (g51C [1, 1]) (g51kr) = fun env st => g51b11 (env 1) st := by
  refine Eq.trans (g51seq g51n11 (g51seq g51n111 (g51e1111))) ?_
  funext env st
  kernel_rfl
noncomputable def g51k4 : Kon := kSeq (fun env st => g51b11 (env 1) st) (g51kr)
noncomputable def g51k5 : Kon := kSeq (g51X (g51C [1, 0, 1]) (g51k4)) (g51k4)
noncomputable def g51b100_15 (x1 : V) (x23 : V) (st : St) : Res :=
 A.guard x23 false
 (A.faddr 3 x1 fun a1 =>
 A.load false 1 a1 st fun a2 z3 =>
 A.lenL a2 fun a4 =>
 A.bin .gtr a4 (.int .i64 4096) fun a5 =>
 A.cond a5
 (some (.ret ((.bool false) : V).er1, z3))
 (g51b11 x1 z3))
 (some (.ret ((.bool false) : V).er1, st))
theorem g51e100_15 : (fun env st => aops Try.prog g51mu g51T 70 (rops (g51C [1, 0, 0])) [15, 16, 17, 18, 19] env st ((g51k5) .normal)) = fun env st => g51b100_15 (env 1) (env 23) st := by
  refine Eq.trans (Eq.refl _) ?_
  funext env st
  kernel_rfl
noncomputable def g51b100_9 (x1 : V) (x17 : V) (st : St) : Res :=
 A.guard x17 false
 (A.faddr 1 x1 fun a1 =>
 A.load false 1 a1 st fun a2 z3 =>
 A.lenL a2 fun a4 =>
 A.bin .gtr a4 (.int .i64 64) fun a5 =>
 g51b100_15 x1 a5 z3)
 (g51b100_15 x1 (.bool true) st)
theorem g51e100_9 : (fun env st => aops Try.prog g51mu g51T 70 (rops (g51C [1, 0, 0])) [9, 10, 11, 12, 13, 14, 15, 16, 17, 18, 19] env st ((g51k5) .normal)) = fun env st => g51b100_9 (env 1) (env 17) st := by
  refine Eq.trans (ops_cut (l1 := [9, 10, 11, 12, 13, 14]) (l2 := [15, 16, 17, 18, 19]) (g51e100_15)) ?_
  funext env st
  kernel_rfl
noncomputable def f51 (x0 : V) (st : St) : Res :=
 A.box x0 st fun a1 z2 =>
 A.faddr 0 a1 fun a3 =>
 A.load false 1 a3 z2 fun a4 z5 =>
 A.bin .lss a4 (.int .i64 1) fun a6 =>
 A.guard a6 false
 (A.faddr 0 a1 fun a7 =>
 A.load false 1 a7 z5 fun a8 z9 =>
 A.bin .gtr a8 (.int .i64 255) fun a10 =>
 g51b100_9 a1 a10 z9)
 (g51b100_9 a1 (.bool true) z5)
theorem g51nr : g51C [] = .seq (g51C [0]) (g51C [1]) := by kernel_rfl
theorem g51n1 : g51C [1] = .seq (g51C [1, 0]) (g51C [1, 1]) := by kernel_rfl
theorem g51n10 : g51C [1, 0] = .seq (g51C [1, 0, 0]) (g51C [1, 0, 1]) := by kernel_rfl
theorem g51rg100 : g51C [1, 0, 0] = .region 1 (rops (g51C [1, 0, 0])) false := by kernel_rfl
theorem g51rg100l : List.range (rops (g51C [1, 0, 0])).size = [0, 1, 2, 3, 4, 5, 6, 7, 8] ++ [9, 10, 11, 12, 13, 14, 15, 16, 17, 18, 19] := by kernel_rfl
theorem g51er (env : Env) (st : St) : g51X (g51C []) g51kr env st = f51 (env 0) st := by
  rw [(g51seq g51nr ((g51seq g51n1 (g51e11)).trans ((g51seq g51n10 rfl).trans (g51reg g51rg100 g51rg100l (g51e100_9)))))]
  kernel_rfl
theorem s51_eq (x0 : V) (st : St) : s51 [x0] st = fg (f51 x0 st) st := by
  have h : afn Try.prog g51mu g51T big (areg Try.prog g51mu g51T) 51 [x0] st = g51X (g51C []) g51kr (fun t => [x0].getD t (.tup [])) st := by kernel_rfl
  rw [s51, sealF_eq]
  show fg _ st = fg _ st
  refine congrArg (fun r => fg r st) ?_
  exact h.trans (g51er _ st)
/-! (*strings.Builder).Len -/
def g53mu : Nat → Bool := fun _ => false
noncomputable def g53T : Tbl := tget []
theorem g53t : SimT Try.prog g53T := simT_nil
noncomputable def s53 : Fn := sealF (afn Try.prog g53mu g53T big (areg Try.prog g53mu g53T) 53)
theorem sim53 : Sim Try.prog 53 s53 := (afn_sim g53t (fun m => areg_sound g53t hmix m) 53 (by kernel_rfl)).sealed
noncomputable def f53 (x0 : V) (st : St) : Res :=
 A.nilc x0 fun a1 =>
 A.faddr 1 a1 fun a2 =>
 A.load false 1 a2 st fun a3 z4 =>
 A.lenL a3 fun a5 =>
 some (.ret a5.er1, z4)
theorem s53_eq (x0 : V) (st : St) : s53 [x0] st = f53 x0 st := by
  rw [s53, sealF_eq]
  kernel_rfl
end Go.Ab
