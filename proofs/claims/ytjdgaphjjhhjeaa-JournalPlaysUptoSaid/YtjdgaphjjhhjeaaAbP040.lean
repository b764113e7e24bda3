import Derived.Test.YtjdgaphjjhhjeaaAbQuiet
import Derived.Test.YtjdgaphjjhhjeaaAbB04
import Derived.Test.YtjdgaphjjhhjeaaAbR04
import Derived.Test.YtjdgaphjjhhjeaaAbR04s
namespace Go.Ab
open Go.Proofs
set_option linter.unusedVariables false
set_option maxRecDepth 100000
theorem hmix : Try.prog.follows .mixedOrders = true := by kernel_rfl
/-! sinew/journal.New -/
def g9mu : Nat → Bool := fun _ => false
noncomputable def g9T : Tbl := tget []
theorem g9t : SimT Try.prog g9T := simT_nil
noncomputable def s9 : Fn := sealF (afn Try.prog g9mu g9T big (areg Try.prog g9mu g9T) 9)
theorem sim9 : Sim Try.prog 9 s9 := (afn_sim g9t (fun m => areg_sound g9t hmix m) 9 (by kernel_rfl)).sealed
noncomputable def g9C (p : List Nat) : Code := sub (match Try.f9.body with | some c => c | none => .skip) p
noncomputable def g9X (c : Code) (K : Kon) : Env → St → Res := aexec Try.prog g9mu g9T big 13 (areg Try.prog g9mu g9T 13) c K
noncomputable def g9kr : Kon := aresK Try.prog Try.f9.results.toList
theorem g9reg {c : Code} {K : Kon} {G : Env → St → Res} {id : Nat} {ops : Array Oper} {l1 l2 : List Nat} (hc : c = .region id ops false) (hl : List.range ops.size = l1 ++ l2) (h : (fun env st => aops Try.prog g9mu g9T 13 ops l2 env st (K .normal)) = G) : g9X c K = fun env st => aops Try.prog g9mu g9T 13 ops l1 env st G := reg_cut hc hl h
theorem g9seq {c x y : Code} {K : Kon} {G : Env → St → Res} (hc : c = .seq x y) (hy : g9X y K = G) : g9X c K = g9X x (kSeq G K) := seq_cut hc hy
theorem g9blk {c x : Code} {K : Kon} {i : Nat} (hc : c = .block i x) : g9X c K = g9X x (kBlk i K) := blk_cut hc
theorem g9loop {c x : Code} {K : Kon} (hc : c = .loop x) : g9X c K = aloop (g9X x) K big := loop_cut hc
theorem g9cond {c x y : Code} {K : Kon} {v : Operand} {F G : Env → St → Res} (hc : c = .cond v x y) (hx : g9X x K = F) (hy : g9X y K = G) : g9X c K = condF v F G := cond_cut hc hx hy
noncomputable def g9b11 (x0 : V) (st : St) : Res :=
 A.build [(.int .i64 0), (.lst [] 1), (.int .i64 0)] [(0, 1, x0)] fun a1 =>
 A.box a1 st fun a2 z3 =>
 some (.ret (.tup [a2.er1, ((.int .i64 0) : V).er1]), z3)
theorem g9e11 : g9X (g9C [1, 1]) (g9kr) = fun env st => g9b11 (env 0) st := by
  refine Eq.trans (Eq.refl (g9X (g9C [1, 1]) (g9kr))) ?_
  funext env st
  kernel_rfl
noncomputable def f9 (x0 : V) (st : St) : Res :=
 A.bin .lss x0 (.int .i64 1) fun a1 =>
 A.guard a1 false
 (A.bin .gtr x0 (.int .i64 67108864) fun a2 =>
 A.cond a2
 (some (.ret (.tup [(.ptr0 : V).er1, ((.int .i64 1) : V).er1]), st))
 (g9b11 x0 st))
 (some (.ret (.tup [(.ptr0 : V).er1, ((.int .i64 1) : V).er1]), st))
theorem g9nr : g9C [] = .seq (g9C [0]) (g9C [1]) := by kernel_rfl
theorem g9n1 : g9C [1] = .seq (g9C [1, 0]) (g9C [1, 1]) := by kernel_rfl
theorem g9er (env : Env) (st : St) : g9X (g9C []) g9kr env st = f9 (env 0) st := by
  rw [(g9seq g9nr (g9seq g9n1 (g9e11)))]
  kernel_rfl
theorem s9_eq (x0 : V) (st : St) : s9 [x0] st = f9 x0 st := by
  have h : afn Try.prog g9mu g9T big (areg Try.prog g9mu g9T) 9 [x0] st = g9X (g9C []) g9kr (fun t => [x0].getD t (.tup [])) st := by kernel_rfl
  rw [s9, sealF_eq]
  exact h.trans (g9er _ st)
/-! sinew/sinewlaw04.light -/
def g10mu : Nat → Bool := fun _ => false
noncomputable def g10T : Tbl := tget []
theorem g10t : SimT Try.prog g10T := simT_nil
noncomputable def s10 : Fn := sealF (fun args st => fg (afn Try.prog g10mu g10T big (areg Try.prog g10mu g10T) 10 args st) st)
theorem sim10 : Sim Try.prog 10 s10 := (afn_sim g10t (fun m => areg_sound g10t hmix m) 10 (by kernel_rfl)).fg.sealed
noncomputable def g10C (p : List Nat) : Code := sub (match Try.f10.body with | some c => c | none => .skip) p
noncomputable def g10X (c : Code) (K : Kon) : Env → St → Res := aexec Try.prog g10mu g10T big 54 (areg Try.prog g10mu g10T 54) c K
noncomputable def g10kr : Kon := aresK Try.prog Try.f10.results.toList
theorem g10reg {c : Code} {K : Kon} {G : Env → St → Res} {id : Nat} {ops : Array Oper} {l1 l2 : List Nat} (hc : c = .region id ops false) (hl : List.range ops.size = l1 ++ l2) (h : (fun env st => aops Try.prog g10mu g10T 54 ops l2 env st (K .normal)) = G) : g10X c K = fun env st => aops Try.prog g10mu g10T 54 ops l1 env st G := reg_cut hc hl h
theorem g10seq {c x y : Code} {K : Kon} {G : Env → St → Res} (hc : c = .seq x y) (hy : g10X y K = G) : g10X c K = g10X x (kSeq G K) := seq_cut hc hy
theorem g10blk {c x : Code} {K : Kon} {i : Nat} (hc : c = .block i x) : g10X c K = g10X x (kBlk i K) := blk_cut hc
theorem g10loop {c x : Code} {K : Kon} (hc : c = .loop x) : g10X c K = aloop (g10X x) K big := loop_cut hc
theorem g10cond {c x y : Code} {K : Kon} {v : Operand} {F G : Env → St → Res} (hc : c = .cond v x y) (hx : g10X x K = F) (hy : g10X y K = G) : g10X c K = condF v F G := cond_cut hc hx hy
noncomputable def g10k0 : Kon := kSeq (g10X (g10C [1, 1, 1, 1]) (g10kr)) (g10kr)
noncomputable def g10k1 : Kon := kBlk 2 (g10k0)
noncomputable def g10k2 (L111010 : V → V → V → St → Res) : Kon := kSeq (fun env st => L111010 (env 1) (env 3) (env 5) st) (g10k1)
noncomputable def g10k3 (L111010 : V → V → V → St → Res) : Kon := kSeq (g10X (g10C [1, 1, 1, 0, 1, 0, 0, 1, 1]) (g10k2 L111010)) (g10k2 L111010)
noncomputable def g10k4 (L111010 : V → V → V → St → Res) : Kon := kBlk 3 (g10k3 L111010)
noncomputable def g10k5 (L111010 : V → V → V → St → Res) : Kon := kBlk 4 (g10k4 L111010)
noncomputable def g10b111010010010 (L111010 : V → V → V → St → Res) : Nat → V → V → V → V → St → Res
| 0, _, _, _, _, _ => none
| n + 1, x1, x3, x5, x6, st =>
 A.faddr 3 x1 fun a1 =>
 A.load false 1 a1 st fun a2 z3 =>
 A.iaddr 1 a2 x5 fun a4 =>
 A.load false 1 a4 z3 fun a5 z6 =>
 A.lenL a5 fun a7 =>
 A.bin .lss x6 a7 fun a8 =>
 A.cond a8
 (A.faddr 3 x1 fun a9 =>
 A.load false 1 a9 z6 fun a10 z11 =>
 A.iaddr 1 a10 x5 fun a12 =>
 A.load false 1 a12 z11 fun a13 z14 =>
 A.iaddr 1 a13 x6 fun a15 =>
 A.load false 1 a15 z14 fun a16 z17 =>
 A.lenS a16 fun a18 =>
 A.min a18 (.int .i64 4096) fun a19 =>
 A.bin .add x3 a19 fun a20 =>
 A.bin .add x6 (.int .i64 1) fun a21 =>
 (g10b111010010010 L111010 n) x1 a20 x5 a21 z17)
 (A.bin .add x5 (.int .i64 1) fun a22 =>
 L111010 x1 x3 a22 z6)
theorem g10n111010010010 : g10C [1, 1, 1, 0, 1, 0, 0, 1, 0, 0, 1, 0] = .loop (g10C [1, 1, 1, 0, 1, 0, 0, 1, 0, 0, 1, 0, 0]) := by kernel_rfl
noncomputable def g10k6 (L111010 : V → V → V → St → Res) (L111010010010 : V → V → V → V → St → Res) : Kon := kSeq (fun env st => L111010010010 (env 1) (env 3) (env 5) (env 6) st) (g10k5 L111010)
theorem g10e111010010010 (L111010 : V → V → V → St → Res) : g10X (g10C [1, 1, 1, 0, 1, 0, 0, 1, 0, 0, 1, 0]) (g10k5 L111010) = fun env st => g10b111010010010 L111010 big (env 1) (env 3) (env 5) (env 6) st := by
  have key : ∀ n, aloop (g10X (g10C [1, 1, 1, 0, 1, 0, 0, 1, 0, 0, 1, 0, 0])) (g10k5 L111010) n = fun env st => g10b111010010010 L111010 n (env 1) (env 3) (env 5) (env 6) st := by
    intro n
    induction n with
    | zero => rfl
    | succ n ih =>
      have h : aloop (g10X (g10C [1, 1, 1, 0, 1, 0, 0, 1, 0, 0, 1, 0, 0])) (g10k5 L111010) (n + 1) = g10X (g10C [1, 1, 1, 0, 1, 0, 0, 1, 0, 0, 1, 0, 0]) (kSeq (aloop (g10X (g10C [1, 1, 1, 0, 1, 0, 0, 1, 0, 0, 1, 0, 0])) (g10k5 L111010) n) (g10k5 L111010)) := rfl
      rw [h, ih]
      refine Eq.trans (Eq.refl _) ?_
      funext env st
      kernel_rfl
  exact (g10loop g10n111010010010).trans (key big)
noncomputable def g10b111010 : Nat → V → V → V → St → Res
| 0, _, _, _, _ => none
| n + 1, x1, x3, x5, st =>
 A.faddr 3 x1 fun a1 =>
 A.load false 1 a1 st fun a2 z3 =>
 A.lenL a2 fun a4 =>
 A.bin .lss x5 a4 fun a5 =>
 A.cond a5
 (g10b111010010010 (g10b111010 n) big x1 x3 x5 (.int .i64 0) z3)
 (A.bin .lss x3 (.int .i64 2048) fun a6 =>
 some (.ret a6.er1, z3))
theorem g10n111010 : g10C [1, 1, 1, 0, 1, 0] = .loop (g10C [1, 1, 1, 0, 1, 0, 0]) := by kernel_rfl
theorem g10n1110100 : g10C [1, 1, 1, 0, 1, 0, 0] = .seq (g10C [1, 1, 1, 0, 1, 0, 0, 0]) (g10C [1, 1, 1, 0, 1, 0, 0, 1]) := by kernel_rfl
theorem g10n11101001 : g10C [1, 1, 1, 0, 1, 0, 0, 1] = .seq (g10C [1, 1, 1, 0, 1, 0, 0, 1, 0]) (g10C [1, 1, 1, 0, 1, 0, 0, 1, 1]) := by kernel_rfl
theorem g10n111010010 : g10C [1, 1, 1, 0, 1, 0, 0, 1, 0] = .block 3 (g10C [1, 1, 1, 0, 1, 0, 0, 1, 0, 0]) := by kernel_rfl
theorem g10n1110100100 : g10C [1, 1, 1, 0, 1, 0, 0, 1, 0, 0] = .seq (g10C [1, 1, 1, 0, 1, 0, 0, 1, 0, 0, 0]) (g10C [1, 1, 1, 0, 1, 0, 0, 1, 0, 0, 1]) := by kernel_rfl
theorem g10n11101001001 : g10C [1, 1, 1, 0, 1, 0, 0, 1, 0, 0, 1] = .block 4 (g10C [1, 1, 1, 0, 1, 0, 0, 1, 0, 0, 1, 0]) := by kernel_rfl
theorem g10e111010 : g10X (g10C [1, 1, 1, 0, 1, 0]) (g10k1) = fun env st => g10b111010 big (env 1) (env 3) (env 5) st := by
  have key : ∀ n, aloop (g10X (g10C [1, 1, 1, 0, 1, 0, 0])) (g10k1) n = fun env st => g10b111010 n (env 1) (env 3) (env 5) st := by
    intro n
    induction n with
    | zero => rfl
    | succ n ih =>
      have h : aloop (g10X (g10C [1, 1, 1, 0, 1, 0, 0])) (g10k1) (n + 1) = g10X (g10C [1, 1, 1, 0, 1, 0, 0]) (kSeq (aloop (g10X (g10C [1, 1, 1, 0, 1, 0, 0])) (g10k1) n) (g10k1)) := rfl
      rw [h, ih]
      refine Eq.trans (g10seq g10n1110100 ((g10seq g10n11101001 rfl).trans ((g10blk g10n111010010).trans (g10seq g10n1110100100 ((g10blk g10n11101001001).trans (g10e111010010010 (g10b111010 n))))))) ?_
      funext env st
      kernel_rfl
  exact (g10loop g10n111010).trans (key big)
noncomputable def g10b111 (x1 : V) (x3 : V) (st : St) : Res :=
 g10b111010 big x1 x3 (.int .i64 0) st
theorem g10n111 : g10C [1, 1, 1] = .seq (g10C [1, 1, 1, 0]) (g10C [1, 1, 1, 1]) := by kernel_rfl
theorem g10n1110 : g10C [1, 1, 1, 0] = .seq (g10C [1, 1, 1, 0, 0]) (g10C [1, 1, 1, 0, 1]) := by kernel_rfl
theorem g10n11101 : g10C [1, 1, 1, 0, 1] = .block 2 (g10C [1, 1, 1, 0, 1, 0]) := by kernel_rfl
theorem g10e111 : g10X (g10C [1, 1, 1]) (g10kr) = fun env st => g10b111 (env 1) (env 3) st := by
  refine Eq.trans ((g10seq g10n111 rfl).trans (g10seq g10n1110 ((g10blk g10n11101).trans (g10e111010)))) ?_
  funext env st
  kernel_rfl
noncomputable def g10k7 : Kon := kSeq (fun env st => g10b111 (env 1) (env 3) st) (g10kr)
noncomputable def g10k8 : Kon := kBlk 0 (g10k7)
noncomputable def g10b11010 : Nat → V → V → V → St → Res
| 0, _, _, _, _ => none
| n + 1, x1, x3, x4, st =>
 A.faddr 2 x1 fun a1 =>
 A.load false 1 a1 st fun a2 z3 =>
 A.lenL a2 fun a4 =>
 A.bin .lss x4 a4 fun a5 =>
 A.cond a5
 (A.faddr 2 x1 fun a6 =>
 A.load false 1 a6 z3 fun a7 z8 =>
 A.iaddr 1 a7 x4 fun a9 =>
 A.load false 1 a9 z8 fun a10 z11 =>
 A.lenS a10 fun a12 =>
 A.min a12 (.int .i64 4096) fun a13 =>
 A.bin .add x3 a13 fun a14 =>
 A.bin .add x4 (.int .i64 1) fun a15 =>
 (g10b11010 n) x1 a14 a15 z11)
 (g10b111 x1 x3 z3)
theorem g10n11010 : g10C [1, 1, 0, 1, 0] = .loop (g10C [1, 1, 0, 1, 0, 0]) := by kernel_rfl
noncomputable def g10k9 (L11010 : V → V → V → St → Res) : Kon := kSeq (fun env st => L11010 (env 1) (env 3) (env 4) st) (g10k8)
theorem g10e11010 : g10X (g10C [1, 1, 0, 1, 0]) (g10k8) = fun env st => g10b11010 big (env 1) (env 3) (env 4) st := by
  have key : ∀ n, aloop (g10X (g10C [1, 1, 0, 1, 0, 0])) (g10k8) n = fun env st => g10b11010 n (env 1) (env 3) (env 4) st := by
    intro n
    induction n with
    | zero => rfl
    | succ n ih =>
      have h : aloop (g10X (g10C [1, 1, 0, 1, 0, 0])) (g10k8) (n + 1) = g10X (g10C [1, 1, 0, 1, 0, 0]) (kSeq (aloop (g10X (g10C [1, 1, 0, 1, 0, 0])) (g10k8) n) (g10k8)) := rfl
      rw [h, ih]
      refine Eq.trans (Eq.refl _) ?_
      funext env st
      kernel_rfl
  exact (g10loop g10n11010).trans (key big)
noncomputable def f10 (x0 : V) (st : St) : Res :=
 A.box x0 st fun a1 z2 =>
 g10b11010 big a1 (.int .i64 0) (.int .i64 0) z2
theorem g10nr : g10C [] = .seq (g10C [0]) (g10C [1]) := by kernel_rfl
theorem g10n1 : g10C [1] = .seq (g10C [1, 0]) (g10C [1, 1]) := by kernel_rfl
theorem g10n11 : g10C [1, 1] = .seq (g10C [1, 1, 0]) (g10C [1, 1, 1]) := by kernel_rfl
theorem g10n110 : g10C [1, 1, 0] = .seq (g10C [1, 1, 0, 0]) (g10C [1, 1, 0, 1]) := by kernel_rfl
theorem g10n1101 : g10C [1, 1, 0, 1] = .block 0 (g10C [1, 1, 0, 1, 0]) := by kernel_rfl
theorem g10er (env : Env) (st : St) : g10X (g10C []) g10kr env st = f10 (env 0) st := by
  rw [(g10seq g10nr (g10seq g10n1 ((g10seq g10n11 (g10e111)).trans (g10seq g10n110 ((g10blk g10n1101).trans (g10e11010))))))]
  kernel_rfl
theorem s10_eq (x0 : V) (st : St) : s10 [x0] st = fg (f10 x0 st) st := by
  have h : afn Try.prog g10mu g10T big (areg Try.prog g10mu g10T) 10 [x0] st = g10X (g10C []) g10kr (fun t => [x0].getD t (.tup [])) st := by kernel_rfl
  rw [s10, sealF_eq]
  show fg _ st = fg _ st
  refine congrArg (fun r => fg r st) ?_
  exact h.trans (g10er _ st)
/-! sinew/wire.fits$1 -/
def g56mu : Nat → Bool := fun _ => false
noncomputable def g56T : Tbl := tget []
theorem g56t : SimT Try.prog g56T := simT_nil
noncomputable def s56 : Fn := sealF (afn Try.prog g56mu g56T big (areg Try.prog g56mu g56T) 56)
theorem sim56 : Sim Try.prog 56 s56 := (afn_sim g56t (fun m => areg_sound g56t hmix m) 56 (by kernel_rfl)).sealed
noncomputable def f56 (x0 : V) (st : St) : Res :=
 A.bin .lss x0 (.int .i64 0) fun a1 =>
 A.guard a1 false
 (A.bin .gtr x0 (.int .i64 4611686018427387903) fun a2 =>
 some (.ret a2.er1, st))
 (some (.ret ((.bool true) : V).er1, st))
theorem s56_eq (x0 : V) (st : St) : s56 [x0] st = f56 x0 st := by
  rw [s56, sealF_eq]
  kernel_rfl
/-! sinew/wire.fits$2 -/
def g57mu : Nat → Bool := fun _ => false
noncomputable def g57T : Tbl := tget []
theorem g57t : SimT Try.prog g57T := simT_nil
noncomputable def s57 : Fn := sealF (afn Try.prog g57mu g57T big (areg Try.prog g57mu g57T) 57)
theorem sim57 : Sim Try.prog 57 s57 := (afn_sim g57t (fun m => areg_sound g57t hmix m) 57 (by kernel_rfl)).sealed
noncomputable def f57 (x0 : V) (st : St) : Res :=
 A.lenS x0 fun a1 =>
 A.bin .gtr a1 (.int .i64 65536) fun a2 =>
 some (.ret a2.er1, st)
theorem s57_eq (x0 : V) (st : St) : s57 [x0] st = f57 x0 st := by
  rw [s57, sealF_eq]
  kernel_rfl
/-! slices.IndexFunc[[]string,string] -/
def g70mu : Nat → Bool := fun _ => false
noncomputable def g70T : Tbl := tget [(56, s56), (57, s57)]
theorem g70t : SimT Try.prog g70T := simT_cons sim56 ( simT_cons sim57 (simT_nil))
noncomputable def s70 : Fn := sealF (afn Try.prog g70mu g70T big (areg Try.prog g70mu g70T) 70)
theorem sim70 : Sim Try.prog 70 s70 := (afn_sim g70t (fun m => areg_sound g70t hmix m) 70 (by kernel_rfl)).sealed
noncomputable def g70C (p : List Nat) : Code := sub (match Try.f70.body with | some c => c | none => .skip) p
noncomputable def g70X (c : Code) (K : Kon) : Env → St → Res := aexec Try.prog g70mu g70T big 19 (areg Try.prog g70mu g70T 19) c K
noncomputable def g70kr : Kon := aresK Try.prog Try.f70.results.toList
theorem g70reg {c : Code} {K : Kon} {G : Env → St → Res} {id : Nat} {ops : Array Oper} {l1 l2 : List Nat} (hc : c = .region id ops false) (hl : List.range ops.size = l1 ++ l2) (h : (fun env st => aops Try.prog g70mu g70T 19 ops l2 env st (K .normal)) = G) : g70X c K = fun env st => aops Try.prog g70mu g70T 19 ops l1 env st G := reg_cut hc hl h
theorem g70seq {c x y : Code} {K : Kon} {G : Env → St → Res} (hc : c = .seq x y) (hy : g70X y K = G) : g70X c K = g70X x (kSeq G K) := seq_cut hc hy
theorem g70blk {c x : Code} {K : Kon} {i : Nat} (hc : c = .block i x) : g70X c K = g70X x (kBlk i K) := blk_cut hc
theorem g70loop {c x : Code} {K : Kon} (hc : c = .loop x) : g70X c K = aloop (g70X x) K big := loop_cut hc
theorem g70cond {c x y : Code} {K : Kon} {v : Operand} {F G : Env → St → Res} (hc : c = .cond v x y) (hx : g70X x K = F) (hy : g70X y K = G) : g70X c K = condF v F G := cond_cut hc hx hy
noncomputable def g70k0 : Kon := kSeq (g70X (g70C [1, 1]) (g70kr)) (g70kr)
noncomputable def g70k1 : Kon := kBlk 0 (g70k0)
noncomputable def g70b1010 : Nat → V → V → V → V → St → Res
| 0, _, _, _, _, _ => none
| n + 1, x0, x1, x7, x8, st =>
 A.bin .lss x8 x7 fun a1 =>
 A.cond a1
 (A.iaddr 1 x0 x8 fun a2 =>
 A.load false 1 a2 st fun a3 z4 =>
 A.call g70T x1 [a3] z4 fun a5 z6 =>
 A.cond a5
 (some (.ret x8.er1, z6))
 (A.bin .add x8 (.int .i64 1) fun a7 =>
 (g70b1010 n) x0 x1 x7 a7 z6))
 (some (.ret ((.int .i64 (-1)) : V).er1, st))
theorem g70n1010 : g70C [1, 0, 1, 0] = .loop (g70C [1, 0, 1, 0, 0]) := by kernel_rfl
noncomputable def g70k2 (L1010 : V → V → V → V → St → Res) : Kon := kSeq (fun env st => L1010 (env 0) (env 1) (env 7) (env 8) st) (g70k1)
theorem g70e1010 : g70X (g70C [1, 0, 1, 0]) (g70k1) = fun env st => g70b1010 big (env 0) (env 1) (env 7) (env 8) st := by
  have key : ∀ n, aloop (g70X (g70C [1, 0, 1, 0, 0])) (g70k1) n = fun env st => g70b1010 n (env 0) (env 1) (env 7) (env 8) st := by
    intro n
    induction n with
    | zero => rfl
    | succ n ih =>
      have h : aloop (g70X (g70C [1, 0, 1, 0, 0])) (g70k1) (n + 1) = g70X (g70C [1, 0, 1, 0, 0]) (kSeq (aloop (g70X (g70C [1, 0, 1, 0, 0])) (g70k1) n) (g70k1)) := rfl
      rw [h, ih]
      refine Eq.trans (Eq.refl _) ?_
      funext env st
      kernel_rfl
  exact (g70loop g70n1010).trans (key big)
noncomputable def f70 (x0 : V) (x1 : V) (st : St) : Res :=
 A.lenL x0 fun a1 =>
 g70b1010 big x0 x1 a1 (.int .i64 0) st
theorem g70nr : g70C [] = .seq (g70C [0]) (g70C [1]) := by kernel_rfl
theorem g70n1 : g70C [1] = .seq (g70C [1, 0]) (g70C [1, 1]) := by kernel_rfl
theorem g70n10 : g70C [1, 0] = .seq (g70C [1, 0, 0]) (g70C [1, 0, 1]) := by kernel_rfl
theorem g70n101 : g70C [1, 0, 1] = .block 0 (g70C [1, 0, 1, 0]) := by kernel_rfl
theorem g70er (env : Env) (st : St) : g70X (g70C []) g70kr env st = f70 (env 0) (env 1) st := by
  rw [(g70seq g70nr ((g70seq g70n1 rfl).trans (g70seq g70n10 ((g70blk g70n101).trans (g70e1010)))))]
  kernel_rfl
theorem s70_eq (x0 : V) (x1 : V) (st : St) : s70 [x0, x1] st = f70 x0 x1 st := by
  have h : afn Try.prog g70mu g70T big (areg Try.prog g70mu g70T) 70 [x0, x1] st = g70X (g70C []) g70kr (fun t => [x0, x1].getD t (.tup [])) st := by kernel_rfl
  rw [s70, sealF_eq]
  exact h.trans (g70er _ st)
/-! slices.ContainsFunc[[]string,string] -/
def g58mu : Nat → Bool := fun _ => false
noncomputable def g58T : Tbl := tget [(70, s70)]
theorem g58t : SimT Try.prog g58T := simT_cons sim70 (simT_nil)
noncomputable def s58 : Fn := sealF (afn Try.prog g58mu g58T big (areg Try.prog g58mu g58T) 58)
theorem sim58 : Sim Try.prog 58 s58 := (afn_sim g58t (fun m => areg_sound g58t hmix m) 58 (by kernel_rfl)).sealed
noncomputable def f58 (x0 : V) (x1 : V) (st : St) : Res :=
 A.ret (s70 [x0.er1, x1.er1] st) fun a1 z2 =>
 A.bin .geq a1 (.int .i64 0) fun a3 =>
 some (.ret a3.er1, z2)
theorem s58_eq (x0 : V) (x1 : V) (st : St) : s58 [x0, x1] st = f58 x0 x1 st := by
  rw [s58, sealF_eq]
  kernel_rfl
/-! slices.IndexFunc[[]int,int] -/
def g71mu : Nat → Bool := fun _ => false
noncomputable def g71T : Tbl := tget [(56, s56), (57, s57)]
theorem g71t : SimT Try.prog g71T := simT_cons sim56 ( simT_cons sim57 (simT_nil))
noncomputable def s71 : Fn := sealF (afn Try.prog g71mu g71T big (areg Try.prog g71mu g71T) 71)
theorem sim71 : Sim Try.prog 71 s71 := (afn_sim g71t (fun m => areg_sound g71t hmix m) 71 (by kernel_rfl)).sealed
noncomputable def g71C (p : List Nat) : Code := sub (match Try.f71.body with | some c => c | none => .skip) p
noncomputable def g71X (c : Code) (K : Kon) : Env → St → Res := aexec Try.prog g71mu g71T big 19 (areg Try.prog g71mu g71T 19) c K
noncomputable def g71kr : Kon := aresK Try.prog Try.f71.results.toList
theorem g71reg {c : Code} {K : Kon} {G : Env → St → Res} {id : Nat} {ops : Array Oper} {l1 l2 : List Nat} (hc : c = .region id ops false) (hl : List.range ops.size = l1 ++ l2) (h : (fun env st => aops Try.prog g71mu g71T 19 ops l2 env st (K .normal)) = G) : g71X c K = fun env st => aops Try.prog g71mu g71T 19 ops l1 env st G := reg_cut hc hl h
theorem g71seq {c x y : Code} {K : Kon} {G : Env → St → Res} (hc : c = .seq x y) (hy : g71X y K = G) : g71X c K = g71X x (kSeq G K) := seq_cut hc hy
theorem g71blk {c x : Code} {K : Kon} {i : Nat} (hc : c = .block i x) : g71X c K = g71X x (kBlk i K) := blk_cut hc
theorem g71loop {c x : Code} {K : Kon} (hc : c = .loop x) : g71X c K = aloop (g71X x) K big := loop_cut hc
theorem g71cond {c x y : Code} {K : Kon} {v : Operand} {F G : Env → St → Res} (hc : c = .cond v x y) (hx : g71X x K = F) (hy : g71X y K = G) : g71X c K = condF v F G := cond_cut hc hx hy
noncomputable def g71k0 : Kon := kSeq (g71X (g71C [1, 1]) (g71kr)) (g71kr)
noncomputable def g71k1 : Kon := kBlk 0 (g71k0)
noncomputable def g71b1010 : Nat → V → V → V → V → St → Res
| 0, _, _, _, _, _ => none
| n + 1, x0, x1, x7, x8, st =>
 A.bin .lss x8 x7 fun a1 =>
 A.cond a1
 (A.iaddr 1 x0 x8 fun a2 =>
 A.load false 1 a2 st fun a3 z4 =>
 A.call g71T x1 [a3] z4 fun a5 z6 =>
 A.cond a5
 (some (.ret x8.er1, z6))
 (A.bin .add x8 (.int .i64 1) fun a7 =>
 (g71b1010 n) x0 x1 x7 a7 z6))
 (some (.ret ((.int .i64 (-1)) : V).er1, st))
theorem g71n1010 : g71C [1, 0, 1, 0] = .loop (g71C [1, 0, 1, 0, 0]) := by kernel_rfl
noncomputable def g71k2 (L1010 : V → V → V → V → St → Res) : Kon := kSeq (fun env st => L1010 (env 0) (env 1) (env 7) (env 8) st) (g71k1)
theorem g71e1010 : g71X (g71C [1, 0, 1, 0]) (g71k1) = fun env st => g71b1010 big (env 0) (env 1) (env 7) (env 8) st := by
  have key : ∀ n, aloop (g71X (g71C [1, 0, 1, 0, 0])) (g71k1) n = fun env st => g71b1010 n (env 0) (env 1) (env 7) (env 8) st := by
    intro n
    induction n with
    | zero => rfl
    | succ n ih =>
      have h : aloop (g71X (g71C [1, 0, 1, 0, 0])) (g71k1) (n + 1) = g71X (g71C [1, 0, 1, 0, 0]) (kSeq (aloop (g71X (g71C [1, 0, 1, 0, 0])) (g71k1) n) (g71k1)) := rfl
      rw [h, ih]
      refine Eq.trans (Eq.refl _) ?_
      funext env st
      kernel_rfl
  exact (g71loop g71n1010).trans (key big)
noncomputable def f71 (x0 : V) (x1 : V) (st : St) : Res :=
 A.lenL x0 fun a1 =>
 g71b1010 big x0 x1 a1 (.int .i64 0) st
theorem g71nr : g71C [] = .seq (g71C [0]) (g71C [1]) := by kernel_rfl
theorem g71n1 : g71C [1] = .seq (g71C [1, 0]) (g71C [1, 1]) := by kernel_rfl
theorem g71n10 : g71C [1, 0] = .seq (g71C [1, 0, 0]) (g71C [1, 0, 1]) := by kernel_rfl
theorem g71n101 : g71C [1, 0, 1] = .block 0 (g71C [1, 0, 1, 0]) := by kernel_rfl
theorem g71er (env : Env) (st : St) : g71X (g71C []) g71kr env st = f71 (env 0) (env 1) st := by
  rw [(g71seq g71nr ((g71seq g71n1 rfl).trans (g71seq g71n10 ((g71blk g71n101).trans (g71e1010)))))]
  kernel_rfl
theorem s71_eq (x0 : V) (x1 : V) (st : St) : s71 [x0, x1] st = f71 x0 x1 st := by
  have h : afn Try.prog g71mu g71T big (areg Try.prog g71mu g71T) 71 [x0, x1] st = g71X (g71C []) g71kr (fun t => [x0, x1].getD t (.tup [])) st := by kernel_rfl
  rw [s71, sealF_eq]
  exact h.trans (g71er _ st)
/-! slices.ContainsFunc[[]int,int] -/
def g59mu : Nat → Bool := fun _ => false
noncomputable def g59T : Tbl := tget [(71, s71)]
theorem g59t : SimT Try.prog g59T := simT_cons sim71 (simT_nil)
noncomputable def s59 : Fn := sealF (afn Try.prog g59mu g59T big (areg Try.prog g59mu g59T) 59)
theorem sim59 : Sim Try.prog 59 s59 := (afn_sim g59t (fun m => areg_sound g59t hmix m) 59 (by kernel_rfl)).sealed
noncomputable def f59 (x0 : V) (x1 : V) (st : St) : Res :=
 A.ret (s71 [x0.er1, x1.er1] st) fun a1 z2 =>
 A.bin .geq a1 (.int .i64 0) fun a3 =>
 some (.ret a3.er1, z2)
theorem s59_eq (x0 : V) (x1 : V) (st : St) : s59 [x0, x1] st = f59 x0 x1 st := by
  rw [s59, sealF_eq]
  kernel_rfl
/-! sinew/wire.fits -/
def g42mu : Nat → Bool := fun _ => false
noncomputable def g42T : Tbl := tget [(58, s58), (59, s59)]
theorem g42t : SimT Try.prog g42T := simT_cons sim58 ( simT_cons sim59 (simT_nil))
noncomputable def s42 : Fn := sealF (fun args st => fg (afn Try.prog g42mu g42T big (areg Try.prog g42mu g42T) 42 args st) st)
theorem sim42 : Sim Try.prog 42 s42 := (afn_sim g42t (fun m => areg_sound g42t hmix m) 42 (by kernel_rfl)).fg.sealed
noncomputable def g42C (p : List Nat) : Code := sub (match Try.f42.body with | some c => c | none => .skip) p
noncomputable def g42X (c : Code) (K : Kon) : Env → St → Res := aexec Try.prog g42mu g42T big 70 (areg Try.prog g42mu g42T 70) c K
noncomputable def g42kr : Kon := aresK Try.prog Try.f42.results.toList
theorem g42reg {c : Code} {K : Kon} {G : Env → St → Res} {id : Nat} {ops : Array Oper} {l1 l2 : List Nat} (hc : c = .region id ops false) (hl : List.range ops.size = l1 ++ l2) (h : (fun env st => aops Try.prog g42mu g42T 70 ops l2 env st (K .normal)) = G) : g42X c K = fun env st => aops Try.prog g42mu g42T 70 ops l1 env st G := reg_cut hc hl h
theorem g42seq {c x y : Code} {K : Kon} {G : Env → St → Res} (hc : c = .seq x y) (hy : g42X y K = G) : g42X c K = g42X x (kSeq G K) := seq_cut hc hy
theorem g42blk {c x : Code} {K : Kon} {i : Nat} (hc : c = .block i x) : g42X c K = g42X x (kBlk i K) := blk_cut hc
theorem g42loop {c x : Code} {K : Kon} (hc : c = .loop x) : g42X c K = aloop (g42X x) K big := loop_cut hc
theorem g42cond {c x y : Code} {K : Kon} {v : Operand} {F G : Env → St → Res} (hc : c = .cond v x y) (hx : g42X x K = F) (hy : g42X y K = G) : g42X c K = condF v F G := cond_cut hc hx hy
noncomputable def g42k0 : Kon := kSeq (g42X (g42C [1, 1, 1, 1, 1, 1, 1]) (g42kr)) (g42kr)
noncomputable def g42b1111110_17 (x4 : V) (x66 : V) (st : St) : Res :=
 A.guard x66 true
 (A.bin .leq x4 (.int .i64 4096) fun a1 =>
 some (.ret a1.er1, st))
 (some (.ret ((.bool false) : V).er1, st))
theorem g42e1111110_17 : (fun env st => aops Try.prog g42mu g42T 70 (rops (g42C [1, 1, 1, 1, 1, 1, 0])) [17, 18, 19, 20] env st ((g42k0) .normal)) = fun env st => g42b1111110_17 (env 4) (env 66) st := by
  refine Eq.trans (Eq.refl _) ?_
  funext env st
  kernel_rfl
noncomputable def g42b1111110_6 (x1 : V) (x4 : V) (x5 : V) (x6 : V) (x55 : V) (st : St) : Res :=
 A.guard x55 true
 (A.un .not x5 fun a1 =>
 A.guard a1 true
 (A.faddr 2 x1 fun a2 =>
 A.load false 1 a2 st fun a3 z4 =>
 A.ret (s58 [a3.er1, x6.er1] z4) fun a5 z6 =>
 A.un .not a5 fun a7 =>
 g42b1111110_17 x4 a7 z6)
 (g42b1111110_17 x4 (.bool false) st))
 (g42b1111110_17 x4 (.bool false) st)
theorem g42e1111110_6 : (fun env st => aops Try.prog g42mu g42T 70 (rops (g42C [1, 1, 1, 1, 1, 1, 0])) [6, 7, 8, 9, 10, 11, 12, 13, 14, 15, 16, 17, 18, 19, 20] env st ((g42k0) .normal)) = fun env st => g42b1111110_6 (env 1) (env 4) (env 5) (env 6) (env 55) st := by
  refine Eq.trans (ops_cut (l1 := [6, 7, 8, 9, 10, 11, 12, 13, 14, 15, 16]) (l2 := [17, 18, 19, 20]) (g42e1111110_17)) ?_
  funext env st
  kernel_rfl
noncomputable def g42b111111 (x1 : V) (x3 : V) (x4 : V) (x5 : V) (x6 : V) (st : St) : Res :=
 A.faddr 1 x1 fun a1 =>
 A.load false 1 a1 st fun a2 z3 =>
 A.ret (s59 [a2.er1, x3.er1] z3) fun a4 z5 =>
 A.un .not a4 fun a6 =>
 g42b1111110_6 x1 x4 x5 x6 a6 z5
theorem g42n111111 : g42C [1, 1, 1, 1, 1, 1] = .seq (g42C [1, 1, 1, 1, 1, 1, 0]) (g42C [1, 1, 1, 1, 1, 1, 1]) := by kernel_rfl
theorem g42rg1111110 : g42C [1, 1, 1, 1, 1, 1, 0] = .region 12 (rops (g42C [1, 1, 1, 1, 1, 1, 0])) false := by kernel_rfl
theorem g42rg1111110l : List.range (rops (g42C [1, 1, 1, 1, 1, 1, 0])).size = [0, 1, 2, 3, 4, 5] ++ [6, 7, 8, 9, 10, 11, 12, 13, 14, 15, 16, 17, 18, 19, 20] := by kernel_rfl
theorem g42e111111 : g42X (g42C [1, 1, 1, 1, 1, 1]) (g42kr) = fun env st => g42b111111 (env 1) (env 3) (env 4) (env 5) (env 6) st := by
  refine Eq.trans ((g42seq g42n111111 rfl).trans (g42reg g42rg1111110 g42rg1111110l (g42e1111110_6))) ?_
  funext env st
  kernel_rfl
noncomputable def g42k1 : Kon := kSeq (fun env st => g42b111111 (env 1) (env 3) (env 4) (env 5) (env 6) st) (g42kr)
noncomputable def g42k2 : Kon := kBlk 0 (g42k1)
noncomputable def g42b11111010 : Nat → V → V → V → V → V → V → V → V → St → Res
| 0, _, _, _, _, _, _, _, _, _ => none
| n + 1, x1, x3, x4, x5, x6, x33, x34, x35, st =>
 A.bin .lss x35 x34 fun a1 =>
 A.cond a1
 (A.iaddr 1 x33 x35 fun a2 =>
 A.load false 1 a2 st fun a3 z4 =>
 A.lenL a3 fun a5 =>
 A.bin .add x4 a5 fun a6 =>
 A.guard x5 false
 (A.ret (s58 [a3.er1, x6.er1] z4) fun a7 z8 =>
 A.bin .add x35 (.int .i64 1) fun a9 =>
 (g42b11111010 n) x1 x3 a6 a7 x6 x33 x34 a9 z8)
 (A.bin .add x35 (.int .i64 1) fun a10 =>
 (g42b11111010 n) x1 x3 a6 (.bool true) x6 x33 x34 a10 z4))
 (g42b111111 x1 x3 x4 x5 x6 st)
theorem g42n11111010 : g42C [1, 1, 1, 1, 1, 0, 1, 0] = .loop (g42C [1, 1, 1, 1, 1, 0, 1, 0, 0]) := by kernel_rfl
noncomputable def g42k3 (L11111010 : V → V → V → V → V → V → V → V → St → Res) : Kon := kSeq (fun env st => L11111010 (env 1) (env 3) (env 4) (env 5) (env 6) (env 33) (env 34) (env 35) st) (g42k2)
theorem g42e11111010 : g42X (g42C [1, 1, 1, 1, 1, 0, 1, 0]) (g42k2) = fun env st => g42b11111010 big (env 1) (env 3) (env 4) (env 5) (env 6) (env 33) (env 34) (env 35) st := by
  have key : ∀ n, aloop (g42X (g42C [1, 1, 1, 1, 1, 0, 1, 0, 0])) (g42k2) n = fun env st => g42b11111010 n (env 1) (env 3) (env 4) (env 5) (env 6) (env 33) (env 34) (env 35) st := by
    intro n
    induction n with
    | zero => rfl
    | succ n ih =>
      have h : aloop (g42X (g42C [1, 1, 1, 1, 1, 0, 1, 0, 0])) (g42k2) (n + 1) = g42X (g42C [1, 1, 1, 1, 1, 0, 1, 0, 0]) (kSeq (aloop (g42X (g42C [1, 1, 1, 1, 1, 0, 1, 0, 0])) (g42k2) n) (g42k2)) := rfl
      rw [h, ih]
      refine Eq.trans (Eq.refl _) ?_
      funext env st
      kernel_rfl
  exact (g42loop g42n11111010).trans (key big)
noncomputable def g42b1111 (x1 : V) (x3 : V) (x4 : V) (x5 : V) (st : St) : Res :=
 A.faddr 3 x1 fun a1 =>
 A.load false 1 a1 st fun a2 z3 =>
 A.lenL a2 fun a4 =>
 g42b11111010 big x1 x3 x4 x5 (.fn 57 [] []) a2 a4 (.int .i64 0) z3
theorem g42n1111 : g42C [1, 1, 1, 1] = .seq (g42C [1, 1, 1, 1, 0]) (g42C [1, 1, 1, 1, 1]) := by kernel_rfl
theorem g42n11111 : g42C [1, 1, 1, 1, 1] = .seq (g42C [1, 1, 1, 1, 1, 0]) (g42C [1, 1, 1, 1, 1, 1]) := by kernel_rfl
theorem g42n111110 : g42C [1, 1, 1, 1, 1, 0] = .seq (g42C [1, 1, 1, 1, 1, 0, 0]) (g42C [1, 1, 1, 1, 1, 0, 1]) := by kernel_rfl
theorem g42n1111101 : g42C [1, 1, 1, 1, 1, 0, 1] = .block 0 (g42C [1, 1, 1, 1, 1, 0, 1, 0]) := by kernel_rfl
theorem g42e1111 : g42X (g42C [1, 1, 1, 1]) (g42kr) = fun env st => g42b1111 (env 1) (env 3) (env 4) (env 5) st := by
  refine Eq.trans (g42seq g42n1111 ((g42seq g42n11111 (g42e111111)).trans (g42seq g42n111110 ((g42blk g42n1111101).trans (g42e11111010))))) ?_
  funext env st
  kernel_rfl
noncomputable def g42b11 (x1 : V) (st : St) : Res :=
 A.faddr 2 x1 fun a1 =>
 A.load false 1 a1 st fun a2 z3 =>
 A.lenL a2 fun a4 =>
 g42b1111 x1 (.fn 56 [] []) a4 (.bool false) z3
theorem g42n11 : g42C [1, 1] = .seq (g42C [1, 1, 0]) (g42C [1, 1, 1]) := by kernel_rfl
theorem g42n111 : g42C [1, 1, 1] = .seq (g42C [1, 1, 1, 0]) (g42C [1, 1, 1, 1]) := by kernel_rfl
theorem g42e11 : g42X (g42C [1, 1]) (g42kr) = fun env st => g42b11 (env 1) st := by
  refine Eq.trans (g42seq g42n11 (g42seq g42n111 (g42e1111))) ?_
  funext env st
  kernel_rfl
noncomputable def g42k4 : Kon := kSeq (fun env st => g42b11 (env 1) st) (g42kr)
noncomputable def g42k5 : Kon := kSeq (g42X (g42C [1, 0, 1]) (g42k4)) (g42k4)
noncomputable def g42b100_15 (x1 : V) (x23 : V) (st : St) : Res :=
 A.guard x23 false
 (A.faddr 3 x1 fun a1 =>
 A.load false 1 a1 st fun a2 z3 =>
 A.lenL a2 fun a4 =>
 A.bin .gtr a4 (.int .i64 4096) fun a5 =>
 A.cond a5
 (some (.ret ((.bool false) : V).er1, z3))
 (g42b11 x1 z3))
 (some (.ret ((.bool false) : V).er1, st))
theorem g42e100_15 : (fun env st => aops Try.prog g42mu g42T 70 (rops (g42C [1, 0, 0])) [15, 16, 17, 18, 19] env st ((g42k5) .normal)) = fun env st => g42b100_15 (env 1) (env 23) st := by
  refine Eq.trans (Eq.refl _) ?_
  funext env st
  kernel_rfl
noncomputable def g42b100_9 (x1 : V) (x17 : V) (st : St) : Res :=
 A.guard x17 false
 (A.faddr 1 x1 fun a1 =>
 A.load false 1 a1 st fun a2 z3 =>
 A.lenL a2 fun a4 =>
 A.bin .gtr a4 (.int .i64 64) fun a5 =>
 g42b100_15 x1 a5 z3)
 (g42b100_15 x1 (.bool true) st)
theorem g42e100_9 : (fun env st => aops Try.prog g42mu g42T 70 (rops (g42C [1, 0, 0])) [9, 10, 11, 12, 13, 14, 15, 16, 17, 18, 19] env st ((g42k5) .normal)) = fun env st => g42b100_9 (env 1) (env 17) st := by
  refine Eq.trans (ops_cut (l1 := [9, 10, 11, 12, 13, 14]) (l2 := [15, 16, 17, 18, 19]) (g42e100_15)) ?_
  funext env st
  kernel_rfl
noncomputable def f42 (x0 : V) (st : St) : Res :=
 A.box x0 st fun a1 z2 =>
 A.faddr 0 a1 fun a3 =>
 A.load false 1 a3 z2 fun a4 z5 =>
 A.bin .lss a4 (.int .i64 1) fun a6 =>
 A.guard a6 false
 (A.faddr 0 a1 fun a7 =>
 A.load false 1 a7 z5 fun a8 z9 =>
 A.bin .gtr a8 (.int .i64 255) fun a10 =>
 g42b100_9 a1 a10 z9)
 (g42b100_9 a1 (.bool true) z5)
theorem g42nr : g42C [] = .seq (g42C [0]) (g42C [1]) := by kernel_rfl
theorem g42n1 : g42C [1] = .seq (g42C [1, 0]) (g42C [1, 1]) := by kernel_rfl
theorem g42n10 : g42C [1, 0] = .seq (g42C [1, 0, 0]) (g42C [1, 0, 1]) := by kernel_rfl
theorem g42rg100 : g42C [1, 0, 0] = .region 1 (rops (g42C [1, 0, 0])) false := by kernel_rfl
theorem g42rg100l : List.range (rops (g42C [1, 0, 0])).size = [0, 1, 2, 3, 4, 5, 6, 7, 8] ++ [9, 10, 11, 12, 13, 14, 15, 16, 17, 18, 19] := by kernel_rfl
theorem g42er (env : Env) (st : St) : g42X (g42C []) g42kr env st = f42 (env 0) st := by
  rw [(g42seq g42nr ((g42seq g42n1 (g42e11)).trans ((g42seq g42n10 rfl).trans (g42reg g42rg100 g42rg100l (g42e100_9)))))]
  kernel_rfl
theorem s42_eq (x0 : V) (st : St) : s42 [x0] st = fg (f42 x0 st) st := by
  have h : afn Try.prog g42mu g42T big (areg Try.prog g42mu g42T) 42 [x0] st = g42X (g42C []) g42kr (fun t => [x0].getD t (.tup [])) st := by kernel_rfl
  rw [s42, sealF_eq]
  show fg _ st = fg _ st
  refine congrArg (fun r => fg r st) ?_
  exact h.trans (g42er _ st)
/-! (*strings.Builder).Len -/
def g44mu : Nat → Bool := fun _ => false
noncomputable def g44T : Tbl := tget []
theorem g44t : SimT Try.prog g44T := simT_nil
noncomputable def s44 : Fn := sealF (afn Try.prog g44mu g44T big (areg Try.prog g44mu g44T) 44)
theorem sim44 : Sim Try.prog 44 s44 := (afn_sim g44t (fun m => areg_sound g44t hmix m) 44 (by kernel_rfl)).sealed
noncomputable def f44 (x0 : V) (st : St) : Res :=
 A.nilc x0 fun a1 =>
 A.faddr 1 a1 fun a2 =>
 A.load false 1 a2 st fun a3 z4 =>
 A.lenL a3 fun a5 =>
 some (.ret a5.er1, z4)
theorem s44_eq (x0 : V) (st : St) : s44 [x0] st = f44 x0 st := by
  rw [s44, sealF_eq]
  kernel_rfl
/-! (*strings.Builder).String -/
def g49mu : Nat → Bool := fun _ => false
noncomputable def g49T : Tbl := tget []
theorem g49t : SimT Try.prog g49T := simT_nil
noncomputable def s49 : Fn := sealF (afn Try.prog g49mu g49T big (areg Try.prog g49mu g49T) 49)
theorem sim49 : Sim Try.prog 49 s49 := (afn_sim g49t (fun m => areg_sound g49t hmix m) 49 (by kernel_rfl)).sealed
noncomputable def f49 (x0 : V) (st : St) : Res :=
 A.nilc x0 fun a1 =>
 A.faddr 1 a1 fun a2 =>
 A.load false 1 a2 st fun a3 _ =>
 A.noP (A.sdata a3 fun v => kid v st) fun a4 z5 =>
 A.nilc x0 fun a6 =>
 A.faddr 1 a6 fun a7 =>
 A.load false 1 a7 z5 fun a8 _ =>
 A.chk (ldv false 1 a7 st) a8
 (A.lenL a8 fun a9 =>
 A.ret (A.ustr a4 a9 z5 kid) fun a10 z11 =>
 some (.ret a10.er1, z11))
theorem s49_eq (x0 : V) (st : St) : s49 [x0] st = f49 x0 st := by
  rw [s49, sealF_eq]
  kernel_rfl
/-! (*strings.Builder).WriteString -/
def g46mu : Nat → Bool := fun _ => false
noncomputable def g46T : Tbl := tget [(61, s61)]
theorem g46t : SimT Try.prog g46T := simT_cons sim61 (simT_nil)
noncomputable def s46 : Fn := sealF (afn Try.prog g46mu g46T big (areg Try.prog g46mu g46T) 46)
theorem sim46 : Sim Try.prog 46 s46 := (afn_sim g46t (fun m => areg_sound g46t hmix m) 46 (by kernel_rfl)).sealed
noncomputable def f46 (x0 : V) (x1 : V) (st : St) : Res :=
 A.ret (s61 [x0.er1] st) fun a1 z2 =>
 A.nilc x0 fun a3 =>
 A.faddr 1 a3 fun a4 =>
 A.load false 1 a4 z2 fun a5 z6 =>
 A.appB 1 a5 (elemsOf 3 1 x1 z6) z6 fun a7 z8 =>
 A.nilc x0 fun a9 =>
 A.faddr 1 a9 fun a10 =>
 A.store 1 a10 a7 z8 fun z11 =>
 A.lenS x1 fun a12 =>
 some (.ret (.tup [a12.er1, (.if0 : V).er1]), z11)
theorem s46_eq (x0 : V) (x1 : V) (st : St) : s46 [x0, x1] st = f46 x0 x1 st := by
  rw [s46, sealF_eq]
  kernel_rfl
end Go.Ab
