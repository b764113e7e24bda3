import Derived.Test.YtnnjfbbflfbcaaaAbForget
import Derived.Test.YtnnjfbbflfbcaaaAbP031
namespace Go.Ab
open Go.Proofs
set_option linter.unusedVariables false
set_option maxRecDepth 100000
/-! sinew/wire.body$2 -/
def g47mu : Nat → Bool := fun _ => false
noncomputable def g47T : Tbl := tget [(46, s46), (48, s48)]
theorem g47t : SimT Try.prog g47T := simT_cons sim46 ( simT_cons sim48 (simT_nil))
noncomputable def s47 : Fn := sealF (afn Try.prog g47mu g47T big (areg Try.prog g47mu g47T) 47)
theorem sim47 : Sim Try.prog 47 s47 := (afn_sim g47t (fun m => areg_sound g47t hmix m) 47 (by kernel_rfl)).sealed
noncomputable def f47 (x0 : V) (x1 : V) (st : St) : Res :=
 A.ret (s48 [x0.er1] st) fun a1 z2 =>
 A.ext a1 0 fun a3 =>
 A.ext a1 1 fun a4 =>
 A.ret (s46 [x1.er1, a3.er1] z2) fun a5 z6 =>
 some (.ret (.tup []), z6)
theorem s47_eq (x0 : V) (x1 : V) (st : St) : s47 [x0, x1] st = f47 x0 x1 st := by
  rw [s47, sealF_eq]
  kernel_rfl
/-! sinew/wire.body -/
def g30mu : Nat → Bool := fun _ => false
noncomputable def g30T : Tbl := tget [(39, s39), (43, s43), (44, s44), (47, s47), (49, s49)]
theorem g30t : SimT Try.prog g30T := simT_cons sim39 ( simT_cons sim43 ( simT_cons sim44 ( simT_cons sim47 ( simT_cons sim49 (simT_nil)))))
noncomputable def s30 : Fn := sealF (fun args st => fg (afn Try.prog g30mu g30T big (areg Try.prog g30mu g30T) 30 args st) st)
theorem sim30 : Sim Try.prog 30 s30 := (afn_sim g30t (fun m => areg_sound g30t hmix m) 30 (by kernel_rfl)).fg.sealed
noncomputable def g30C (p : List Nat) : Code := sub (match Try.f30.body with | some c => c | none => .skip) p
noncomputable def g30X (c : Code) (K : Kon) : Env → St → Res := aexec Try.prog g30mu g30T big 63 (areg Try.prog g30mu g30T 63) c K
noncomputable def g30kr : Kon := aresK Try.prog Try.f30.results.toList
theorem g30reg {c : Code} {K : Kon} {G : Env → St → Res} {id : Nat} {ops : Array Oper} {l1 l2 : List Nat} (hc : c = .region id ops false) (hl : List.range ops.size = l1 ++ l2) (h : (fun env st => aops Try.prog g30mu g30T 63 ops l2 env st (K .normal)) = G) : g30X c K = fun env st => aops Try.prog g30mu g30T 63 ops l1 env st G := reg_cut hc hl h
theorem g30seq {c x y : Code} {K : Kon} {G : Env → St → Res} (hc : c = .seq x y) (hy : g30X y K = G) : g30X c K = g30X x (kSeq G K) := seq_cut hc hy
theorem g30blk {c x : Code} {K : Kon} {i : Nat} (hc : c = .block i x) : g30X c K = g30X x (kBlk i K) := blk_cut hc
theorem g30loop {c x : Code} {K : Kon} (hc : c = .loop x) : g30X c K = aloop (g30X x) K big := loop_cut hc
theorem g30cond {c x y : Code} {K : Kon} {v : Operand} {F G : Env → St → Res} (hc : c = .cond v x y) (hx : g30X x K = F) (hy : g30X y K = G) : g30X c K = condF v F G := cond_cut hc hx hy
noncomputable def g30k0 : Kon := kSeq (g30X (g30C [1, 1, 1, 1, 1, 1, 1, 1, 1, 1, 1, 1]) (g30kr)) (g30kr)
noncomputable def g30k1 : Kon := kBlk 2 (g30k0)
noncomputable def g30b11111111111010 : Nat → V → V → V → V → V → V → St → Res
| 0, _, _, _, _, _, _, _ => none
| n + 1, x4, x5, x6, x47, x48, x49, st =>
 A.bin .lss x49 x48 fun a1 =>
 A.cond a1
 (A.iaddr 1 x47 x49 fun a2 =>
 A.load false 1 a2 st fun a3 z4 =>
 A.call g30T x6 [a3] z4 fun a5 z6 =>
 A.bin .add x49 (.int .i64 1) fun a7 =>
 (g30b11111111111010 n) x4 x5 x6 x47 x48 a7 z6)
 (A.load false 1 x5 st fun a8 z9 =>
 A.guard a8 false
 (A.ret (s44 [x4.er1] z9) fun a10 z11 =>
 A.bin .gtr a10 (.int .i64 1048576) fun a12 =>
 A.cond a12
 (some (.ret (.tup [((.str []) : V).er1, ((.int .i64 1) : V).er1]), z11))
 (A.ret (s49 [x4.er1] z11) fun a13 z14 =>
 some (.ret (.tup [a13.er1, ((.int .i64 0) : V).er1]), z14)))
 (some (.ret (.tup [((.str []) : V).er1, ((.int .i64 1) : V).er1]), z9)))
theorem g30n11111111111010 : g30C [1, 1, 1, 1, 1, 1, 1, 1, 1, 1, 1, 0, 1, 0] = .loop (g30C [1, 1, 1, 1, 1, 1, 1, 1, 1, 1, 1, 0, 1, 0, 0]) := by kernel_rfl
noncomputable def g30k2 (L11111111111010 : V → V → V → V → V → V → St → Res) : Kon := kSeq (fun env st => L11111111111010 (env 4) (env 5) (env 6) (env 47) (env 48) (env 49) st) (g30k1)
theorem g30e11111111111010 : g30X (g30C [1, 1, 1, 1, 1, 1, 1, 1, 1, 1, 1, 0, 1, 0]) (g30k1) = fun env st => g30b11111111111010 big (env 4) (env 5) (env 6) (env 47) (env 48) (env 49) st := by
  have key : ∀ n, aloop (g30X (g30C [1, 1, 1, 1, 1, 1, 1, 1, 1, 1, 1, 0, 1, 0, 0])) (g30k1) n = fun env st => g30b11111111111010 n (env 4) (env 5) (env 6) (env 47) (env 48) (env 49) st := by
    intro n
    induction n with
    | zero => rfl
    | succ n ih =>
      have h : aloop (g30X (g30C [1, 1, 1, 1, 1, 1, 1, 1, 1, 1, 1, 0, 1, 0, 0])) (g30k1) (n + 1) = g30X (g30C [1, 1, 1, 1, 1, 1, 1, 1, 1, 1, 1, 0, 1, 0, 0]) (kSeq (aloop (g30X (g30C [1, 1, 1, 1, 1, 1, 1, 1, 1, 1, 1, 0, 1, 0, 0])) (g30k1) n) (g30k1)) := rfl
      rw [h, ih]
      refine Eq.trans (Eq.refl _) ?_
      funext env st
      kernel_rfl
  exact (g30loop g30n11111111111010).trans (key big)
noncomputable def g30b1111111111101 (x4 : V) (x5 : V) (x6 : V) (x47 : V) (x48 : V) (x49 : V) (st : St) : Res :=
 g30b11111111111010 big x4 x5 x6 x47 x48 x49 st
theorem g30n1111111111101 : g30C [1, 1, 1, 1, 1, 1, 1, 1, 1, 1, 1, 0, 1] = .block 2 (g30C [1, 1, 1, 1, 1, 1, 1, 1, 1, 1, 1, 0, 1, 0]) := by kernel_rfl
theorem g30e1111111111101 : g30X (g30C [1, 1, 1, 1, 1, 1, 1, 1, 1, 1, 1, 0, 1]) (g30k0) = fun env st => g30b1111111111101 (env 4) (env 5) (env 6) (env 47) (env 48) (env 49) st := by
  refine Eq.trans ((g30blk g30n1111111111101).trans (g30e11111111111010)) ?_
  funext env st
  kernel_rfl
noncomputable def g30b111111111 (x1 : V) (x4 : V) (x5 : V) (x6 : V) (x7 : V) (st : St) : Res :=
 A.faddr 2 x1 fun a1 =>
 A.load false 1 a1 st fun a2 z3 =>
 A.call g30T x6 [a2] z3 fun a4 z5 =>
 A.faddr 3 x1 fun a6 =>
 A.load false 1 a6 z5 fun a7 z8 =>
 A.lenL a7 fun a9 =>
 A.call g30T x7 [a9] z8 fun a10 z11 =>
 A.faddr 3 x1 fun a12 =>
 A.load false 1 a12 z11 fun a13 z14 =>
 A.lenL a13 fun a15 =>
 g30b1111111111101 x4 x5 x6 a13 a15 (.int .i64 0) z14
theorem g30n111111111 : g30C [1, 1, 1, 1, 1, 1, 1, 1, 1] = .seq (g30C [1, 1, 1, 1, 1, 1, 1, 1, 1, 0]) (g30C [1, 1, 1, 1, 1, 1, 1, 1, 1, 1]) := by kernel_rfl
theorem g30n1111111111 : g30C [1, 1, 1, 1, 1, 1, 1, 1, 1, 1] = .seq (g30C [1, 1, 1, 1, 1, 1, 1, 1, 1, 1, 0]) (g30C [1, 1, 1, 1, 1, 1, 1, 1, 1, 1, 1]) := by kernel_rfl
theorem g30n11111111111 : g30C [1, 1, 1, 1, 1, 1, 1, 1, 1, 1, 1] = .seq (g30C [1, 1, 1, 1, 1, 1, 1, 1, 1, 1, 1, 0]) (g30C [1, 1, 1, 1, 1, 1, 1, 1, 1, 1, 1, 1]) := by kernel_rfl
theorem g30n111111111110 : g30C [1, 1, 1, 1, 1, 1, 1, 1, 1, 1, 1, 0] = .seq (g30C [1, 1, 1, 1, 1, 1, 1, 1, 1, 1, 1, 0, 0]) (g30C [1, 1, 1, 1, 1, 1, 1, 1, 1, 1, 1, 0, 1]) := by kernel_rfl
theorem g30e111111111 : g30X (g30C [1, 1, 1, 1, 1, 1, 1, 1, 1]) (g30kr) = fun env st => g30b111111111 (env 1) (env 4) (env 5) (env 6) (env 7) st := by
  refine Eq.trans (g30seq g30n111111111 (g30seq g30n1111111111 ((g30seq g30n11111111111 rfl).trans (g30seq g30n111111111110 (g30e1111111111101))))) ?_
  funext env st
  kernel_rfl
noncomputable def g30k3 : Kon := kSeq (fun env st => g30b111111111 (env 1) (env 4) (env 5) (env 6) (env 7) st) (g30kr)
noncomputable def g30k4 : Kon := kBlk 0 (g30k3)
noncomputable def g30b11111111010 : Nat → V → V → V → V → V → V → V → V → St → Res
| 0, _, _, _, _, _, _, _, _, _ => none
| n + 1, x1, x4, x5, x6, x7, x27, x28, x29, st =>
 A.bin .lss x29 x28 fun a1 =>
 A.cond a1
 (A.iaddr 1 x27 x29 fun a2 =>
 A.load false 1 a2 st fun a3 z4 =>
 A.call g30T x7 [a3] z4 fun a5 z6 =>
 A.bin .add x29 (.int .i64 1) fun a7 =>
 (g30b11111111010 n) x1 x4 x5 x6 x7 x27 x28 a7 z6)
 (g30b111111111 x1 x4 x5 x6 x7 st)
theorem g30n11111111010 : g30C [1, 1, 1, 1, 1, 1, 1, 1, 0, 1, 0] = .loop (g30C [1, 1, 1, 1, 1, 1, 1, 1, 0, 1, 0, 0]) := by kernel_rfl
noncomputable def g30k5 (L11111111010 : V → V → V → V → V → V → V → V → St → Res) : Kon := kSeq (fun env st => L11111111010 (env 1) (env 4) (env 5) (env 6) (env 7) (env 27) (env 28) (env 29) st) (g30k4)
theorem g30e11111111010 : g30X (g30C [1, 1, 1, 1, 1, 1, 1, 1, 0, 1, 0]) (g30k4) = fun env st => g30b11111111010 big (env 1) (env 4) (env 5) (env 6) (env 7) (env 27) (env 28) (env 29) st := by
  have key : ∀ n, aloop (g30X (g30C [1, 1, 1, 1, 1, 1, 1, 1, 0, 1, 0, 0])) (g30k4) n = fun env st => g30b11111111010 n (env 1) (env 4) (env 5) (env 6) (env 7) (env 27) (env 28) (env 29) st := by
    intro n
    induction n with
    | zero => rfl
    | succ n ih =>
      have h : aloop (g30X (g30C [1, 1, 1, 1, 1, 1, 1, 1, 0, 1, 0, 0])) (g30k4) (n + 1) = g30X (g30C [1, 1, 1, 1, 1, 1, 1, 1, 0, 1, 0, 0]) (kSeq (aloop (g30X (g30C [1, 1, 1, 1, 1, 1, 1, 1, 0, 1, 0, 0])) (g30k4) n) (g30k4)) := rfl
      rw [h, ih]
      refine Eq.trans (Eq.refl _) ?_
      funext env st
      kernel_rfl
  exact (g30loop g30n11111111010).trans (key big)
noncomputable def g30b11111111 (x1 : V) (x4 : V) (x5 : V) (x6 : V) (x7 : V) (st : St) : Res :=
 A.faddr 1 x1 fun a1 =>
 A.load false 1 a1 st fun a2 z3 =>
 A.lenL a2 fun a4 =>
 g30b11111111010 big x1 x4 x5 x6 x7 a2 a4 (.int .i64 0) z3
theorem g30n11111111 : g30C [1, 1, 1, 1, 1, 1, 1, 1] = .seq (g30C [1, 1, 1, 1, 1, 1, 1, 1, 0]) (g30C [1, 1, 1, 1, 1, 1, 1, 1, 1]) := by kernel_rfl
theorem g30n111111110 : g30C [1, 1, 1, 1, 1, 1, 1, 1, 0] = .seq (g30C [1, 1, 1, 1, 1, 1, 1, 1, 0, 0]) (g30C [1, 1, 1, 1, 1, 1, 1, 1, 0, 1]) := by kernel_rfl
theorem g30n1111111101 : g30C [1, 1, 1, 1, 1, 1, 1, 1, 0, 1] = .block 0 (g30C [1, 1, 1, 1, 1, 1, 1, 1, 0, 1, 0]) := by kernel_rfl
theorem g30e11111111 : g30X (g30C [1, 1, 1, 1, 1, 1, 1, 1]) (g30kr) = fun env st => g30b11111111 (env 1) (env 4) (env 5) (env 6) (env 7) st := by
  refine Eq.trans ((g30seq g30n11111111 (g30e111111111)).trans (g30seq g30n111111110 ((g30blk g30n1111111101).trans (g30e11111111010)))) ?_
  funext env st
  kernel_rfl
noncomputable def g30b1111 (x1 : V) (x4 : V) (x5 : V) (st : St) : Res :=
 A.faddr 0 x1 fun a1 =>
 A.load false 1 a1 st fun a2 z3 =>
 A.call g30T (.fn 47 [] [x4]) [a2] z3 fun a4 z5 =>
 A.faddr 1 x1 fun a6 =>
 A.load false 1 a6 z5 fun a7 z8 =>
 A.lenL a7 fun a9 =>
 A.call g30T (.fn 47 [] [x4]) [a9] z8 fun a10 z11 =>
 g30b11111111 x1 x4 x5 (.fn 43 [] [x5, x4]) (.fn 47 [] [x4]) z11
theorem g30n1111 : g30C [1, 1, 1, 1] = .seq (g30C [1, 1, 1, 1, 0]) (g30C [1, 1, 1, 1, 1]) := by kernel_rfl
theorem g30n11111 : g30C [1, 1, 1, 1, 1] = .seq (g30C [1, 1, 1, 1, 1, 0]) (g30C [1, 1, 1, 1, 1, 1]) := by kernel_rfl
theorem g30n111111 : g30C [1, 1, 1, 1, 1, 1] = .seq (g30C [1, 1, 1, 1, 1, 1, 0]) (g30C [1, 1, 1, 1, 1, 1, 1]) := by kernel_rfl
theorem g30n1111111 : g30C [1, 1, 1, 1, 1, 1, 1] = .seq (g30C [1, 1, 1, 1, 1, 1, 1, 0]) (g30C [1, 1, 1, 1, 1, 1, 1, 1]) := by kernel_rfl
theorem g30e1111 : g30X (g30C [1, 1, 1, 1]) (g30kr) = fun env st => g30b1111 (env 1) (env 4) (env 5) st := by
  refine Eq.trans (g30seq g30n1111 (g30seq g30n11111 (g30seq g30n111111 (g30seq g30n1111111 (g30e11111111))))) ?_
  funext env st
  kernel_rfl
noncomputable def f30 (x0 : V) (st : St) : Res :=
 A.box x0 st fun a1 z2 =>
 A.load true 4 a1 z2 fun a3 z4 =>
 A.ret (s39 [a3.er1] z4) fun a5 z6 =>
 A.un .not a5 fun a7 =>
 A.cond a7
 (some (.ret (.tup [((.str []) : V).er1, ((.int .i64 1) : V).er1]), z6))
 (A.newB 66 (.agg [.ptr0, (.lst [] 1)]) z6 fun a8 z9 =>
 A.box (.bool false) z9 fun a10 z11 =>
 A.store 1 a10 (.bool false) z11 fun z12 =>
 g30b1111 a1 a8 a10 z12)
theorem g30nr : g30C [] = .seq (g30C [0]) (g30C [1]) := by kernel_rfl
theorem g30n1 : g30C [1] = .seq (g30C [1, 0]) (g30C [1, 1]) := by kernel_rfl
theorem g30n11 : g30C [1, 1] = .seq (g30C [1, 1, 0]) (g30C [1, 1, 1]) := by kernel_rfl
theorem g30n111 : g30C [1, 1, 1] = .seq (g30C [1, 1, 1, 0]) (g30C [1, 1, 1, 1]) := by kernel_rfl
theorem g30er (env : Env) (st : St) : g30X (g30C []) g30kr env st = f30 (env 0) st := by
  rw [(g30seq g30nr (g30seq g30n1 (g30seq g30n11 (g30seq g30n111 (g30e1111)))))]
  kernel_rfl
theorem s30_eq (x0 : V) (st : St) : s30 [x0] st = fg (f30 x0 st) st := by
  have h : afn Try.prog g30mu g30T big (areg Try.prog g30mu g30T) 30 [x0] st = g30X (g30C []) g30kr (fun t => [x0].getD t (.tup [])) st := by kernel_rfl
  rw [s30, sealF_eq]
  show fg _ st = fg _ st
  refine congrArg (fun r => fg r st) ?_
  exact h.trans (g30er _ st)
/-! sinew/wire.four -/
def g31mu : Nat → Bool := fun _ => false
noncomputable def g31T : Tbl := tget []
theorem g31t : SimT Try.prog g31T := simT_nil
noncomputable def s31 : Fn := sealF (afn Try.prog g31mu g31T big (areg Try.prog g31mu g31T) 31)
theorem sim31 : Sim Try.prog 31 s31 := (afn_sim g31t (fun m => areg_sound g31t hmix m) 31 (by kernel_rfl)).sealed
noncomputable def f31 (x0 : V) (st : St) : Res :=
 A.bin .shr x0 (.int .u64 24) fun a1 =>
 A.toInt .u8 a1 fun a2 =>
 A.bin .shr x0 (.int .u64 16) fun a3 =>
 A.toInt .u8 a3 fun a4 =>
 A.bin .shr x0 (.int .u64 8) fun a5 =>
 A.toInt .u8 a5 fun a6 =>
 A.toInt .u8 x0 fun a7 =>
 A.bslice 1 (.int .u8 0) 4 [(0, a2), (1, a4), (2, a6), (3, a7)] fun a8 =>
 A.toStr a8 st fun a9 =>
 some (.ret a9.er1, st)
theorem s31_eq (x0 : V) (st : St) : s31 [x0] st = f31 x0 st := by
  rw [s31, sealF_eq]
  kernel_rfl
/-! sinew/wire.Pack -/
def g18mu : Nat → Bool := fun _ => false
noncomputable def g18T : Tbl := tget [(23, s23), (30, s30), (31, s31)]
theorem g18t : SimT Try.prog g18T := simT_cons sim23 ( simT_cons sim30 ( simT_cons sim31 (simT_nil)))
noncomputable def s18 : Fn := sealF (fun args st => fg (afn Try.prog g18mu g18T big (areg Try.prog g18mu g18T) 18 args st) st)
theorem sim18 : Sim Try.prog 18 s18 := (afn_sim g18t (fun m => areg_sound g18t hmix m) 18 (by kernel_rfl)).fg.sealed
noncomputable def g18C (p : List Nat) : Code := sub (match Try.f18.body with | some c => c | none => .skip) p
noncomputable def g18X (c : Code) (K : Kon) : Env → St → Res := aexec Try.prog g18mu g18T big 23 (areg Try.prog g18mu g18T 23) c K
noncomputable def g18kr : Kon := aresK Try.prog Try.f18.results.toList
theorem g18reg {c : Code} {K : Kon} {G : Env → St → Res} {id : Nat} {ops : Array Oper} {l1 l2 : List Nat} (hc : c = .region id ops false) (hl : List.range ops.size = l1 ++ l2) (h : (fun env st => aops Try.prog g18mu g18T 23 ops l2 env st (K .normal)) = G) : g18X c K = fun env st => aops Try.prog g18mu g18T 23 ops l1 env st G := reg_cut hc hl h
theorem g18seq {c x y : Code} {K : Kon} {G : Env → St → Res} (hc : c = .seq x y) (hy : g18X y K = G) : g18X c K = g18X x (kSeq G K) := seq_cut hc hy
theorem g18blk {c x : Code} {K : Kon} {i : Nat} (hc : c = .block i x) : g18X c K = g18X x (kBlk i K) := blk_cut hc
theorem g18loop {c x : Code} {K : Kon} (hc : c = .loop x) : g18X c K = aloop (g18X x) K big := loop_cut hc
theorem g18cond {c x y : Code} {K : Kon} {v : Operand} {F G : Env → St → Res} (hc : c = .cond v x y) (hx : g18X x K = F) (hy : g18X y K = G) : g18X c K = condF v F G := cond_cut hc hx hy
noncomputable def g18b111 (x4 : V) (st : St) : Res :=
 A.lenS x4 fun a1 =>
 A.ret (s31 [a1.er1] st) fun a2 z3 =>
 A.ret (s23 [x4.er1] z3) fun a4 z5 =>
 A.ret (s31 [a4.er1] z5) fun a6 z7 =>
 A.bin .add a2 a6 fun a8 =>
 A.bin .add a8 x4 fun a9 =>
 some (.ret (.tup [a9.er1, ((.int .i64 0) : V).er1]), z7)
theorem g18e111 : g18X (g18C [1, 1, 1]) (g18kr) = fun env st => g18b111 (env 4) st := by
  refine Eq.trans (Eq.refl (g18X (g18C [1, 1, 1]) (g18kr))) ?_
  funext env st
  kernel_rfl
noncomputable def f18 (x0 : V) (st : St) : Res :=
 A.box x0 st fun a1 z2 =>
 A.load true 4 a1 z2 fun a3 z4 =>
 A.ret (s30 [a3.er1] z4) fun a5 z6 =>
 A.ext a5 0 fun a7 =>
 A.ext a5 1 fun a8 =>
 A.eql 2 true a8 (.int .i64 0) fun a9 =>
 A.cond a9
 (some (.ret (.tup [((.str []) : V).er1, a8.er1]), z6))
 (g18b111 a7 z6)
theorem g18nr : g18C [] = .seq (g18C [0]) (g18C [1]) := by kernel_rfl
theorem g18n1 : g18C [1] = .seq (g18C [1, 0]) (g18C [1, 1]) := by kernel_rfl
theorem g18n11 : g18C [1, 1] = .seq (g18C [1, 1, 0]) (g18C [1, 1, 1]) := by kernel_rfl
theorem g18er (env : Env) (st : St) : g18X (g18C []) g18kr env st = f18 (env 0) st := by
  rw [(g18seq g18nr (g18seq g18n1 (g18seq g18n11 (g18e111))))]
  kernel_rfl
theorem s18_eq (x0 : V) (st : St) : s18 [x0] st = fg (f18 x0 st) st := by
  have h : afn Try.prog g18mu g18T big (areg Try.prog g18mu g18T) 18 [x0] st = g18X (g18C []) g18kr (fun t => [x0].getD t (.tup [])) st := by kernel_rfl
  rw [s18, sealF_eq]
  show fg _ st = fg _ st
  refine congrArg (fun r => fg r st) ?_
  exact h.trans (g18er _ st)
/-! sinew/sinewref03.number -/
def g25mu : Nat → Bool := fun _ => false
noncomputable def g25T : Tbl := tget []
theorem g25t : SimT Try.prog g25T := simT_nil
noncomputable def s25 : Fn := sealF (afn Try.prog g25mu g25T big (areg Try.prog g25mu g25T) 25)
theorem sim25 : Sim Try.prog 25 s25 := (afn_sim g25t (fun m => areg_sound g25t hmix m) 25 (by kernel_rfl)).sealed
noncomputable def f25 (x0 : V) (st : St) : Res :=
 A.idxS x0 (.int .i64 0) fun a1 =>
 A.toInt .i64 a1 fun a2 =>
 A.bin .shl a2 (.int .u64 24) fun a3 =>
 A.idxS x0 (.int .i64 1) fun a4 =>
 A.toInt .i64 a4 fun a5 =>
 A.bin .shl a5 (.int .u64 16) fun a6 =>
 A.bin .or a3 a6 fun a7 =>
 A.idxS x0 (.int .i64 2) fun a8 =>
 A.toInt .i64 a8 fun a9 =>
 A.bin .shl a9 (.int .u64 8) fun a10 =>
 A.bin .or a7 a10 fun a11 =>
 A.idxS x0 (.int .i64 3) fun a12 =>
 A.toInt .i64 a12 fun a13 =>
 A.bin .or a11 a13 fun a14 =>
 some (.ret a14.er1, st)
theorem s25_eq (x0 : V) (st : St) : s25 [x0] st = f25 x0 st := by
  rw [s25, sealF_eq]
  kernel_rfl
/-! sinew/sinewref02.Sum -/
def g26mu : Nat → Bool := fun _ => false
noncomputable def g26T : Tbl := tget []
theorem g26t : SimT Try.prog g26T := simT_nil
noncomputable def s26 : Fn := sealF (afn Try.prog g26mu g26T big (areg Try.prog g26mu g26T) 26)
theorem sim26 : Sim Try.prog 26 s26 := (afn_sim g26t (fun m => areg_sound g26t hmix m) 26 (by kernel_rfl)).sealed
noncomputable def g26C (p : List Nat) : Code := sub (match Try.f26.body with | some c => c | none => .skip) p
noncomputable def g26X (c : Code) (K : Kon) : Env → St → Res := aexec Try.prog g26mu g26T big 33 (areg Try.prog g26mu g26T 33) c K
noncomputable def g26kr : Kon := aresK Try.prog Try.f26.results.toList
theorem g26reg {c : Code} {K : Kon} {G : Env → St → Res} {id : Nat} {ops : Array Oper} {l1 l2 : List Nat} (hc : c = .region id ops false) (hl : List.range ops.size = l1 ++ l2) (h : (fun env st => aops Try.prog g26mu g26T 33 ops l2 env st (K .normal)) = G) : g26X c K = fun env st => aops Try.prog g26mu g26T 33 ops l1 env st G := reg_cut hc hl h
theorem g26seq {c x y : Code} {K : Kon} {G : Env → St → Res} (hc : c = .seq x y) (hy : g26X y K = G) : g26X c K = g26X x (kSeq G K) := seq_cut hc hy
theorem g26blk {c x : Code} {K : Kon} {i : Nat} (hc : c = .block i x) : g26X c K = g26X x (kBlk i K) := blk_cut hc
theorem g26loop {c x : Code} {K : Kon} (hc : c = .loop x) : g26X c K = aloop (g26X x) K big := loop_cut hc
theorem g26cond {c x y : Code} {K : Kon} {v : Operand} {F G : Env → St → Res} (hc : c = .cond v x y) (hx : g26X x K = F) (hy : g26X y K = G) : g26X c K = condF v F G := cond_cut hc hx hy
noncomputable def g26k0 : Kon := kSeq (g26X (g26C [1, 1, 1]) (g26kr)) (g26kr)
noncomputable def g26k1 : Kon := kBlk 0 (g26k0)
noncomputable def g26k2 (L11010 : V → V → V → St → Res) : Kon := kSeq (fun env st => L11010 (env 0) (env 3) (env 4) st) (g26k1)
noncomputable def g26k3 (L11010 : V → V → V → St → Res) : Kon := kSeq (g26X (g26C [1, 1, 0, 1, 0, 0, 1, 1]) (g26k2 L11010)) (g26k2 L11010)
noncomputable def g26k4 (L11010 : V → V → V → St → Res) : Kon := kBlk 1 (g26k3 L11010)
noncomputable def g26k5 (L11010 : V → V → V → St → Res) : Kon := kBlk 2 (g26k4 L11010)
noncomputable def g26b110100100110 (L11010 : V → V → V → St → Res) : Nat → V → V → V → V → St → Res
| 0, _, _, _, _, _ => none
| n + 1, x0, x3, x4, x5, st =>
 A.bin .lss x5 (.int .i64 8) fun a1 =>
 A.cond a1
 (A.bin .mul (.int .i64 2) x3 fun a2 =>
 A.bin .gtr a2 (.int .i64 4294967295) fun a3 =>
 A.cond a3
 (A.bin .sub a2 (.int .i64 4294967295) fun a4 =>
 A.bin .sub a4 (.int .i64 1) fun a5 =>
 A.bin .xor a5 (.int .i64 79764919) fun a6 =>
 A.bin .add x5 (.int .i64 1) fun a7 =>
 (g26b110100100110 L11010 n) x0 a6 x4 a7 st)
 (A.bin .add x5 (.int .i64 1) fun a8 =>
 (g26b110100100110 L11010 n) x0 a2 x4 a8 st))
 (A.bin .add x4 (.int .i64 1) fun a9 =>
 L11010 x0 x3 a9 st)
theorem g26n110100100110 : g26C [1, 1, 0, 1, 0, 0, 1, 0, 0, 1, 1, 0] = .loop (g26C [1, 1, 0, 1, 0, 0, 1, 0, 0, 1, 1, 0, 0]) := by kernel_rfl
noncomputable def g26k6 (L11010 : V → V → V → St → Res) (L110100100110 : V → V → V → V → St → Res) : Kon := kSeq (fun env st => L110100100110 (env 0) (env 3) (env 4) (env 5) st) (g26k5 L11010)
theorem g26e110100100110 (L11010 : V → V → V → St → Res) : g26X (g26C [1, 1, 0, 1, 0, 0, 1, 0, 0, 1, 1, 0]) (g26k5 L11010) = fun env st => g26b110100100110 L11010 big (env 0) (env 3) (env 4) (env 5) st := by
  have key : ∀ n, aloop (g26X (g26C [1, 1, 0, 1, 0, 0, 1, 0, 0, 1, 1, 0, 0])) (g26k5 L11010) n = fun env st => g26b110100100110 L11010 n (env 0) (env 3) (env 4) (env 5) st := by
    intro n
    induction n with
    | zero => rfl
    | succ n ih =>
      have h : aloop (g26X (g26C [1, 1, 0, 1, 0, 0, 1, 0, 0, 1, 1, 0, 0])) (g26k5 L11010) (n + 1) = g26X (g26C [1, 1, 0, 1, 0, 0, 1, 0, 0, 1, 1, 0, 0]) (kSeq (aloop (g26X (g26C [1, 1, 0, 1, 0, 0, 1, 0, 0, 1, 1, 0, 0])) (g26k5 L11010) n) (g26k5 L11010)) := rfl
      rw [h, ih]
      refine Eq.trans (Eq.refl _) ?_
      funext env st
      kernel_rfl
  exact (g26loop g26n110100100110).trans (key big)
noncomputable def g26b1101001001 (L11010 : V → V → V → St → Res) (x0 : V) (x3 : V) (x4 : V) (st : St) : Res :=
 g26b110100100110 L11010 big x0 x3 x4 (.int .i64 0) st
theorem g26n1101001001 : g26C [1, 1, 0, 1, 0, 0, 1, 0, 0, 1] = .seq (g26C [1, 1, 0, 1, 0, 0, 1, 0, 0, 1, 0]) (g26C [1, 1, 0, 1, 0, 0, 1, 0, 0, 1, 1]) := by kernel_rfl
theorem g26n11010010011 : g26C [1, 1, 0, 1, 0, 0, 1, 0, 0, 1, 1] = .block 2 (g26C [1, 1, 0, 1, 0, 0, 1, 0, 0, 1, 1, 0]) := by kernel_rfl
theorem g26e1101001001 (L11010 : V → V → V → St → Res) : g26X (g26C [1, 1, 0, 1, 0, 0, 1, 0, 0, 1]) (g26k4 L11010) = fun env st => g26b1101001001 L11010 (env 0) (env 3) (env 4) st := by
  refine Eq.trans (g26seq g26n1101001001 ((g26blk g26n11010010011).trans (g26e110100100110 L11010))) ?_
  funext env st
  kernel_rfl
noncomputable def g26b11010 : Nat → V → V → V → St → Res
| 0, _, _, _, _ => none
| n + 1, x0, x3, x4, st =>
 A.lenS x0 fun a1 =>
 A.bin .lss x4 a1 fun a2 =>
 A.cond a2
 (A.idxS x0 x4 fun a3 =>
 A.toInt .i64 a3 fun a4 =>
 A.bin .shl a4 (.int .u64 24) fun a5 =>
 A.bin .xor x3 a5 fun a6 =>
 g26b1101001001 (g26b11010 n) x0 a6 x4 st)
 (A.bin .xor x3 (.int .i64 4294967295) fun a7 =>
 some (.ret a7.er1, st))
theorem g26n11010 : g26C [1, 1, 0, 1, 0] = .loop (g26C [1, 1, 0, 1, 0, 0]) := by kernel_rfl
theorem g26n110100 : g26C [1, 1, 0, 1, 0, 0] = .seq (g26C [1, 1, 0, 1, 0, 0, 0]) (g26C [1, 1, 0, 1, 0, 0, 1]) := by kernel_rfl
theorem g26n1101001 : g26C [1, 1, 0, 1, 0, 0, 1] = .seq (g26C [1, 1, 0, 1, 0, 0, 1, 0]) (g26C [1, 1, 0, 1, 0, 0, 1, 1]) := by kernel_rfl
theorem g26n11010010 : g26C [1, 1, 0, 1, 0, 0, 1, 0] = .block 1 (g26C [1, 1, 0, 1, 0, 0, 1, 0, 0]) := by kernel_rfl
theorem g26n110100100 : g26C [1, 1, 0, 1, 0, 0, 1, 0, 0] = .seq (g26C [1, 1, 0, 1, 0, 0, 1, 0, 0, 0]) (g26C [1, 1, 0, 1, 0, 0, 1, 0, 0, 1]) := by kernel_rfl
theorem g26e11010 : g26X (g26C [1, 1, 0, 1, 0]) (g26k1) = fun env st => g26b11010 big (env 0) (env 3) (env 4) st := by
  have key : ∀ n, aloop (g26X (g26C [1, 1, 0, 1, 0, 0])) (g26k1) n = fun env st => g26b11010 n (env 0) (env 3) (env 4) st := by
    intro n
    induction n with
    | zero => rfl
    | succ n ih =>
      have h : aloop (g26X (g26C [1, 1, 0, 1, 0, 0])) (g26k1) (n + 1) = g26X (g26C [1, 1, 0, 1, 0, 0]) (kSeq (aloop (g26X (g26C [1, 1, 0, 1, 0, 0])) (g26k1) n) (g26k1)) := rfl
      rw [h, ih]
      refine Eq.trans (g26seq g26n110100 ((g26seq g26n1101001 rfl).trans ((g26blk g26n11010010).trans (g26seq g26n110100100 (g26e1101001001 (g26b11010 n)))))) ?_
      funext env st
      kernel_rfl
  exact (g26loop g26n11010).trans (key big)
noncomputable def f26 (x0 : V) (st : St) : Res :=
 g26b11010 big x0 (.int .i64 4294967295) (.int .i64 0) st
theorem g26nr : g26C [] = .seq (g26C [0]) (g26C [1]) := by kernel_rfl
theorem g26n1 : g26C [1] = .seq (g26C [1, 0]) (g26C [1, 1]) := by kernel_rfl
theorem g26n11 : g26C [1, 1] = .seq (g26C [1, 1, 0]) (g26C [1, 1, 1]) := by kernel_rfl
theorem g26n110 : g26C [1, 1, 0] = .seq (g26C [1, 1, 0, 0]) (g26C [1, 1, 0, 1]) := by kernel_rfl
theorem g26n1101 : g26C [1, 1, 0, 1] = .block 0 (g26C [1, 1, 0, 1, 0]) := by kernel_rfl
theorem g26er (env : Env) (st : St) : g26X (g26C []) g26kr env st = f26 (env 0) st := by
  rw [(g26seq g26nr (g26seq g26n1 ((g26seq g26n11 rfl).trans (g26seq g26n110 ((g26blk g26n1101).trans (g26e11010))))))]
  kernel_rfl
theorem s26_eq (x0 : V) (st : St) : s26 [x0] st = f26 x0 st := by
  have h : afn Try.prog g26mu g26T big (areg Try.prog g26mu g26T) 26 [x0] st = g26X (g26C []) g26kr (fun t => [x0].getD t (.tup [])) st := by kernel_rfl
  rw [s26, sealF_eq]
  exact h.trans (g26er _ st)
/-! sinew/sinewref01.Num -/
def g40mu : Nat → Bool := fun _ => false
noncomputable def g40T : Tbl := tget []
theorem g40t : SimT Try.prog g40T := simT_nil
noncomputable def s40 : Fn := sealF (afn Try.prog g40mu g40T big (areg Try.prog g40mu g40T) 40)
theorem sim40 : Sim Try.prog 40 s40 := (afn_sim g40t (fun m => areg_sound g40t hmix m) 40 (by kernel_rfl)).sealed
noncomputable def g40C (p : List Nat) : Code := sub (match Try.f40.body with | some c => c | none => .skip) p
noncomputable def g40X (c : Code) (K : Kon) : Env → St → Res := aexec Try.prog g40mu g40T big 52 (areg Try.prog g40mu g40T 52) c K
noncomputable def g40kr : Kon := aresK Try.prog Try.f40.results.toList
theorem g40reg {c : Code} {K : Kon} {G : Env → St → Res} {id : Nat} {ops : Array Oper} {l1 l2 : List Nat} (hc : c = .region id ops false) (hl : List.range ops.size = l1 ++ l2) (h : (fun env st => aops Try.prog g40mu g40T 52 ops l2 env st (K .normal)) = G) : g40X c K = fun env st => aops Try.prog g40mu g40T 52 ops l1 env st G := reg_cut hc hl h
theorem g40seq {c x y : Code} {K : Kon} {G : Env → St → Res} (hc : c = .seq x y) (hy : g40X y K = G) : g40X c K = g40X x (kSeq G K) := seq_cut hc hy
theorem g40blk {c x : Code} {K : Kon} {i : Nat} (hc : c = .block i x) : g40X c K = g40X x (kBlk i K) := blk_cut hc
theorem g40loop {c x : Code} {K : Kon} (hc : c = .loop x) : g40X c K = aloop (g40X x) K big := loop_cut hc
theorem g40cond {c x y : Code} {K : Kon} {v : Operand} {F G : Env → St → Res} (hc : c = .cond v x y) (hx : g40X x K = F) (hy : g40X y K = G) : g40X c K = condF v F G := cond_cut hc hx hy
noncomputable def g40k0 : Kon := kSeq (g40X (g40C [1, 1, 1, 1, 1, 1, 1, 1]) (g40kr)) (g40kr)
noncomputable def g40k1 : Kon := kBlk 0 (g40k0)
noncomputable def g40b1111111010 : Nat → V → V → V → V → St → Res
| 0, _, _, _, _, _ => none
| n + 1, x0, x5, x6, x7, st =>
 A.bin .leq x7 x5 fun a1 =>
 A.cond a1
 (A.bin .mul x6 (.int .i64 256) fun a2 =>
 A.idxS x0 x7 fun a3 =>
 A.toInt .i64 a3 fun a4 =>
 A.bin .add a2 a4 fun a5 =>
 A.bin .add x7 (.int .i64 1) fun a6 =>
 (g40b1111111010 n) x0 x5 a5 a6 st)
 (A.bin .add x5 (.int .i64 1) fun a7 =>
 some (.ret (.tup [x6.er1, a7.er1, ((.int .i64 0) : V).er1]), st))
theorem g40n1111111010 : g40C [1, 1, 1, 1, 1, 1, 1, 0, 1, 0] = .loop (g40C [1, 1, 1, 1, 1, 1, 1, 0, 1, 0, 0]) := by kernel_rfl
noncomputable def g40k2 (L1111111010 : V → V → V → V → St → Res) : Kon := kSeq (fun env st => L1111111010 (env 0) (env 5) (env 6) (env 7) st) (g40k1)
theorem g40e1111111010 : g40X (g40C [1, 1, 1, 1, 1, 1, 1, 0, 1, 0]) (g40k1) = fun env st => g40b1111111010 big (env 0) (env 5) (env 6) (env 7) st := by
  have key : ∀ n, aloop (g40X (g40C [1, 1, 1, 1, 1, 1, 1, 0, 1, 0, 0])) (g40k1) n = fun env st => g40b1111111010 n (env 0) (env 5) (env 6) (env 7) st := by
    intro n
    induction n with
    | zero => rfl
    | succ n ih =>
      have h : aloop (g40X (g40C [1, 1, 1, 1, 1, 1, 1, 0, 1, 0, 0])) (g40k1) (n + 1) = g40X (g40C [1, 1, 1, 1, 1, 1, 1, 0, 1, 0, 0]) (kSeq (aloop (g40X (g40C [1, 1, 1, 1, 1, 1, 1, 0, 1, 0, 0])) (g40k1) n) (g40k1)) := rfl
      rw [h, ih]
      refine Eq.trans (Eq.refl _) ?_
      funext env st
      kernel_rfl
  exact (g40loop g40n1111111010).trans (key big)
noncomputable def g40b111111 (x0 : V) (x5 : V) (st : St) : Res :=
 g40b1111111010 big x0 x5 (.int .i64 0) (.int .i64 1) st
theorem g40n111111 : g40C [1, 1, 1, 1, 1, 1] = .seq (g40C [1, 1, 1, 1, 1, 1, 0]) (g40C [1, 1, 1, 1, 1, 1, 1]) := by kernel_rfl
theorem g40n1111111 : g40C [1, 1, 1, 1, 1, 1, 1] = .seq (g40C [1, 1, 1, 1, 1, 1, 1, 0]) (g40C [1, 1, 1, 1, 1, 1, 1, 1]) := by kernel_rfl
theorem g40n11111110 : g40C [1, 1, 1, 1, 1, 1, 1, 0] = .seq (g40C [1, 1, 1, 1, 1, 1, 1, 0, 0]) (g40C [1, 1, 1, 1, 1, 1, 1, 0, 1]) := by kernel_rfl
theorem g40n111111101 : g40C [1, 1, 1, 1, 1, 1, 1, 0, 1] = .block 0 (g40C [1, 1, 1, 1, 1, 1, 1, 0, 1, 0]) := by kernel_rfl
theorem g40e111111 : g40X (g40C [1, 1, 1, 1, 1, 1]) (g40kr) = fun env st => g40b111111 (env 0) (env 5) st := by
  refine Eq.trans (g40seq g40n111111 ((g40seq g40n1111111 rfl).trans (g40seq g40n11111110 ((g40blk g40n111111101).trans (g40e1111111010))))) ?_
  funext env st
  kernel_rfl
noncomputable def g40k3 : Kon := kSeq (fun env st => g40b111111 (env 0) (env 5) st) (g40kr)
noncomputable def g40k4 : Kon := kSeq (g40X (g40C [1, 1, 1, 1, 1, 0, 1]) (g40k3)) (g40k3)
noncomputable def g40b1111100_8 (x0 : V) (x5 : V) (x28 : V) (st : St) : Res :=
 A.guard x28 false
 (A.eql 2 false x5 (.int .i64 8) fun a1 =>
 A.guardT a1 true
 (A.idxS x0 (.int .i64 1) fun a2 =>
 A.bin .gtr a2 (.int .u8 127) fun a3 =>
 A.cond a3
 (some (.ret (.tup [((.int .i64 0) : V).er1, ((.int .i64 0) : V).er1, ((.int .i64 10) : V).er1]), st))
 (g40b111111 x0 x5 st))
 (g40b111111 x0 x5 st)
 (A.guardT a1 true
 (A.idxS (.tup []) (.int .i64 1) fun a4 =>
 A.bin .gtr a4 (.int .u8 127) fun a5 =>
 A.cond a5
 (some (.ret (.tup [((.int .i64 0) : V).er1, ((.int .i64 0) : V).er1, ((.int .i64 10) : V).er1]), st))
 (g40b111111 x0 x5 st))
 (g40b111111 x0 x5 st)
 (A.guardT a1 true
 (A.bin .gtr (.tup []) (.int .u8 127) fun a6 =>
 A.cond a6
 (some (.ret (.tup [((.int .i64 0) : V).er1, ((.int .i64 0) : V).er1, ((.int .i64 10) : V).er1]), st))
 (g40b111111 x0 x5 st))
 (g40b111111 x0 x5 st)
 (A.pick a1 (.tup []) (.bool false) fun a7 =>
 A.cond a7
 (some (.ret (.tup [((.int .i64 0) : V).er1, ((.int .i64 0) : V).er1, ((.int .i64 10) : V).er1]), st))
 (g40b111111 x0 x5 st)))))
 (some (.ret (.tup [((.int .i64 0) : V).er1, ((.int .i64 0) : V).er1, ((.int .i64 10) : V).er1]), st))
theorem g40e1111100_8 : (fun env st => aops Try.prog g40mu g40T 52 (rops (g40C [1, 1, 1, 1, 1, 0, 0])) [8, 9, 10, 11, 12, 13, 14, 15] env st ((g40k4) .normal)) = fun env st => g40b1111100_8 (env 0) (env 5) (env 28) st := by
  refine Eq.trans (Eq.refl _) ?_
  funext env st
  kernel_rfl
noncomputable def g40b11111 (x0 : V) (x5 : V) (st : St) : Res :=
 A.bin .gtr x5 (.int .i64 0) fun a1 =>
 A.guard a1 true
 (A.idxS x0 (.int .i64 1) fun a2 =>
 A.eql 2 false a2 (.int .u8 0) fun a3 =>
 g40b1111100_8 x0 x5 a3 st)
 (g40b1111100_8 x0 x5 (.bool false) st)
theorem g40n11111 : g40C [1, 1, 1, 1, 1] = .seq (g40C [1, 1, 1, 1, 1, 0]) (g40C [1, 1, 1, 1, 1, 1]) := by kernel_rfl
theorem g40n111110 : g40C [1, 1, 1, 1, 1, 0] = .seq (g40C [1, 1, 1, 1, 1, 0, 0]) (g40C [1, 1, 1, 1, 1, 0, 1]) := by kernel_rfl
theorem g40rg1111100 : g40C [1, 1, 1, 1, 1, 0, 0] = .region 8 (rops (g40C [1, 1, 1, 1, 1, 0, 0])) false := by kernel_rfl
theorem g40rg1111100l : List.range (rops (g40C [1, 1, 1, 1, 1, 0, 0])).size = [0, 1, 2, 3, 4, 5, 6, 7] ++ [8, 9, 10, 11, 12, 13, 14, 15] := by kernel_rfl
theorem g40e11111 : g40X (g40C [1, 1, 1, 1, 1]) (g40kr) = fun env st => g40b11111 (env 0) (env 5) st := by
  refine Eq.trans ((g40seq g40n11111 (g40e111111)).trans ((g40seq g40n111110 rfl).trans (g40reg g40rg1111100 g40rg1111100l (g40e1111100_8)))) ?_
  funext env st
  kernel_rfl
noncomputable def g40b111 (x0 : V) (x5 : V) (st : St) : Res :=
 A.bin .gtr x5 (.int .i64 8) fun a1 =>
 A.cond a1
 (some (.ret (.tup [((.int .i64 0) : V).er1, ((.int .i64 0) : V).er1, ((.int .i64 10) : V).er1]), st))
 (A.lenS x0 fun a2 =>
 A.bin .sub a2 (.int .i64 1) fun a3 =>
 A.bin .lss a3 x5 fun a4 =>
 A.cond a4
 (some (.ret (.tup [((.int .i64 0) : V).er1, ((.int .i64 0) : V).er1, ((.int .i64 11) : V).er1]), st))
 (g40b11111 x0 x5 st))
theorem g40n111 : g40C [1, 1, 1] = .seq (g40C [1, 1, 1, 0]) (g40C [1, 1, 1, 1]) := by kernel_rfl
theorem g40n1111 : g40C [1, 1, 1, 1] = .seq (g40C [1, 1, 1, 1, 0]) (g40C [1, 1, 1, 1, 1]) := by kernel_rfl
theorem g40e111 : g40X (g40C [1, 1, 1]) (g40kr) = fun env st => g40b111 (env 0) (env 5) st := by
  refine Eq.trans (g40seq g40n111 (g40seq g40n1111 (g40e11111))) ?_
  funext env st
  kernel_rfl
noncomputable def f40 (x0 : V) (st : St) : Res :=
 A.lenS x0 fun a1 =>
 A.eql 2 false a1 (.int .i64 0) fun a2 =>
 A.cond a2
 (some (.ret (.tup [((.int .i64 0) : V).er1, ((.int .i64 0) : V).er1, ((.int .i64 11) : V).er1]), st))
 (A.idxS x0 (.int .i64 0) fun a3 =>
 A.toInt .i64 a3 fun a4 =>
 g40b111 x0 a4 st)
theorem g40nr : g40C [] = .seq (g40C [0]) (g40C [1]) := by kernel_rfl
theorem g40n1 : g40C [1] = .seq (g40C [1, 0]) (g40C [1, 1]) := by kernel_rfl
theorem g40n11 : g40C [1, 1] = .seq (g40C [1, 1, 0]) (g40C [1, 1, 1]) := by kernel_rfl
theorem g40er (env : Env) (st : St) : g40X (g40C []) g40kr env st = f40 (env 0) st := by
  rw [(g40seq g40nr (g40seq g40n1 (g40seq g40n11 (g40e111))))]
  kernel_rfl
theorem s40_eq (x0 : V) (st : St) : s40 [x0] st = f40 x0 st := by
  have h : afn Try.prog g40mu g40T big (areg Try.prog g40mu g40T) 40 [x0] st = g40X (g40C []) g40kr (fun t => [x0].getD t (.tup [])) st := by kernel_rfl
  rw [s40, sealF_eq]
  exact h.trans (g40er _ st)
/-! sinew/sinewref01.Str -/
def g58mu : Nat → Bool := fun _ => false
noncomputable def g58T : Tbl := tget [(40, s40)]
theorem g58t : SimT Try.prog g58T := simT_cons sim40 (simT_nil)
noncomputable def s58 : Fn := sealF (afn Try.prog g58mu g58T big (areg Try.prog g58mu g58T) 58)
theorem sim58 : Sim Try.prog 58 s58 := (afn_sim g58t (fun m => areg_sound g58t hmix m) 58 (by kernel_rfl)).sealed
noncomputable def g58C (p : List Nat) : Code := sub (match Try.f58.body with | some c => c | none => .skip) p
noncomputable def g58X (c : Code) (K : Kon) : Env → St → Res := aexec Try.prog g58mu g58T big 34 (areg Try.prog g58mu g58T 34) c K
noncomputable def g58kr : Kon := aresK Try.prog Try.f58.results.toList
theorem g58reg {c : Code} {K : Kon} {G : Env → St → Res} {id : Nat} {ops : Array Oper} {l1 l2 : List Nat} (hc : c = .region id ops false) (hl : List.range ops.size = l1 ++ l2) (h : (fun env st => aops Try.prog g58mu g58T 34 ops l2 env st (K .normal)) = G) : g58X c K = fun env st => aops Try.prog g58mu g58T 34 ops l1 env st G := reg_cut hc hl h
theorem g58seq {c x y : Code} {K : Kon} {G : Env → St → Res} (hc : c = .seq x y) (hy : g58X y K = G) : g58X c K = g58X x (kSeq G K) := seq_cut hc hy
theorem g58blk {c x : Code} {K : Kon} {i : Nat} (hc : c = .block i x) : g58X c K = g58X x (kBlk i K) := blk_cut hc
theorem g58loop {c x : Code} {K : Kon} (hc : c = .loop x) : g58X c K = aloop (g58X x) K big := loop_cut hc
theorem g58cond {c x y : Code} {K : Kon} {v : Operand} {F G : Env → St → Res} (hc : c = .cond v x y) (hx : g58X x K = F) (hy : g58X y K = G) : g58X c K = condF v F G := cond_cut hc hx hy
noncomputable def g58b1111 (x0 : V) (x5 : V) (x6 : V) (st : St) : Res :=
 A.lenS x0 fun a1 =>
 A.bin .sub a1 x6 fun a2 =>
 A.bin .gtr x5 a2 fun a3 =>
 A.cond a3
 (some (.ret (.tup [((.str []) : V).er1, ((.int .i64 0) : V).er1, ((.int .i64 11) : V).er1]), st))
 (A.bin .add x6 x5 fun a4 =>
 A.sliceS x0 (some x6) (some a4) fun a5 =>
 A.bin .add x6 x5 fun a6 =>
 some (.ret (.tup [a5.er1, a6.er1, ((.int .i64 0) : V).er1]), st))
theorem g58e1111 : g58X (g58C [1, 1, 1, 1]) (g58kr) = fun env st => g58b1111 (env 0) (env 5) (env 6) st := by
  refine Eq.trans (Eq.refl (g58X (g58C [1, 1, 1, 1]) (g58kr))) ?_
  funext env st
  kernel_rfl
noncomputable def g58b11 (x0 : V) (x5 : V) (x6 : V) (x7 : V) (st : St) : Res :=
 A.eql 2 true x7 (.int .i64 0) fun a1 =>
 A.cond a1
 (some (.ret (.tup [((.str []) : V).er1, ((.int .i64 0) : V).er1, x7.er1]), st))
 (A.bin .gtr x5 (.int .i64 65536) fun a2 =>
 A.cond a2
 (some (.ret (.tup [((.str []) : V).er1, ((.int .i64 0) : V).er1, ((.int .i64 12) : V).er1]), st))
 (g58b1111 x0 x5 x6 st))
theorem g58n11 : g58C [1, 1] = .seq (g58C [1, 1, 0]) (g58C [1, 1, 1]) := by kernel_rfl
theorem g58n111 : g58C [1, 1, 1] = .seq (g58C [1, 1, 1, 0]) (g58C [1, 1, 1, 1]) := by kernel_rfl
theorem g58e11 : g58X (g58C [1, 1]) (g58kr) = fun env st => g58b11 (env 0) (env 5) (env 6) (env 7) st := by
  refine Eq.trans (g58seq g58n11 (g58seq g58n111 (g58e1111))) ?_
  funext env st
  kernel_rfl
noncomputable def f58 (x0 : V) (st : St) : Res :=
 A.ret (s40 [x0.er1] st) fun a1 z2 =>
 A.ext a1 0 fun a3 =>
 A.ext a1 1 fun a4 =>
 A.ext a1 2 fun a5 =>
 g58b11 x0 a3 a4 a5 z2
theorem g58nr : g58C [] = .seq (g58C [0]) (g58C [1]) := by kernel_rfl
theorem g58n1 : g58C [1] = .seq (g58C [1, 0]) (g58C [1, 1]) := by kernel_rfl
theorem g58er (env : Env) (st : St) : g58X (g58C []) g58kr env st = f58 (env 0) st := by
  rw [(g58seq g58nr (g58seq g58n1 (g58e11)))]
  kernel_rfl
theorem s58_eq (x0 : V) (st : St) : s58 [x0] st = f58 x0 st := by
  have h : afn Try.prog g58mu g58T big (areg Try.prog g58mu g58T) 58 [x0] st = g58X (g58C []) g58kr (fun t => [x0].getD t (.tup [])) st := by kernel_rfl
  rw [s58, sealF_eq]
  exact h.trans (g58er _ st)
/-! sinew/sinewref01.List -/
def g41mu : Nat → Bool := fun _ => false
noncomputable def g41T : Tbl := tget [(40, s40), (58, s58)]
theorem g41t : SimT Try.prog g41T := simT_cons sim40 ( simT_cons sim58 (simT_nil))
noncomputable def s41 : Fn := sealF (fun args st => fg (afn Try.prog g41mu g41T big (areg Try.prog g41mu g41T) 41 args st) st)
theorem sim41 : Sim Try.prog 41 s41 := (afn_sim g41t (fun m => areg_sound g41t hmix m) 41 (by kernel_rfl)).fg.sealed
noncomputable def g41C (p : List Nat) : Code := sub (match Try.f41.body with | some c => c | none => .skip) p
noncomputable def g41X (c : Code) (K : Kon) : Env → St → Res := aexec Try.prog g41mu g41T big 49 (areg Try.prog g41mu g41T 49) c K
noncomputable def g41kr : Kon := aresK Try.prog Try.f41.results.toList
theorem g41reg {c : Code} {K : Kon} {G : Env → St → Res} {id : Nat} {ops : Array Oper} {l1 l2 : List Nat} (hc : c = .region id ops false) (hl : List.range ops.size = l1 ++ l2) (h : (fun env st => aops Try.prog g41mu g41T 49 ops l2 env st (K .normal)) = G) : g41X c K = fun env st => aops Try.prog g41mu g41T 49 ops l1 env st G := reg_cut hc hl h
theorem g41seq {c x y : Code} {K : Kon} {G : Env → St → Res} (hc : c = .seq x y) (hy : g41X y K = G) : g41X c K = g41X x (kSeq G K) := seq_cut hc hy
theorem g41blk {c x : Code} {K : Kon} {i : Nat} (hc : c = .block i x) : g41X c K = g41X x (kBlk i K) := blk_cut hc
theorem g41loop {c x : Code} {K : Kon} (hc : c = .loop x) : g41X c K = aloop (g41X x) K big := loop_cut hc
theorem g41cond {c x y : Code} {K : Kon} {v : Operand} {F G : Env → St → Res} (hc : c = .cond v x y) (hx : g41X x K = F) (hy : g41X y K = G) : g41X c K = condF v F G := cond_cut hc hx hy
noncomputable def g41k0 : Kon := kSeq (g41X (g41C [1, 1, 1, 1, 1, 1]) (g41kr)) (g41kr)
noncomputable def g41k1 : Kon := kBlk 0 (g41k0)
noncomputable def g41k2 (L11111010 : V → V → V → V → V → St → Res) : Kon := kSeq (fun env st => L11111010 (env 0) (env 5) (env 6) (env 8) (env 9) st) (g41k1)
noncomputable def g41k3 (L11111010 : V → V → V → V → V → St → Res) : Kon := kSeq (g41X (g41C [1, 1, 1, 1, 1, 0, 1, 0, 0, 1, 1]) (g41k2 L11111010)) (g41k2 L11111010)
noncomputable def g41k4 (L11111010 : V → V → V → V → V → St → Res) : Kon := kBlk 1 (g41k3 L11111010)
noncomputable def g41b1111101001001 (L11111010 : V → V → V → V → V → St → Res) (x0 : V) (x5 : V) (x6 : V) (x8 : V) (x9 : V) (x10 : V) (x11 : V) (x12 : V) (st : St) : Res :=
 A.eql 2 true x12 (.int .i64 0) fun a1 =>
 A.cond a1
 (some (.ret (.tup [((.lst [] 1) : V).er1, ((.int .i64 0) : V).er1, x12.er1]), st))
 (A.bslice 1 (.str []) 1 [(0, x10)] fun a2 =>
 A.app 1 x8 (elemsOf 5 1 a2 st) st fun a3 z4 =>
 A.bin .add x6 x11 fun a5 =>
 A.bin .add x9 (.int .i64 1) fun a6 =>
 L11111010 x0 x5 a5 a3 a6 z4)
theorem g41e1111101001001 (L11111010 : V → V → V → V → V → St → Res) : g41X (g41C [1, 1, 1, 1, 1, 0, 1, 0, 0, 1, 0, 0, 1]) (g41k4 L11111010) = fun env st => g41b1111101001001 L11111010 (env 0) (env 5) (env 6) (env 8) (env 9) (env 10) (env 11) (env 12) st := by
  refine Eq.trans (Eq.refl (g41X (g41C [1, 1, 1, 1, 1, 0, 1, 0, 0, 1, 0, 0, 1]) (g41k4 L11111010))) ?_
  funext env st
  kernel_rfl
noncomputable def g41b11111010 : Nat → V → V → V → V → V → St → Res
| 0, _, _, _, _, _, _ => none
| n + 1, x0, x5, x6, x8, x9, st =>
 A.bin .lss x9 x5 fun a1 =>
 A.cond a1
 (A.sliceS x0 (some x6) none fun a2 =>
 A.ret (s58 [a2.er1] st) fun a3 z4 =>
 A.ext a3 0 fun a5 =>
 A.ext a3 1 fun a6 =>
 A.ext a3 2 fun a7 =>
 g41b1111101001001 (g41b11111010 n) x0 x5 x6 x8 x9 a5 a6 a7 z4)
 (some (.ret (.tup [x8.er1, x6.er1, ((.int .i64 0) : V).er1]), st))
theorem g41n11111010 : g41C [1, 1, 1, 1, 1, 0, 1, 0] = .loop (g41C [1, 1, 1, 1, 1, 0, 1, 0, 0]) := by kernel_rfl
theorem g41n111110100 : g41C [1, 1, 1, 1, 1, 0, 1, 0, 0] = .seq (g41C [1, 1, 1, 1, 1, 0, 1, 0, 0, 0]) (g41C [1, 1, 1, 1, 1, 0, 1, 0, 0, 1]) := by kernel_rfl
theorem g41n1111101001 : g41C [1, 1, 1, 1, 1, 0, 1, 0, 0, 1] = .seq (g41C [1, 1, 1, 1, 1, 0, 1, 0, 0, 1, 0]) (g41C [1, 1, 1, 1, 1, 0, 1, 0, 0, 1, 1]) := by kernel_rfl
theorem g41n11111010010 : g41C [1, 1, 1, 1, 1, 0, 1, 0, 0, 1, 0] = .block 1 (g41C [1, 1, 1, 1, 1, 0, 1, 0, 0, 1, 0, 0]) := by kernel_rfl
theorem g41n111110100100 : g41C [1, 1, 1, 1, 1, 0, 1, 0, 0, 1, 0, 0] = .seq (g41C [1, 1, 1, 1, 1, 0, 1, 0, 0, 1, 0, 0, 0]) (g41C [1, 1, 1, 1, 1, 0, 1, 0, 0, 1, 0, 0, 1]) := by kernel_rfl
theorem g41e11111010 : g41X (g41C [1, 1, 1, 1, 1, 0, 1, 0]) (g41k1) = fun env st => g41b11111010 big (env 0) (env 5) (env 6) (env 8) (env 9) st := by
  have key : ∀ n, aloop (g41X (g41C [1, 1, 1, 1, 1, 0, 1, 0, 0])) (g41k1) n = fun env st => g41b11111010 n (env 0) (env 5) (env 6) (env 8) (env 9) st := by
    intro n
    induction n with
    | zero => rfl
    | succ n ih =>
      have h : aloop (g41X (g41C [1, 1, 1, 1, 1, 0, 1, 0, 0])) (g41k1) (n + 1) = g41X (g41C [1, 1, 1, 1, 1, 0, 1, 0, 0]) (kSeq (aloop (g41X (g41C [1, 1, 1, 1, 1, 0, 1, 0, 0])) (g41k1) n) (g41k1)) := rfl
      rw [h, ih]
      refine Eq.trans (g41seq g41n111110100 ((g41seq g41n1111101001 rfl).trans ((g41blk g41n11111010010).trans (g41seq g41n111110100100 (g41e1111101001001 (g41b11111010 n)))))) ?_
      funext env st
      kernel_rfl
  exact (g41loop g41n11111010).trans (key big)
noncomputable def g41b1111 (x0 : V) (x5 : V) (x6 : V) (st : St) : Res :=
 g41b11111010 big x0 x5 x6 (.lst [] 1) (.int .i64 0) st
theorem g41n1111 : g41C [1, 1, 1, 1] = .seq (g41C [1, 1, 1, 1, 0]) (g41C [1, 1, 1, 1, 1]) := by kernel_rfl
theorem g41n11111 : g41C [1, 1, 1, 1, 1] = .seq (g41C [1, 1, 1, 1, 1, 0]) (g41C [1, 1, 1, 1, 1, 1]) := by kernel_rfl
theorem g41n111110 : g41C [1, 1, 1, 1, 1, 0] = .seq (g41C [1, 1, 1, 1, 1, 0, 0]) (g41C [1, 1, 1, 1, 1, 0, 1]) := by kernel_rfl
theorem g41n1111101 : g41C [1, 1, 1, 1, 1, 0, 1] = .block 0 (g41C [1, 1, 1, 1, 1, 0, 1, 0]) := by kernel_rfl
theorem g41e1111 : g41X (g41C [1, 1, 1, 1]) (g41kr) = fun env st => g41b1111 (env 0) (env 5) (env 6) st := by
  refine Eq.trans (g41seq g41n1111 ((g41seq g41n11111 rfl).trans (g41seq g41n111110 ((g41blk g41n1111101).trans (g41e11111010))))) ?_
  funext env st
  kernel_rfl
noncomputable def g41b11 (x0 : V) (x5 : V) (x6 : V) (x7 : V) (st : St) : Res :=
 A.eql 2 true x7 (.int .i64 0) fun a1 =>
 A.cond a1
 (some (.ret (.tup [((.lst [] 1) : V).er1, ((.int .i64 0) : V).er1, x7.er1]), st))
 (A.bin .gtr x5 (.int .i64 4096) fun a2 =>
 A.cond a2
 (some (.ret (.tup [((.lst [] 1) : V).er1, ((.int .i64 0) : V).er1, ((.int .i64 12) : V).er1]), st))
 (g41b1111 x0 x5 x6 st))
theorem g41n11 : g41C [1, 1] = .seq (g41C [1, 1, 0]) (g41C [1, 1, 1]) := by kernel_rfl
theorem g41n111 : g41C [1, 1, 1] = .seq (g41C [1, 1, 1, 0]) (g41C [1, 1, 1, 1]) := by kernel_rfl
theorem g41e11 : g41X (g41C [1, 1]) (g41kr) = fun env st => g41b11 (env 0) (env 5) (env 6) (env 7) st := by
  refine Eq.trans (g41seq g41n11 (g41seq g41n111 (g41e1111))) ?_
  funext env st
  kernel_rfl
noncomputable def f41 (x0 : V) (st : St) : Res :=
 A.ret (s40 [x0.er1] st) fun a1 z2 =>
 A.ext a1 0 fun a3 =>
 A.ext a1 1 fun a4 =>
 A.ext a1 2 fun a5 =>
 g41b11 x0 a3 a4 a5 z2
theorem g41nr : g41C [] = .seq (g41C [0]) (g41C [1]) := by kernel_rfl
theorem g41n1 : g41C [1] = .seq (g41C [1, 0]) (g41C [1, 1]) := by kernel_rfl
theorem g41er (env : Env) (st : St) : g41X (g41C []) g41kr env st = f41 (env 0) st := by
  rw [(g41seq g41nr (g41seq g41n1 (g41e11)))]
  kernel_rfl
theorem s41_eq (x0 : V) (st : St) : s41 [x0] st = fg (f41 x0 st) st := by
  have h : afn Try.prog g41mu g41T big (areg Try.prog g41mu g41T) 41 [x0] st = g41X (g41C []) g41kr (fun t => [x0].getD t (.tup [])) st := by kernel_rfl
  rw [s41, sealF_eq]
  show fg _ st = fg _ st
  refine congrArg (fun r => fg r st) ?_
  exact h.trans (g41er _ st)
/-! sinew/sinewref03.short -/
def g59mu : Nat → Bool := fun _ => false
noncomputable def g59T : Tbl := tget []
theorem g59t : SimT Try.prog g59T := simT_nil
noncomputable def s59 : Fn := sealF (afn Try.prog g59mu g59T big (areg Try.prog g59mu g59T) 59)
theorem sim59 : Sim Try.prog 59 s59 := (afn_sim g59t (fun m => areg_sound g59t hmix m) 59 (by kernel_rfl)).sealed
noncomputable def g59C (p : List Nat) : Code := sub (match Try.f59.body with | some c => c | none => .skip) p
noncomputable def g59X (c : Code) (K : Kon) : Env → St → Res := aexec Try.prog g59mu g59T big 16 (areg Try.prog g59mu g59T 16) c K
noncomputable def g59kr : Kon := aresK Try.prog Try.f59.results.toList
theorem g59reg {c : Code} {K : Kon} {G : Env → St → Res} {id : Nat} {ops : Array Oper} {l1 l2 : List Nat} (hc : c = .region id ops false) (hl : List.range ops.size = l1 ++ l2) (h : (fun env st => aops Try.prog g59mu g59T 16 ops l2 env st (K .normal)) = G) : g59X c K = fun env st => aops Try.prog g59mu g59T 16 ops l1 env st G := reg_cut hc hl h
theorem g59seq {c x y : Code} {K : Kon} {G : Env → St → Res} (hc : c = .seq x y) (hy : g59X y K = G) : g59X c K = g59X x (kSeq G K) := seq_cut hc hy
theorem g59blk {c x : Code} {K : Kon} {i : Nat} (hc : c = .block i x) : g59X c K = g59X x (kBlk i K) := blk_cut hc
theorem g59loop {c x : Code} {K : Kon} (hc : c = .loop x) : g59X c K = aloop (g59X x) K big := loop_cut hc
theorem g59cond {c x y : Code} {K : Kon} {v : Operand} {F G : Env → St → Res} (hc : c = .cond v x y) (hx : g59X x K = F) (hy : g59X y K = G) : g59X c K = condF v F G := cond_cut hc hx hy
noncomputable def g59k0 : Kon := kSeq (g59X (g59C [1, 1]) (g59kr)) (g59kr)
noncomputable def g59k1 : Kon := kBlk 0 (g59k0)
noncomputable def g59b1010 : Nat → V → V → St → Res
| 0, _, _, _ => none
| n + 1, x0, x3, st =>
 A.lenL x0 fun a1 =>
 A.bin .lss x3 a1 fun a2 =>
 A.cond a2
 (A.iaddr 1 x0 x3 fun a3 =>
 A.load false 1 a3 st fun a4 z5 =>
 A.lenS a4 fun a6 =>
 A.bin .gtr a6 (.int .i64 65536) fun a7 =>
 A.cond a7
 (some (.ret ((.bool false) : V).er1, z5))
 (A.bin .add x3 (.int .i64 1) fun a8 =>
 (g59b1010 n) x0 a8 z5))
 (some (.ret ((.bool true) : V).er1, st))
theorem g59n1010 : g59C [1, 0, 1, 0] = .loop (g59C [1, 0, 1, 0, 0]) := by kernel_rfl
noncomputable def g59k2 (L1010 : V → V → St → Res) : Kon := kSeq (fun env st => L1010 (env 0) (env 3) st) (g59k1)
theorem g59e1010 : g59X (g59C [1, 0, 1, 0]) (g59k1) = fun env st => g59b1010 big (env 0) (env 3) st := by
  have key : ∀ n, aloop (g59X (g59C [1, 0, 1, 0, 0])) (g59k1) n = fun env st => g59b1010 n (env 0) (env 3) st := by
    intro n
    induction n with
    | zero => rfl
    | succ n ih =>
      have h : aloop (g59X (g59C [1, 0, 1, 0, 0])) (g59k1) (n + 1) = g59X (g59C [1, 0, 1, 0, 0]) (kSeq (aloop (g59X (g59C [1, 0, 1, 0, 0])) (g59k1) n) (g59k1)) := rfl
      rw [h, ih]
      refine Eq.trans (Eq.refl _) ?_
      funext env st
      kernel_rfl
  exact (g59loop g59n1010).trans (key big)
noncomputable def f59 (x0 : V) (st : St) : Res :=
 g59b1010 big x0 (.int .i64 0) st
theorem g59nr : g59C [] = .seq (g59C [0]) (g59C [1]) := by kernel_rfl
theorem g59n1 : g59C [1] = .seq (g59C [1, 0]) (g59C [1, 1]) := by kernel_rfl
theorem g59n10 : g59C [1, 0] = .seq (g59C [1, 0, 0]) (g59C [1, 0, 1]) := by kernel_rfl
theorem g59n101 : g59C [1, 0, 1] = .block 0 (g59C [1, 0, 1, 0]) := by kernel_rfl
theorem g59er (env : Env) (st : St) : g59X (g59C []) g59kr env st = f59 (env 0) st := by
  rw [(g59seq g59nr ((g59seq g59n1 rfl).trans (g59seq g59n10 ((g59blk g59n101).trans (g59e1010)))))]
  kernel_rfl
theorem s59_eq (x0 : V) (st : St) : s59 [x0] st = f59 x0 st := by
  have h : afn Try.prog g59mu g59T big (areg Try.prog g59mu g59T) 59 [x0] st = g59X (g59C []) g59kr (fun t => [x0].getD t (.tup [])) st := by kernel_rfl
  rw [s59, sealF_eq]
  exact h.trans (g59er _ st)
/-! sinew/sinewref03.shaped -/
def g42mu : Nat → Bool := fun _ => false
noncomputable def g42T : Tbl := tget [(59, s59)]
theorem g42t : SimT Try.prog g42T := simT_cons sim59 (simT_nil)
noncomputable def s42 : Fn := sealF (fun args st => fg (afn Try.prog g42mu g42T big (areg Try.prog g42mu g42T) 42 args st) st)
theorem sim42 : Sim Try.prog 42 s42 := (afn_sim g42t (fun m => areg_sound g42t hmix m) 42 (by kernel_rfl)).fg.sealed
noncomputable def g42C (p : List Nat) : Code := sub (match Try.f42.body with | some c => c | none => .skip) p
noncomputable def g42X (c : Code) (K : Kon) : Env → St → Res := aexec Try.prog g42mu g42T big 95 (areg Try.prog g42mu g42T 95) c K
noncomputable def g42kr : Kon := aresK Try.prog Try.f42.results.toList
theorem g42reg {c : Code} {K : Kon} {G : Env → St → Res} {id : Nat} {ops : Array Oper} {l1 l2 : List Nat} (hc : c = .region id ops false) (hl : List.range ops.size = l1 ++ l2) (h : (fun env st => aops Try.prog g42mu g42T 95 ops l2 env st (K .normal)) = G) : g42X c K = fun env st => aops Try.prog g42mu g42T 95 ops l1 env st G := reg_cut hc hl h
theorem g42seq {c x y : Code} {K : Kon} {G : Env → St → Res} (hc : c = .seq x y) (hy : g42X y K = G) : g42X c K = g42X x (kSeq G K) := seq_cut hc hy
theorem g42blk {c x : Code} {K : Kon} {i : Nat} (hc : c = .block i x) : g42X c K = g42X x (kBlk i K) := blk_cut hc
theorem g42loop {c x : Code} {K : Kon} (hc : c = .loop x) : g42X c K = aloop (g42X x) K big := loop_cut hc
theorem g42cond {c x y : Code} {K : Kon} {v : Operand} {F G : Env → St → Res} (hc : c = .cond v x y) (hx : g42X x K = F) (hy : g42X y K = G) : g42X c K = condF v F G := cond_cut hc hx hy
noncomputable def g42k0 : Kon := kSeq (g42X (g42C [1, 1, 1, 1, 1]) (g42kr)) (g42kr)
noncomputable def g42k1 : Kon := kBlk 2 (g42k0)
noncomputable def g42k2 (L1111010 : V → V → V → St → Res) : Kon := kSeq (fun env st => L1111010 (env 1) (env 4) (env 5) st) (g42k1)
noncomputable def g42k3 (L1111010 : V → V → V → St → Res) : Kon := kSeq (g42X (g42C [1, 1, 1, 1, 0, 1, 0, 0, 1, 1]) (g42k2 L1111010)) (g42k2 L1111010)
noncomputable def g42k4 (L1111010 : V → V → V → St → Res) : Kon := kBlk 3 (g42k3 L1111010)
noncomputable def g42k5 (L1111010 : V → V → V → St → Res) : Kon := kSeq (g42X (g42C [1, 1, 1, 1, 0, 1, 0, 0, 1, 0, 0, 1]) (g42k4 L1111010)) (g42k4 L1111010)
noncomputable def g42k6 (L1111010 : V → V → V → St → Res) : Kon := kSeq (g42X (g42C [1, 1, 1, 1, 0, 1, 0, 0, 1, 0, 0, 0, 1]) (g42k5 L1111010)) (g42k5 L1111010)
noncomputable def g42b1111010010000_10 (L1111010 : V → V → V → St → Res) (x1 : V) (x4 : V) (x5 : V) (x78 : V) (st : St) : Res :=
 A.guard x78 false
 (A.faddr 3 x1 fun a1 =>
 A.load false 1 a1 st fun a2 z3 =>
 A.iaddr 1 a2 x5 fun a4 =>
 A.load false 1 a4 z3 fun a5 z6 =>
 A.ret (s59 [a5.er1] z6) fun a7 z8 =>
 A.un .not a7 fun a9 =>
 A.cond a9
 (some (.ret ((.bool false) : V).er1, z8))
 (A.faddr 3 x1 fun a10 =>
 A.load false 1 a10 z8 fun a11 z12 =>
 A.iaddr 1 a11 x5 fun a13 =>
 A.load false 1 a13 z12 fun a14 z15 =>
 A.lenL a14 fun a16 =>
 A.bin .add x4 a16 fun a17 =>
 A.bin .add x5 (.int .i64 1) fun a18 =>
 L1111010 x1 a17 a18 z15))
 (some (.ret ((.bool false) : V).er1, st))
theorem g42e1111010010000_10 (L1111010 : V → V → V → St → Res) : (fun env st => aops Try.prog g42mu g42T 95 (rops (g42C [1, 1, 1, 1, 0, 1, 0, 0, 1, 0, 0, 0, 0])) [10, 11, 12, 13, 14, 15, 16, 17] env st ((g42k6 L1111010) .normal)) = fun env st => g42b1111010010000_10 L1111010 (env 1) (env 4) (env 5) (env 78) st := by
  refine Eq.trans (Eq.refl _) ?_
  funext env st
  kernel_rfl
noncomputable def g42b1111010 : Nat → V → V → V → St → Res
| 0, _, _, _, _ => none
| n + 1, x1, x4, x5, st =>
 A.faddr 3 x1 fun a1 =>
 A.load false 1 a1 st fun a2 z3 =>
 A.lenL a2 fun a4 =>
 A.bin .lss x5 a4 fun a5 =>
 A.cond a5
 (A.faddr 3 x1 fun a6 =>
 A.load false 1 a6 z3 fun a7 z8 =>
 A.iaddr 1 a7 x5 fun a9 =>
 A.load false 1 a9 z8 fun a10 z11 =>
 A.lenL a10 fun a12 =>
 A.bin .sub (.int .i64 4096) x4 fun a13 =>
 A.bin .gtr a12 a13 fun a14 =>
 g42b1111010010000_10 (g42b1111010 n) x1 x4 x5 a14 z11)
 (some (.ret ((.bool true) : V).er1, z3))
theorem g42n1111010 : g42C [1, 1, 1, 1, 0, 1, 0] = .loop (g42C [1, 1, 1, 1, 0, 1, 0, 0]) := by kernel_rfl
theorem g42n11110100 : g42C [1, 1, 1, 1, 0, 1, 0, 0] = .seq (g42C [1, 1, 1, 1, 0, 1, 0, 0, 0]) (g42C [1, 1, 1, 1, 0, 1, 0, 0, 1]) := by kernel_rfl
theorem g42n111101001 : g42C [1, 1, 1, 1, 0, 1, 0, 0, 1] = .seq (g42C [1, 1, 1, 1, 0, 1, 0, 0, 1, 0]) (g42C [1, 1, 1, 1, 0, 1, 0, 0, 1, 1]) := by kernel_rfl
theorem g42n1111010010 : g42C [1, 1, 1, 1, 0, 1, 0, 0, 1, 0] = .block 3 (g42C [1, 1, 1, 1, 0, 1, 0, 0, 1, 0, 0]) := by kernel_rfl
theorem g42n11110100100 : g42C [1, 1, 1, 1, 0, 1, 0, 0, 1, 0, 0] = .seq (g42C [1, 1, 1, 1, 0, 1, 0, 0, 1, 0, 0, 0]) (g42C [1, 1, 1, 1, 0, 1, 0, 0, 1, 0, 0, 1]) := by kernel_rfl
theorem g42n111101001000 : g42C [1, 1, 1, 1, 0, 1, 0, 0, 1, 0, 0, 0] = .seq (g42C [1, 1, 1, 1, 0, 1, 0, 0, 1, 0, 0, 0, 0]) (g42C [1, 1, 1, 1, 0, 1, 0, 0, 1, 0, 0, 0, 1]) := by kernel_rfl
theorem g42rg1111010010000 : g42C [1, 1, 1, 1, 0, 1, 0, 0, 1, 0, 0, 0, 0] = .region 12 (rops (g42C [1, 1, 1, 1, 0, 1, 0, 0, 1, 0, 0, 0, 0])) false := by kernel_rfl
theorem g42rg1111010010000l : List.range (rops (g42C [1, 1, 1, 1, 0, 1, 0, 0, 1, 0, 0, 0, 0])).size = [0, 1, 2, 3, 4, 5, 6, 7, 8, 9] ++ [10, 11, 12, 13, 14, 15, 16, 17] := by kernel_rfl
theorem g42e1111010 : g42X (g42C [1, 1, 1, 1, 0, 1, 0]) (g42k1) = fun env st => g42b1111010 big (env 1) (env 4) (env 5) st := by
  have key : ∀ n, aloop (g42X (g42C [1, 1, 1, 1, 0, 1, 0, 0])) (g42k1) n = fun env st => g42b1111010 n (env 1) (env 4) (env 5) st := by
    intro n
    induction n with
    | zero => rfl
    | succ n ih =>
      have h : aloop (g42X (g42C [1, 1, 1, 1, 0, 1, 0, 0])) (g42k1) (n + 1) = g42X (g42C [1, 1, 1, 1, 0, 1, 0, 0]) (kSeq (aloop (g42X (g42C [1, 1, 1, 1, 0, 1, 0, 0])) (g42k1) n) (g42k1)) := rfl
      rw [h, ih]
      refine Eq.trans (g42seq g42n11110100 ((g42seq g42n111101001 rfl).trans ((g42blk g42n1111010010).trans ((g42seq g42n11110100100 rfl).trans ((g42seq g42n111101001000 rfl).trans (g42reg g42rg1111010010000 g42rg1111010010000l (g42e1111010010000_10 (g42b1111010 n)))))))) ?_
      funext env st
      kernel_rfl
  exact (g42loop g42n1111010).trans (key big)
noncomputable def g42b111 (x1 : V) (st : St) : Res :=
 A.faddr 2 x1 fun a1 =>
 A.load false 1 a1 st fun a2 z3 =>
 A.lenL a2 fun a4 =>
 g42b1111010 big x1 a4 (.int .i64 0) z3
theorem g42n111 : g42C [1, 1, 1] = .seq (g42C [1, 1, 1, 0]) (g42C [1, 1, 1, 1]) := by kernel_rfl
theorem g42n1111 : g42C [1, 1, 1, 1] = .seq (g42C [1, 1, 1, 1, 0]) (g42C [1, 1, 1, 1, 1]) := by kernel_rfl
theorem g42n11110 : g42C [1, 1, 1, 1, 0] = .seq (g42C [1, 1, 1, 1, 0, 0]) (g42C [1, 1, 1, 1, 0, 1]) := by kernel_rfl
theorem g42n111101 : g42C [1, 1, 1, 1, 0, 1] = .block 2 (g42C [1, 1, 1, 1, 0, 1, 0]) := by kernel_rfl
theorem g42e111 : g42X (g42C [1, 1, 1]) (g42kr) = fun env st => g42b111 (env 1) st := by
  refine Eq.trans (g42seq g42n111 ((g42seq g42n1111 rfl).trans (g42seq g42n11110 ((g42blk g42n111101).trans (g42e1111010))))) ?_
  funext env st
  kernel_rfl
noncomputable def g42k7 : Kon := kSeq (fun env st => g42b111 (env 1) st) (g42kr)
noncomputable def g42k8 : Kon := kBlk 0 (g42k7)
noncomputable def g42b11010 : Nat → V → V → St → Res
| 0, _, _, _ => none
| n + 1, x1, x3, st =>
 A.faddr 1 x1 fun a1 =>
 A.load false 1 a1 st fun a2 z3 =>
 A.lenL a2 fun a4 =>
 A.bin .lss x3 a4 fun a5 =>
 A.cond a5
 (A.faddr 1 x1 fun a6 =>
 A.load false 1 a6 z3 fun a7 z8 =>
 A.iaddr 1 a7 x3 fun a9 =>
 A.load false 1 a9 z8 fun a10 z11 =>
 A.bin .lss a10 (.int .i64 0) fun a12 =>
 A.guard a12 false
 (A.faddr 1 x1 fun a13 =>
 A.load false 1 a13 z11 fun a14 z15 =>
 A.iaddr 1 a14 x3 fun a16 =>
 A.load false 1 a16 z15 fun a17 z18 =>
 A.bin .gtr a17 (.int .i64 4611686018427387903) fun a19 =>
 A.cond a19
 (some (.ret ((.bool false) : V).er1, z18))
 (A.bin .add x3 (.int .i64 1) fun a20 =>
 (g42b11010 n) x1 a20 z18))
 (some (.ret ((.bool false) : V).er1, z11)))
 (g42b111 x1 z3)
theorem g42n11010 : g42C [1, 1, 0, 1, 0] = .loop (g42C [1, 1, 0, 1, 0, 0]) := by kernel_rfl
noncomputable def g42k9 (L11010 : V → V → St → Res) : Kon := kSeq (fun env st => L11010 (env 1) (env 3) st) (g42k8)
theorem g42e11010 : g42X (g42C [1, 1, 0, 1, 0]) (g42k8) = fun env st => g42b11010 big (env 1) (env 3) st := by
  have key : ∀ n, aloop (g42X (g42C [1, 1, 0, 1, 0, 0])) (g42k8) n = fun env st => g42b11010 n (env 1) (env 3) st := by
    intro n
    induction n with
    | zero => rfl
    | succ n ih =>
      have h : aloop (g42X (g42C [1, 1, 0, 1, 0, 0])) (g42k8) (n + 1) = g42X (g42C [1, 1, 0, 1, 0, 0]) (kSeq (aloop (g42X (g42C [1, 1, 0, 1, 0, 0])) (g42k8) n) (g42k8)) := rfl
      rw [h, ih]
      refine Eq.trans (Eq.refl _) ?_
      funext env st
      kernel_rfl
  exact (g42loop g42n11010).trans (key big)
noncomputable def g42b11 (x1 : V) (st : St) : Res :=
 g42b11010 big x1 (.int .i64 0) st
theorem g42n11 : g42C [1, 1] = .seq (g42C [1, 1, 0]) (g42C [1, 1, 1]) := by kernel_rfl
theorem g42n110 : g42C [1, 1, 0] = .seq (g42C [1, 1, 0, 0]) (g42C [1, 1, 0, 1]) := by kernel_rfl
theorem g42n1101 : g42C [1, 1, 0, 1] = .block 0 (g42C [1, 1, 0, 1, 0]) := by kernel_rfl
theorem g42e11 : g42X (g42C [1, 1]) (g42kr) = fun env st => g42b11 (env 1) st := by
  refine Eq.trans ((g42seq g42n11 (g42e111)).trans (g42seq g42n110 ((g42blk g42n1101).trans (g42e11010)))) ?_
  funext env st
  kernel_rfl
noncomputable def g42k10 : Kon := kSeq (fun env st => g42b11 (env 1) st) (g42kr)
noncomputable def g42k11 : Kon := kSeq (g42X (g42C [1, 0, 1]) (g42k10)) (g42k10)
noncomputable def g42b100_27 (x1 : V) (x32 : V) (st : St) : Res :=
 A.guard x32 false
 (A.faddr 2 x1 fun a1 =>
 A.load false 1 a1 st fun a2 z3 =>
 A.ret (s59 [a2.er1] z3) fun a4 z5 =>
 A.un .not a4 fun a6 =>
 A.cond a6
 (some (.ret ((.bool false) : V).er1, z5))
 (g42b11 x1 z5))
 (some (.ret ((.bool false) : V).er1, st))
theorem g42e100_27 : (fun env st => aops Try.prog g42mu g42T 95 (rops (g42C [1, 0, 0])) [27, 28, 29, 30, 31] env st ((g42k11) .normal)) = fun env st => g42b100_27 (env 1) (env 32) st := by
  refine Eq.trans (Eq.refl _) ?_
  funext env st
  kernel_rfl
noncomputable def g42b100_21 (x1 : V) (x26 : V) (st : St) : Res :=
 A.guard x26 false
 (A.faddr 3 x1 fun a1 =>
 A.load false 1 a1 st fun a2 z3 =>
 A.lenL a2 fun a4 =>
 A.bin .gtr a4 (.int .i64 4096) fun a5 =>
 g42b100_27 x1 a5 z3)
 (g42b100_27 x1 (.bool true) st)
theorem g42e100_21 : (fun env st => aops Try.prog g42mu g42T 95 (rops (g42C [1, 0, 0])) [21, 22, 23, 24, 25, 26, 27, 28, 29, 30, 31] env st ((g42k11) .normal)) = fun env st => g42b100_21 (env 1) (env 26) st := by
  refine Eq.trans (ops_cut (l1 := [21, 22, 23, 24, 25, 26]) (l2 := [27, 28, 29, 30, 31]) (g42e100_27)) ?_
  funext env st
  kernel_rfl
noncomputable def g42b100_15 (x1 : V) (x20 : V) (st : St) : Res :=
 A.guard x20 false
 (A.faddr 2 x1 fun a1 =>
 A.load false 1 a1 st fun a2 z3 =>
 A.lenL a2 fun a4 =>
 A.bin .gtr a4 (.int .i64 4096) fun a5 =>
 g42b100_21 x1 a5 z3)
 (g42b100_21 x1 (.bool true) st)
theorem g42e100_15 : (fun env st => aops Try.prog g42mu g42T 95 (rops (g42C [1, 0, 0])) [15, 16, 17, 18, 19, 20, 21, 22, 23, 24, 25, 26, 27, 28, 29, 30, 31] env st ((g42k11) .normal)) = fun env st => g42b100_15 (env 1) (env 20) st := by
  refine Eq.trans (ops_cut (l1 := [15, 16, 17, 18, 19, 20]) (l2 := [21, 22, 23, 24, 25, 26, 27, 28, 29, 30, 31]) (g42e100_21)) ?_
  funext env st
  kernel_rfl
noncomputable def g42b100_9 (x1 : V) (x14 : V) (st : St) : Res :=
 A.guard x14 false
 (A.faddr 1 x1 fun a1 =>
 A.load false 1 a1 st fun a2 z3 =>
 A.lenL a2 fun a4 =>
 A.bin .gtr a4 (.int .i64 64) fun a5 =>
 g42b100_15 x1 a5 z3)
 (g42b100_15 x1 (.bool true) st)
theorem g42e100_9 : (fun env st => aops Try.prog g42mu g42T 95 (rops (g42C [1, 0, 0])) [9, 10, 11, 12, 13, 14, 15, 16, 17, 18, 19, 20, 21, 22, 23, 24, 25, 26, 27, 28, 29, 30, 31] env st ((g42k11) .normal)) = fun env st => g42b100_9 (env 1) (env 14) st := by
  refine Eq.trans (ops_cut (l1 := [9, 10, 11, 12, 13, 14]) (l2 := [15, 16, 17, 18, 19, 20, 21, 22, 23, 24, 25, 26, 27, 28, 29, 30, 31]) (g42e100_15)) ?_
  funext env st
  kernel_rfl
noncomputable def f42 (x0 : V) (st : St) : Res :=
 A.box x0 st fun a1 z2 =>
 A.faddr 0 a1 fun a3 =>
 A.load false 1 a3 z2 fun a4 z5 =>
 A.bin .lss a4 (.int .i64 1) fun a6 =>
 A.guard a6 false
 (A.faddr 0 a1 fun a7 =>
 A.load false 1 a7 z5 fun a8 z9 =>
 A.bin .gtr a8 (.int .i64 255) fun a10 =>
 g42b100_9 a1 a10 z9)
 (g42b100_9 a1 (.bool true) z5)
theorem g42nr : g42C [] = .seq (g42C [0]) (g42C [1]) := by kernel_rfl
theorem g42n1 : g42C [1] = .seq (g42C [1, 0]) (g42C [1, 1]) := by kernel_rfl
theorem g42n10 : g42C [1, 0] = .seq (g42C [1, 0, 0]) (g42C [1, 0, 1]) := by kernel_rfl
theorem g42rg100 : g42C [1, 0, 0] = .region 1 (rops (g42C [1, 0, 0])) false := by kernel_rfl
theorem g42rg100l : List.range (rops (g42C [1, 0, 0])).size = [0, 1, 2, 3, 4, 5, 6, 7, 8] ++ [9, 10, 11, 12, 13, 14, 15, 16, 17, 18, 19, 20, 21, 22, 23, 24, 25, 26, 27, 28, 29, 30, 31] := by kernel_rfl
theorem g42er (env : Env) (st : St) : g42X (g42C []) g42kr env st = f42 (env 0) st := by
  rw [(g42seq g42nr ((g42seq g42n1 (g42e11)).trans ((g42seq g42n10 rfl).trans (g42reg g42rg100 g42rg100l (g42e100_9)))))]
  kernel_rfl
theorem s42_eq (x0 : V) (st : St) : s42 [x0] st = fg (f42 x0 st) st := by
  have h : afn Try.prog g42mu g42T big (areg Try.prog g42mu g42T) 42 [x0] st = g42X (g42C []) g42kr (fun t => [x0].getD t (.tup [])) st := by kernel_rfl
  rw [s42, sealF_eq]
  show fg _ st = fg _ st
  refine congrArg (fun r => fg r st) ?_
  exact h.trans (g42er _ st)
/-! sinew/sinewref03.read -/
def g27mu : Nat → Bool := fun _ => false
noncomputable def g27T : Tbl := tget [(40, s40), (41, s41), (42, s42)]
theorem g27t : SimT Try.prog g27T := simT_cons sim40 ( simT_cons sim41 ( simT_cons sim42 (simT_nil)))
noncomputable def s27 : Fn := sealF (fun args st => fg (afn Try.prog g27mu g27T big (areg Try.prog g27mu g27T) 27 args st) st)
theorem sim27 : Sim Try.prog 27 s27 := (afn_sim g27t (fun m => areg_sound g27t hmix m) 27 (by kernel_rfl)).fg.sealed
noncomputable def g27C (p : List Nat) : Code := sub (match Try.f27.body with | some c => c | none => .skip) p
noncomputable def g27X (c : Code) (K : Kon) : Env → St → Res := aexec Try.prog g27mu g27T big 127 (areg Try.prog g27mu g27T 127) c K
noncomputable def g27kr : Kon := aresK Try.prog Try.f27.results.toList
theorem g27reg {c : Code} {K : Kon} {G : Env → St → Res} {id : Nat} {ops : Array Oper} {l1 l2 : List Nat} (hc : c = .region id ops false) (hl : List.range ops.size = l1 ++ l2) (h : (fun env st => aops Try.prog g27mu g27T 127 ops l2 env st (K .normal)) = G) : g27X c K = fun env st => aops Try.prog g27mu g27T 127 ops l1 env st G := reg_cut hc hl h
theorem g27seq {c x y : Code} {K : Kon} {G : Env → St → Res} (hc : c = .seq x y) (hy : g27X y K = G) : g27X c K = g27X x (kSeq G K) := seq_cut hc hy
theorem g27blk {c x : Code} {K : Kon} {i : Nat} (hc : c = .block i x) : g27X c K = g27X x (kBlk i K) := blk_cut hc
theorem g27loop {c x : Code} {K : Kon} (hc : c = .loop x) : g27X c K = aloop (g27X x) K big := loop_cut hc
theorem g27cond {c x y : Code} {K : Kon} {v : Operand} {F G : Env → St → Res} (hc : c = .cond v x y) (hx : g27X x K = F) (hy : g27X y K = G) : g27X c K = condF v F G := cond_cut hc hx hy
noncomputable def g27k0 : Kon := kSeq (g27X (g27C [1, 1, 1, 1, 1, 1, 1, 1, 1, 1, 1, 1, 1, 1, 1]) (g27kr)) (g27kr)
noncomputable def g27k1 : Kon := kBlk 2 (g27k0)
noncomputable def g27k2 (L11111111111111010 : V → V → V → V → V → V → St → Res) : Kon := kSeq (fun env st => L11111111111111010 (env 0) (env 2) (env 4) (env 5) (env 14) (env 17) st) (g27k1)
noncomputable def g27k3 (L11111111111111010 : V → V → V → V → V → V → St → Res) : Kon := kSeq (g27X (g27C [1, 1, 1, 1, 1, 1, 1, 1, 1, 1, 1, 1, 1, 1, 0, 1, 0, 0, 1, 1]) (g27k2 L11111111111111010)) (g27k2 L11111111111111010)
noncomputable def g27k4 (L11111111111111010 : V → V → V → V → V → V → St → Res) : Kon := kBlk 3 (g27k3 L11111111111111010)
noncomputable def g27b1111111111111101001001 (L11111111111111010 : V → V → V → V → V → V → St → Res) (x0 : V) (x2 : V) (x4 : V) (x5 : V) (x14 : V) (x17 : V) (x18 : V) (x19 : V) (x20 : V) (st : St) : Res :=
 A.eql 2 true x20 (.int .i64 0) fun a1 =>
 A.cond a1
 (A.load true 4 x4 st fun a2 z3 =>
 A.store 4 x2 a2 z3 fun z4 =>
 A.res (rcell (A.load true 4 x2 z4 kid) (rtmp (.bool false) (some []))) z4)
 (A.faddr 3 x4 fun a5 =>
 A.load false 1 a5 st fun a6 z7 =>
 A.bslice 1 (.lst [] 1) 1 [(0, x18)] fun a8 =>
 A.app 1 a6 (elemsOf 5 1 a8 z7) z7 fun a9 z10 =>
 A.faddr 3 x4 fun a11 =>
 A.store 1 a11 a9 z10 fun z12 =>
 A.bin .add x5 x19 fun a13 =>
 A.bin .add x17 (.int .i64 1) fun a14 =>
 L11111111111111010 x0 x2 x4 a13 x14 a14 z12)
theorem g27e1111111111111101001001 (L11111111111111010 : V → V → V → V → V → V → St → Res) : g27X (g27C [1, 1, 1, 1, 1, 1, 1, 1, 1, 1, 1, 1, 1, 1, 0, 1, 0, 0, 1, 0, 0, 1]) (g27k4 L11111111111111010) = fun env st => g27b1111111111111101001001 L11111111111111010 (env 0) (env 2) (env 4) (env 5) (env 14) (env 17) (env 18) (env 19) (env 20) st := by
  refine Eq.trans (Eq.refl (g27X (g27C [1, 1, 1, 1, 1, 1, 1, 1, 1, 1, 1, 1, 1, 1, 0, 1, 0, 0, 1, 0, 0, 1]) (g27k4 L11111111111111010))) ?_
  funext env st
  kernel_rfl
noncomputable def g27b11111111111111010 : Nat → V → V → V → V → V → V → St → Res
| 0, _, _, _, _, _, _, _ => none
| n + 1, x0, x2, x4, x5, x14, x17, st =>
 A.bin .lss x17 x14 fun a1 =>
 A.cond a1
 (A.sliceS x0 (some x5) none fun a2 =>
 A.ret (s41 [a2.er1] st) fun a3 z4 =>
 A.ext a3 0 fun a5 =>
 A.ext a3 1 fun a6 =>
 A.ext a3 2 fun a7 =>
 g27b1111111111111101001001 (g27b11111111111111010 n) x0 x2 x4 x5 x14 x17 a5 a6 a7 z4)
 (A.load true 4 x4 st fun a8 _ =>
 A.lenS x0 fun a9 =>
 A.eql 2 false x5 a9 fun a10 =>
 A.guard a10 true
 (A.load true 4 x4 st fun a11 _ =>
 A.noP (A.ret (s42 [a11.er1] st) kid) fun a12 z13 =>
 A.chk (ldv true 4 x4 z13) a8
 (A.noP (A.store 4 x2 a8 z13 fun s => kid (.tup []) s) fun a14 z15 =>
 A.res (rcell (A.load true 4 x2 z15 kid) (rtmp a12 (some []))) z15))
 (A.noP (A.store 4 x2 a8 st fun s => kid (.tup []) s) fun a16 z17 =>
 A.res (rcell (A.load true 4 x2 z17 kid) (rtmp (.bool false) (some []))) z17))
theorem g27n11111111111111010 : g27C [1, 1, 1, 1, 1, 1, 1, 1, 1, 1, 1, 1, 1, 1, 0, 1, 0] = .loop (g27C [1, 1, 1, 1, 1, 1, 1, 1, 1, 1, 1, 1, 1, 1, 0, 1, 0, 0]) := by kernel_rfl
theorem g27n111111111111110100 : g27C [1, 1, 1, 1, 1, 1, 1, 1, 1, 1, 1, 1, 1, 1, 0, 1, 0, 0] = .seq (g27C [1, 1, 1, 1, 1, 1, 1, 1, 1, 1, 1, 1, 1, 1, 0, 1, 0, 0, 0]) (g27C [1, 1, 1, 1, 1, 1, 1, 1, 1, 1, 1, 1, 1, 1, 0, 1, 0, 0, 1]) := by kernel_rfl
theorem g27n1111111111111101001 : g27C [1, 1, 1, 1, 1, 1, 1, 1, 1, 1, 1, 1, 1, 1, 0, 1, 0, 0, 1] = .seq (g27C [1, 1, 1, 1, 1, 1, 1, 1, 1, 1, 1, 1, 1, 1, 0, 1, 0, 0, 1, 0]) (g27C [1, 1, 1, 1, 1, 1, 1, 1, 1, 1, 1, 1, 1, 1, 0, 1, 0, 0, 1, 1]) := by kernel_rfl
theorem g27n11111111111111010010 : g27C [1, 1, 1, 1, 1, 1, 1, 1, 1, 1, 1, 1, 1, 1, 0, 1, 0, 0, 1, 0] = .block 3 (g27C [1, 1, 1, 1, 1, 1, 1, 1, 1, 1, 1, 1, 1, 1, 0, 1, 0, 0, 1, 0, 0]) := by kernel_rfl
theorem g27n111111111111110100100 : g27C [1, 1, 1, 1, 1, 1, 1, 1, 1, 1, 1, 1, 1, 1, 0, 1, 0, 0, 1, 0, 0] = .seq (g27C [1, 1, 1, 1, 1, 1, 1, 1, 1, 1, 1, 1, 1, 1, 0, 1, 0, 0, 1, 0, 0, 0]) (g27C [1, 1, 1, 1, 1, 1, 1, 1, 1, 1, 1, 1, 1, 1, 0, 1, 0, 0, 1, 0, 0, 1]) := by kernel_rfl
theorem g27e11111111111111010 : g27X (g27C [1, 1, 1, 1, 1, 1, 1, 1, 1, 1, 1, 1, 1, 1, 0, 1, 0]) (g27k1) = fun env st => g27b11111111111111010 big (env 0) (env 2) (env 4) (env 5) (env 14) (env 17) st := by
  have key : ∀ n, aloop (g27X (g27C [1, 1, 1, 1, 1, 1, 1, 1, 1, 1, 1, 1, 1, 1, 0, 1, 0, 0])) (g27k1) n = fun env st => g27b11111111111111010 n (env 0) (env 2) (env 4) (env 5) (env 14) (env 17) st := by
    intro n
    induction n with
    | zero => rfl
    | succ n ih =>
      have h : aloop (g27X (g27C [1, 1, 1, 1, 1, 1, 1, 1, 1, 1, 1, 1, 1, 1, 0, 1, 0, 0])) (g27k1) (n + 1) = g27X (g27C [1, 1, 1, 1, 1, 1, 1, 1, 1, 1, 1, 1, 1, 1, 0, 1, 0, 0]) (kSeq (aloop (g27X (g27C [1, 1, 1, 1, 1, 1, 1, 1, 1, 1, 1, 1, 1, 1, 0, 1, 0, 0])) (g27k1) n) (g27k1)) := rfl
      rw [h, ih]
      refine Eq.trans (g27seq g27n111111111111110100 ((g27seq g27n1111111111111101001 rfl).trans ((g27blk g27n11111111111111010010).trans (g27seq g27n111111111111110100100 (g27e1111111111111101001001 (g27b11111111111111010 n)))))) ?_
      funext env st
      kernel_rfl
  exact (g27loop g27n11111111111111010).trans (key big)
noncomputable def g27b1111111111111 (x0 : V) (x2 : V) (x4 : V) (x5 : V) (x14 : V) (x15 : V) (st : St) : Res :=
 A.bin .add x5 x15 fun a1 =>
 g27b11111111111111010 big x0 x2 x4 a1 x14 (.int .i64 0) st
theorem g27n1111111111111 : g27C [1, 1, 1, 1, 1, 1, 1, 1, 1, 1, 1, 1, 1] = .seq (g27C [1, 1, 1, 1, 1, 1, 1, 1, 1, 1, 1, 1, 1, 0]) (g27C [1, 1, 1, 1, 1, 1, 1, 1, 1, 1, 1, 1, 1, 1]) := by kernel_rfl
theorem g27n11111111111111 : g27C [1, 1, 1, 1, 1, 1, 1, 1, 1, 1, 1, 1, 1, 1] = .seq (g27C [1, 1, 1, 1, 1, 1, 1, 1, 1, 1, 1, 1, 1, 1, 0]) (g27C [1, 1, 1, 1, 1, 1, 1, 1, 1, 1, 1, 1, 1, 1, 1]) := by kernel_rfl
theorem g27n111111111111110 : g27C [1, 1, 1, 1, 1, 1, 1, 1, 1, 1, 1, 1, 1, 1, 0] = .seq (g27C [1, 1, 1, 1, 1, 1, 1, 1, 1, 1, 1, 1, 1, 1, 0, 0]) (g27C [1, 1, 1, 1, 1, 1, 1, 1, 1, 1, 1, 1, 1, 1, 0, 1]) := by kernel_rfl
theorem g27n1111111111111101 : g27C [1, 1, 1, 1, 1, 1, 1, 1, 1, 1, 1, 1, 1, 1, 0, 1] = .block 2 (g27C [1, 1, 1, 1, 1, 1, 1, 1, 1, 1, 1, 1, 1, 1, 0, 1, 0]) := by kernel_rfl
theorem g27e1111111111111 : g27X (g27C [1, 1, 1, 1, 1, 1, 1, 1, 1, 1, 1, 1, 1]) (g27kr) = fun env st => g27b1111111111111 (env 0) (env 2) (env 4) (env 5) (env 14) (env 15) st := by
  refine Eq.trans (g27seq g27n1111111111111 ((g27seq g27n11111111111111 rfl).trans (g27seq g27n111111111111110 ((g27blk g27n1111111111111101).trans (g27e11111111111111010))))) ?_
  funext env st
  kernel_rfl
noncomputable def g27b111111111111 (x0 : V) (x2 : V) (x4 : V) (x5 : V) (x14 : V) (x15 : V) (x16 : V) (st : St) : Res :=
 A.eql 2 true x16 (.int .i64 0) fun a1 =>
 A.guard a1 false
 (A.bin .gtr x14 (.int .i64 4096) fun a2 =>
 A.cond a2
 (A.load true 4 x4 st fun a3 z4 =>
 A.store 4 x2 a3 z4 fun z5 =>
 A.res (rcell (A.load true 4 x2 z5 kid) (rtmp (.bool false) (some []))) z5)
 (g27b1111111111111 x0 x2 x4 x5 x14 x15 st))
 (A.load true 4 x4 st fun a6 z7 =>
 A.store 4 x2 a6 z7 fun z8 =>
 A.res (rcell (A.load true 4 x2 z8 kid) (rtmp (.bool false) (some []))) z8)
theorem g27n111111111111 : g27C [1, 1, 1, 1, 1, 1, 1, 1, 1, 1, 1, 1] = .seq (g27C [1, 1, 1, 1, 1, 1, 1, 1, 1, 1, 1, 1, 0]) (g27C [1, 1, 1, 1, 1, 1, 1, 1, 1, 1, 1, 1, 1]) := by kernel_rfl
theorem g27e111111111111 : g27X (g27C [1, 1, 1, 1, 1, 1, 1, 1, 1, 1, 1, 1]) (g27kr) = fun env st => g27b111111111111 (env 0) (env 2) (env 4) (env 5) (env 14) (env 15) (env 16) st := by
  refine Eq.trans (g27seq g27n111111111111 (g27e1111111111111)) ?_
  funext env st
  kernel_rfl
noncomputable def g27b11111111111 (x0 : V) (x2 : V) (x4 : V) (x5 : V) (st : St) : Res :=
 A.sliceS x0 (some x5) none fun a1 =>
 A.ret (s40 [a1.er1] st) fun a2 z3 =>
 A.ext a2 0 fun a4 =>
 A.ext a2 1 fun a5 =>
 A.ext a2 2 fun a6 =>
 g27b111111111111 x0 x2 x4 x5 a4 a5 a6 z3
theorem g27n11111111111 : g27C [1, 1, 1, 1, 1, 1, 1, 1, 1, 1, 1] = .seq (g27C [1, 1, 1, 1, 1, 1, 1, 1, 1, 1, 1, 0]) (g27C [1, 1, 1, 1, 1, 1, 1, 1, 1, 1, 1, 1]) := by kernel_rfl
theorem g27e11111111111 : g27X (g27C [1, 1, 1, 1, 1, 1, 1, 1, 1, 1, 1]) (g27kr) = fun env st => g27b11111111111 (env 0) (env 2) (env 4) (env 5) st := by
  refine Eq.trans (g27seq g27n11111111111 (g27e111111111111)) ?_
  funext env st
  kernel_rfl
noncomputable def g27b11111111 (x0 : V) (x2 : V) (x4 : V) (x5 : V) (x11 : V) (x12 : V) (x13 : V) (st : St) : Res :=
 A.eql 2 true x13 (.int .i64 0) fun a1 =>
 A.cond a1
 (A.load true 4 x4 st fun a2 z3 =>
 A.store 4 x2 a2 z3 fun z4 =>
 A.res (rcell (A.load true 4 x2 z4 kid) (rtmp (.bool false) (some []))) z4)
 (A.faddr 2 x4 fun a5 =>
 A.store 1 a5 x11 st fun z6 =>
 A.bin .add x5 x12 fun a7 =>
 g27b11111111111 x0 x2 x4 a7 z6)
theorem g27n11111111 : g27C [1, 1, 1, 1, 1, 1, 1, 1] = .seq (g27C [1, 1, 1, 1, 1, 1, 1, 1, 0]) (g27C [1, 1, 1, 1, 1, 1, 1, 1, 1]) := by kernel_rfl
theorem g27n111111111 : g27C [1, 1, 1, 1, 1, 1, 1, 1, 1] = .seq (g27C [1, 1, 1, 1, 1, 1, 1, 1, 1, 0]) (g27C [1, 1, 1, 1, 1, 1, 1, 1, 1, 1]) := by kernel_rfl
theorem g27n1111111111 : g27C [1, 1, 1, 1, 1, 1, 1, 1, 1, 1] = .seq (g27C [1, 1, 1, 1, 1, 1, 1, 1, 1, 1, 0]) (g27C [1, 1, 1, 1, 1, 1, 1, 1, 1, 1, 1]) := by kernel_rfl
theorem g27e11111111 : g27X (g27C [1, 1, 1, 1, 1, 1, 1, 1]) (g27kr) = fun env st => g27b11111111 (env 0) (env 2) (env 4) (env 5) (env 11) (env 12) (env 13) st := by
  refine Eq.trans (g27seq g27n11111111 (g27seq g27n111111111 (g27seq g27n1111111111 (g27e11111111111)))) ?_
  funext env st
  kernel_rfl
noncomputable def g27b11111 (x0 : V) (x2 : V) (x4 : V) (x5 : V) (x6 : V) (st : St) : Res :=
 A.iaddr 1 x6 (.int .i64 0) fun a1 =>
 A.load false 1 a1 st fun a2 z3 =>
 A.faddr 0 x4 fun a4 =>
 A.store 1 a4 a2 z3 fun z5 =>
 A.slice 1 x6 (some (.int .i64 2)) none none fun a6 =>
 A.faddr 1 x4 fun a7 =>
 A.store 1 a7 a6 z5 fun z8 =>
 A.sliceS x0 (some x5) none fun a9 =>
 A.ret (s41 [a9.er1] z8) fun a10 z11 =>
 A.ext a10 0 fun a12 =>
 A.ext a10 1 fun a13 =>
 A.ext a10 2 fun a14 =>
 g27b11111111 x0 x2 x4 x5 a12 a13 a14 z11
theorem g27n11111 : g27C [1, 1, 1, 1, 1] = .seq (g27C [1, 1, 1, 1, 1, 0]) (g27C [1, 1, 1, 1, 1, 1]) := by kernel_rfl
theorem g27n111111 : g27C [1, 1, 1, 1, 1, 1] = .seq (g27C [1, 1, 1, 1, 1, 1, 0]) (g27C [1, 1, 1, 1, 1, 1, 1]) := by kernel_rfl
theorem g27n1111111 : g27C [1, 1, 1, 1, 1, 1, 1] = .seq (g27C [1, 1, 1, 1, 1, 1, 1, 0]) (g27C [1, 1, 1, 1, 1, 1, 1, 1]) := by kernel_rfl
theorem g27e11111 : g27X (g27C [1, 1, 1, 1, 1]) (g27kr) = fun env st => g27b11111 (env 0) (env 2) (env 4) (env 5) (env 6) st := by
  refine Eq.trans (g27seq g27n11111 (g27seq g27n111111 (g27seq g27n1111111 (g27e11111111)))) ?_
  funext env st
  kernel_rfl
noncomputable def g27k5 : Kon := kSeq (fun env st => g27b11111 (env 0) (env 2) (env 4) (env 5) (env 6) st) (g27kr)
noncomputable def g27k6 : Kon := kBlk 0 (g27k5)
noncomputable def g27k7 (L1111010 : V → V → V → V → V → V → St → Res) : Kon := kSeq (fun env st => L1111010 (env 0) (env 2) (env 4) (env 5) (env 6) (env 7) st) (g27k6)
noncomputable def g27k8 (L1111010 : V → V → V → V → V → V → St → Res) : Kon := kBlk 1 (g27k7 L1111010)
noncomputable def g27b11110100101111 (L1111010 : V → V → V → V → V → V → St → Res) (x0 : V) (x2 : V) (x4 : V) (x5 : V) (x6 : V) (x7 : V) (x8 : V) (st : St) : Res :=
 A.lenL x6 fun a1 =>
 A.eql 2 false a1 (.int .i64 2) fun a2 =>
 A.cond a2
 (A.bin .gtr x8 (.int .i64 64) fun a3 =>
 A.cond a3
 (A.load true 4 x4 st fun a4 z5 =>
 A.store 4 x2 a4 z5 fun z6 =>
 A.res (rcell (A.load true 4 x2 z6 kid) (rtmp (.bool false) (some []))) z6)
 (A.bin .add (.int .i64 2) x8 fun a7 =>
 L1111010 x0 x2 x4 x5 x6 a7 st))
 (L1111010 x0 x2 x4 x5 x6 x7 st)
theorem g27e11110100101111 (L1111010 : V → V → V → V → V → V → St → Res) : g27X (g27C [1, 1, 1, 1, 0, 1, 0, 0, 1, 0, 1, 1, 1, 1]) (g27k8 L1111010) = fun env st => g27b11110100101111 L1111010 (env 0) (env 2) (env 4) (env 5) (env 6) (env 7) (env 8) st := by
  refine Eq.trans (Eq.refl (g27X (g27C [1, 1, 1, 1, 0, 1, 0, 0, 1, 0, 1, 1, 1, 1]) (g27k8 L1111010))) ?_
  funext env st
  kernel_rfl
noncomputable def g27b11110100101 (L1111010 : V → V → V → V → V → V → St → Res) (x0 : V) (x2 : V) (x4 : V) (x5 : V) (x6 : V) (x7 : V) (x8 : V) (x9 : V) (x10 : V) (st : St) : Res :=
 A.eql 2 true x10 (.int .i64 0) fun a1 =>
 A.cond a1
 (A.load true 4 x4 st fun a2 z3 =>
 A.store 4 x2 a2 z3 fun z4 =>
 A.res (rcell (A.load true 4 x2 z4 kid) (rtmp (.bool false) (some []))) z4)
 (A.bslice 1 (.int .i64 0) 1 [(0, x8)] fun a5 =>
 A.app 1 x6 (elemsOf 5 1 a5 st) st fun a6 z7 =>
 A.bin .add x5 x9 fun a8 =>
 g27b11110100101111 L1111010 x0 x2 x4 a8 a6 x7 x8 z7)
theorem g27n11110100101 : g27C [1, 1, 1, 1, 0, 1, 0, 0, 1, 0, 1] = .seq (g27C [1, 1, 1, 1, 0, 1, 0, 0, 1, 0, 1, 0]) (g27C [1, 1, 1, 1, 0, 1, 0, 0, 1, 0, 1, 1]) := by kernel_rfl
theorem g27n111101001011 : g27C [1, 1, 1, 1, 0, 1, 0, 0, 1, 0, 1, 1] = .seq (g27C [1, 1, 1, 1, 0, 1, 0, 0, 1, 0, 1, 1, 0]) (g27C [1, 1, 1, 1, 0, 1, 0, 0, 1, 0, 1, 1, 1]) := by kernel_rfl
theorem g27n1111010010111 : g27C [1, 1, 1, 1, 0, 1, 0, 0, 1, 0, 1, 1, 1] = .seq (g27C [1, 1, 1, 1, 0, 1, 0, 0, 1, 0, 1, 1, 1, 0]) (g27C [1, 1, 1, 1, 0, 1, 0, 0, 1, 0, 1, 1, 1, 1]) := by kernel_rfl
theorem g27e11110100101 (L1111010 : V → V → V → V → V → V → St → Res) : g27X (g27C [1, 1, 1, 1, 0, 1, 0, 0, 1, 0, 1]) (g27k8 L1111010) = fun env st => g27b11110100101 L1111010 (env 0) (env 2) (env 4) (env 5) (env 6) (env 7) (env 8) (env 9) (env 10) st := by
  refine Eq.trans (g27seq g27n11110100101 (g27seq g27n111101001011 (g27seq g27n1111010010111 (g27e11110100101111 L1111010)))) ?_
  funext env st
  kernel_rfl
noncomputable def g27b1111010 : Nat → V → V → V → V → V → V → St → Res
| 0, _, _, _, _, _, _, _ => none
| n + 1, x0, x2, x4, x5, x6, x7, st =>
 A.lenL x6 fun a1 =>
 A.bin .lss a1 x7 fun a2 =>
 A.cond a2
 (A.sliceS x0 (some x5) none fun a3 =>
 A.ret (s40 [a3.er1] st) fun a4 z5 =>
 A.ext a4 0 fun a6 =>
 A.ext a4 1 fun a7 =>
 A.ext a4 2 fun a8 =>
 g27b11110100101 (g27b1111010 n) x0 x2 x4 x5 x6 x7 a6 a7 a8 z5)
 (g27b11111 x0 x2 x4 x5 x6 st)
theorem g27n1111010 : g27C [1, 1, 1, 1, 0, 1, 0] = .loop (g27C [1, 1, 1, 1, 0, 1, 0, 0]) := by kernel_rfl
theorem g27n11110100 : g27C [1, 1, 1, 1, 0, 1, 0, 0] = .seq (g27C [1, 1, 1, 1, 0, 1, 0, 0, 0]) (g27C [1, 1, 1, 1, 0, 1, 0, 0, 1]) := by kernel_rfl
theorem g27n111101001 : g27C [1, 1, 1, 1, 0, 1, 0, 0, 1] = .block 1 (g27C [1, 1, 1, 1, 0, 1, 0, 0, 1, 0]) := by kernel_rfl
theorem g27n1111010010 : g27C [1, 1, 1, 1, 0, 1, 0, 0, 1, 0] = .seq (g27C [1, 1, 1, 1, 0, 1, 0, 0, 1, 0, 0]) (g27C [1, 1, 1, 1, 0, 1, 0, 0, 1, 0, 1]) := by kernel_rfl
theorem g27e1111010 : g27X (g27C [1, 1, 1, 1, 0, 1, 0]) (g27k6) = fun env st => g27b1111010 big (env 0) (env 2) (env 4) (env 5) (env 6) (env 7) st := by
  have key : ∀ n, aloop (g27X (g27C [1, 1, 1, 1, 0, 1, 0, 0])) (g27k6) n = fun env st => g27b1111010 n (env 0) (env 2) (env 4) (env 5) (env 6) (env 7) st := by
    intro n
    induction n with
    | zero => rfl
    | succ n ih =>
      have h : aloop (g27X (g27C [1, 1, 1, 1, 0, 1, 0, 0])) (g27k6) (n + 1) = g27X (g27C [1, 1, 1, 1, 0, 1, 0, 0]) (kSeq (aloop (g27X (g27C [1, 1, 1, 1, 0, 1, 0, 0])) (g27k6) n) (g27k6)) := rfl
      rw [h, ih]
      refine Eq.trans (g27seq g27n11110100 ((g27blk g27n111101001).trans (g27seq g27n1111010010 (g27e11110100101 (g27b1111010 n))))) ?_
      funext env st
      kernel_rfl
  exact (g27loop g27n1111010).trans (key big)
noncomputable def f27 (x0 : V) (st : St) : Res :=
 A.box (.agg [(.int .i64 0), (.lst [] 1), (.lst [] 1), (.lst [] 1)]) st fun a1 z2 =>
 A.build [(.int .i64 0), (.lst [] 1), (.lst [] 1), (.lst [] 1)] [] fun a3 =>
 A.box (.agg [(.int .i64 0), (.lst [] 1), (.lst [] 1), (.lst [] 1)]) z2 fun a4 z5 =>
 A.store 4 a4 a3 z5 fun z6 =>
 g27b1111010 big x0 a1 a4 (.int .i64 0) (.lst [] 1) (.int .i64 2) z6
theorem g27nr : g27C [] = .seq (g27C [0]) (g27C [1]) := by kernel_rfl
theorem g27n1 : g27C [1] = .seq (g27C [1, 0]) (g27C [1, 1]) := by kernel_rfl
theorem g27n11 : g27C [1, 1] = .seq (g27C [1, 1, 0]) (g27C [1, 1, 1]) := by kernel_rfl
theorem g27n111 : g27C [1, 1, 1] = .seq (g27C [1, 1, 1, 0]) (g27C [1, 1, 1, 1]) := by kernel_rfl
theorem g27n1111 : g27C [1, 1, 1, 1] = .seq (g27C [1, 1, 1, 1, 0]) (g27C [1, 1, 1, 1, 1]) := by kernel_rfl
theorem g27n11110 : g27C [1, 1, 1, 1, 0] = .seq (g27C [1, 1, 1, 1, 0, 0]) (g27C [1, 1, 1, 1, 0, 1]) := by kernel_rfl
theorem g27n111101 : g27C [1, 1, 1, 1, 0, 1] = .block 0 (g27C [1, 1, 1, 1, 0, 1, 0]) := by kernel_rfl
theorem g27er (env : Env) (st : St) : g27X (g27C []) g27kr env st = f27 (env 0) st := by
  rw [(g27seq g27nr (g27seq g27n1 (g27seq g27n11 (g27seq g27n111 ((g27seq g27n1111 (g27e11111)).trans (g27seq g27n11110 ((g27blk g27n111101).trans (g27e1111010))))))))]
  kernel_rfl
theorem s27_eq (x0 : V) (st : St) : s27 [x0] st = fg (f27 x0 st) st := by
  have h : afn Try.prog g27mu g27T big (areg Try.prog g27mu g27T) 27 [x0] st = g27X (g27C []) g27kr (fun t => [x0].getD t (.tup [])) st := by kernel_rfl
  rw [s27, sealF_eq]
  show fg _ st = fg _ st
  refine congrArg (fun r => fg r st) ?_
  exact h.trans (g27er _ st)
end Go.Ab
