import Derived.Test.YtnnjfbbflfbcaaaAbForget
import Derived.Test.YtnnjfbbflfbcaaaAbP033
namespace Go.Ab
open Go.Proofs
set_option linter.unusedVariables false
set_option maxRecDepth 100000
/-! sinew/sinewref03.size -/
def g50mu : Nat → Bool := fun _ => false
noncomputable def g50T : Tbl := tget []
theorem g50t : SimT Try.prog g50T := simT_nil
noncomputable def s50 : Fn := sealF (afn Try.prog g50mu g50T big (areg Try.prog g50mu g50T) 50)
theorem sim50 : Sim Try.prog 50 s50 := (afn_sim g50t (fun m => areg_sound g50t hmix m) 50 (by kernel_rfl)).sealed
noncomputable def g50C (p : List Nat) : Code := sub (match Try.f50.body with | some c => c | none => .skip) p
noncomputable def g50X (c : Code) (K : Kon) : Env → St → Res := aexec Try.prog g50mu g50T big 19 (areg Try.prog g50mu g50T 19) c K
noncomputable def g50kr : Kon := aresK Try.prog Try.f50.results.toList
theorem g50reg {c : Code} {K : Kon} {G : Env → St → Res} {id : Nat} {ops : Array Oper} {l1 l2 : List Nat} (hc : c = .region id ops false) (hl : List.range ops.size = l1 ++ l2) (h : (fun env st => aops Try.prog g50mu g50T 19 ops l2 env st (K .normal)) = G) : g50X c K = fun env st => aops Try.prog g50mu g50T 19 ops l1 env st G := reg_cut hc hl h
theorem g50seq {c x y : Code} {K : Kon} {G : Env → St → Res} (hc : c = .seq x y) (hy : g50X y K = G) : g50X c K = g50X x (kSeq G K) := seq_cut hc hy
theorem g50blk {c x : Code} {K : Kon} {i : Nat} (hc : c = .block i x) : g50X c K = g50X x (kBlk i K) := blk_cut hc
theorem g50loop {c x : Code} {K : Kon} (hc : c = .loop x) : g50X c K = aloop (g50X x) K big := loop_cut hc
theorem g50cond {c x y : Code} {K : Kon} {v : Operand} {F G : Env → St → Res} (hc : c = .cond v x y) (hx : g50X x K = F) (hy : g50X y K = G) : g50X c K = condF v F G := cond_cut hc hx hy
noncomputable def g50k0 : Kon := kSeq (g50X (g50C [1, 1, 1]) (g50kr)) (g50kr)
noncomputable def g50k1 : Kon := kBlk 0 (g50k0)
noncomputable def g50b11010 : Nat → V → V → V → St → Res
| 0, _, _, _, _ => none
| n + 1, x0, x3, x4, st =>
 A.lenL x0 fun a1 =>
 A.bin .lss x4 a1 fun a2 =>
 A.cond a2
 (A.iaddr 1 x0 x4 fun a3 =>
 A.load false 1 a3 st fun a4 z5 =>
 A.lenS a4 fun a6 =>
 A.bin .add x3 a6 fun a7 =>
 A.bin .add x4 (.int .i64 1) fun a8 =>
 (g50b11010 n) x0 a7 a8 z5)
 (some (.ret x3.er1, st))
theorem g50n11010 : g50C [1, 1, 0, 1, 0] = .loop (g50C [1, 1, 0, 1, 0, 0]) := by kernel_rfl
noncomputable def g50k2 (L11010 : V → V → V → St → Res) : Kon := kSeq (fun env st => L11010 (env 0) (env 3) (env 4) st) (g50k1)
theorem g50e11010 : g50X (g50C [1, 1, 0, 1, 0]) (g50k1) = fun env st => g50b11010 big (env 0) (env 3) (env 4) st := by
  have key : ∀ n, aloop (g50X (g50C [1, 1, 0, 1, 0, 0])) (g50k1) n = fun env st => g50b11010 n (env 0) (env 3) (env 4) st := by
    intro n
    induction n with
    | zero => rfl
    | succ n ih =>
      have h : aloop (g50X (g50C [1, 1, 0, 1, 0, 0])) (g50k1) (n + 1) = g50X (g50C [1, 1, 0, 1, 0, 0]) (kSeq (aloop (g50X (g50C [1, 1, 0, 1, 0, 0])) (g50k1) n) (g50k1)) := rfl
      rw [h, ih]
      refine Eq.trans (Eq.refl _) ?_
      funext env st
      kernel_rfl
  exact (g50loop g50n11010).trans (key big)
noncomputable def f50 (x0 : V) (st : St) : Res :=
 g50b11010 big x0 (.int .i64 0) (.int .i64 0) st
theorem g50nr : g50C [] = .seq (g50C [0]) (g50C [1]) := by kernel_rfl
theorem g50n1 : g50C [1] = .seq (g50C [1, 0]) (g50C [1, 1]) := by kernel_rfl
theorem g50n11 : g50C [1, 1] = .seq (g50C [1, 1, 0]) (g50C [1, 1, 1]) := by kernel_rfl
theorem g50n110 : g50C [1, 1, 0] = .seq (g50C [1, 1, 0, 0]) (g50C [1, 1, 0, 1]) := by kernel_rfl
theorem g50n1101 : g50C [1, 1, 0, 1] = .block 0 (g50C [1, 1, 0, 1, 0]) := by kernel_rfl
theorem g50er (env : Env) (st : St) : g50X (g50C []) g50kr env st = f50 (env 0) st := by
  rw [(g50seq g50nr (g50seq g50n1 ((g50seq g50n11 rfl).trans (g50seq g50n110 ((g50blk g50n1101).trans (g50e11010))))))]
  kernel_rfl
theorem s50_eq (x0 : V) (st : St) : s50 [x0] st = f50 x0 st := by
  have h : afn Try.prog g50mu g50T big (areg Try.prog g50mu g50T) 50 [x0] st = g50X (g50C []) g50kr (fun t => [x0].getD t (.tup [])) st := by kernel_rfl
  rw [s50, sealF_eq]
  exact h.trans (g50er _ st)
/-! sinew/sinewref01.PutNum -/
def g51mu : Nat → Bool := fun _ => false
noncomputable def g51T : Tbl := tget []
theorem g51t : SimT Try.prog g51T := simT_nil
noncomputable def s51 : Fn := sealF (fun args st => fg (afn Try.prog g51mu g51T big (areg Try.prog g51mu g51T) 51 args st) st)
theorem sim51 : Sim Try.prog 51 s51 := (afn_sim g51t (fun m => areg_sound g51t hmix m) 51 (by kernel_rfl)).fg.sealed
noncomputable def g51C (p : List Nat) : Code := sub (match Try.f51.body with | some c => c | none => .skip) p
noncomputable def g51X (c : Code) (K : Kon) : Env → St → Res := aexec Try.prog g51mu g51T big 41 (areg Try.prog g51mu g51T 41) c K
noncomputable def g51kr : Kon := aresK Try.prog Try.f51.results.toList
theorem g51reg {c : Code} {K : Kon} {G : Env → St → Res} {id : Nat} {ops : Array Oper} {l1 l2 : List Nat} (hc : c = .region id ops false) (hl : List.range ops.size = l1 ++ l2) (h : (fun env st => aops Try.prog g51mu g51T 41 ops l2 env st (K .normal)) = G) : g51X c K = fun env st => aops Try.prog g51mu g51T 41 ops l1 env st G := reg_cut hc hl h
theorem g51seq {c x y : Code} {K : Kon} {G : Env → St → Res} (hc : c = .seq x y) (hy : g51X y K = G) : g51X c K = g51X x (kSeq G K) := seq_cut hc hy
theorem g51blk {c x : Code} {K : Kon} {i : Nat} (hc : c = .block i x) : g51X c K = g51X x (kBlk i K) := blk_cut hc
theorem g51loop {c x : Code} {K : Kon} (hc : c = .loop x) : g51X c K = aloop (g51X x) K big := loop_cut hc
theorem g51cond {c x y : Code} {K : Kon} {v : Operand} {F G : Env → St → Res} (hc : c = .cond v x y) (hx : g51X x K = F) (hy : g51X y K = G) : g51X c K = condF v F G := cond_cut hc hx hy
noncomputable def g51k0 : Kon := kSeq (g51X (g51C [1, 1, 1, 1, 1, 1, 1]) (g51kr)) (g51kr)
noncomputable def g51k1 : Kon := kBlk 2 (g51k0)
noncomputable def g51b111111010 : Nat → V → V → V → St → Res
| 0, _, _, _, _ => none
| n + 1, x4, x5, x6, st =>
 A.bin .geq x6 (.int .i64 0) fun a1 =>
 A.cond a1
 (A.iaddr 1 x4 x6 fun a2 =>
 A.load false 1 a2 st fun a3 z4 =>
 A.bslice 1 (.int .u8 0) 1 [(0, a3)] fun a5 =>
 A.appB 1 x5 (elemsOf 5 1 a5 z4) z4 fun a6 z7 =>
 A.bin .sub x6 (.int .i64 1) fun a8 =>
 (g51b111111010 n) x4 a6 a8 z7)
 (A.toStr x5 st fun a9 =>
 some (.ret (.tup [a9.er1, ((.int .i64 0) : V).er1]), st))
theorem g51n111111010 : g51C [1, 1, 1, 1, 1, 1, 0, 1, 0] = .loop (g51C [1, 1, 1, 1, 1, 1, 0, 1, 0, 0]) := by kernel_rfl
noncomputable def g51k2 (L111111010 : V → V → V → St → Res) : Kon := kSeq (fun env st => L111111010 (env 4) (env 5) (env 6) st) (g51k1)
theorem g51e111111010 : g51X (g51C [1, 1, 1, 1, 1, 1, 0, 1, 0]) (g51k1) = fun env st => g51b111111010 big (env 4) (env 5) (env 6) st := by
  have key : ∀ n, aloop (g51X (g51C [1, 1, 1, 1, 1, 1, 0, 1, 0, 0])) (g51k1) n = fun env st => g51b111111010 n (env 4) (env 5) (env 6) st := by
    intro n
    induction n with
    | zero => rfl
    | succ n ih =>
      have h : aloop (g51X (g51C [1, 1, 1, 1, 1, 1, 0, 1, 0, 0])) (g51k1) (n + 1) = g51X (g51C [1, 1, 1, 1, 1, 1, 0, 1, 0, 0]) (kSeq (aloop (g51X (g51C [1, 1, 1, 1, 1, 1, 0, 1, 0, 0])) (g51k1) n) (g51k1)) := rfl
      rw [h, ih]
      refine Eq.trans (Eq.refl _) ?_
      funext env st
      kernel_rfl
  exact (g51loop g51n111111010).trans (key big)
noncomputable def g51b11111101 (x4 : V) (x5 : V) (x6 : V) (st : St) : Res :=
 g51b111111010 big x4 x5 x6 st
theorem g51n11111101 : g51C [1, 1, 1, 1, 1, 1, 0, 1] = .block 2 (g51C [1, 1, 1, 1, 1, 1, 0, 1, 0]) := by kernel_rfl
theorem g51e11111101 : g51X (g51C [1, 1, 1, 1, 1, 1, 0, 1]) (g51k0) = fun env st => g51b11111101 (env 4) (env 5) (env 6) st := by
  refine Eq.trans ((g51blk g51n11111101).trans (g51e111111010)) ?_
  funext env st
  kernel_rfl
noncomputable def g51b1111 (x4 : V) (st : St) : Res :=
 A.lenL x4 fun a1 =>
 A.toInt .u8 a1 fun a2 =>
 A.bslice 1 (.int .u8 0) 1 [(0, a2)] fun a3 =>
 A.appB 1 (.lst [] 1) (elemsOf 5 1 a3 st) st fun a4 z5 =>
 A.lenL x4 fun a6 =>
 A.bin .sub a6 (.int .i64 1) fun a7 =>
 g51b11111101 x4 a4 a7 z5
theorem g51n1111 : g51C [1, 1, 1, 1] = .seq (g51C [1, 1, 1, 1, 0]) (g51C [1, 1, 1, 1, 1]) := by kernel_rfl
theorem g51n11111 : g51C [1, 1, 1, 1, 1] = .seq (g51C [1, 1, 1, 1, 1, 0]) (g51C [1, 1, 1, 1, 1, 1]) := by kernel_rfl
theorem g51n111111 : g51C [1, 1, 1, 1, 1, 1] = .seq (g51C [1, 1, 1, 1, 1, 1, 0]) (g51C [1, 1, 1, 1, 1, 1, 1]) := by kernel_rfl
theorem g51n1111110 : g51C [1, 1, 1, 1, 1, 1, 0] = .seq (g51C [1, 1, 1, 1, 1, 1, 0, 0]) (g51C [1, 1, 1, 1, 1, 1, 0, 1]) := by kernel_rfl
theorem g51e1111 : g51X (g51C [1, 1, 1, 1]) (g51kr) = fun env st => g51b1111 (env 4) st := by
  refine Eq.trans (g51seq g51n1111 (g51seq g51n11111 ((g51seq g51n111111 rfl).trans (g51seq g51n1111110 (g51e11111101))))) ?_
  funext env st
  kernel_rfl
noncomputable def g51k3 : Kon := kSeq (fun env st => g51b1111 (env 4) st) (g51kr)
noncomputable def g51k4 : Kon := kBlk 0 (g51k3)
noncomputable def g51b11100 : Nat → V → V → St → Res
| 0, _, _, _ => none
| n + 1, x0, x4, st =>
 A.bin .gtr x0 (.int .i64 0) fun a1 =>
 A.cond a1
 (A.bin .rem x0 (.int .i64 256) fun a2 =>
 A.toInt .u8 a2 fun a3 =>
 A.bslice 1 (.int .u8 0) 1 [(0, a3)] fun a4 =>
 A.appB 1 x4 (elemsOf 5 1 a4 st) st fun a5 z6 =>
 A.bin .quo x0 (.int .i64 256) fun a7 =>
 (g51b11100 n) a7 a5 z6)
 (g51b1111 x4 st)
theorem g51n11100 : g51C [1, 1, 1, 0, 0] = .loop (g51C [1, 1, 1, 0, 0, 0]) := by kernel_rfl
noncomputable def g51k5 (L11100 : V → V → St → Res) : Kon := kSeq (fun env st => L11100 (env 0) (env 4) st) (g51k4)
theorem g51e11100 : g51X (g51C [1, 1, 1, 0, 0]) (g51k4) = fun env st => g51b11100 big (env 0) (env 4) st := by
  have key : ∀ n, aloop (g51X (g51C [1, 1, 1, 0, 0, 0])) (g51k4) n = fun env st => g51b11100 n (env 0) (env 4) st := by
    intro n
    induction n with
    | zero => rfl
    | succ n ih =>
      have h : aloop (g51X (g51C [1, 1, 1, 0, 0, 0])) (g51k4) (n + 1) = g51X (g51C [1, 1, 1, 0, 0, 0]) (kSeq (aloop (g51X (g51C [1, 1, 1, 0, 0, 0])) (g51k4) n) (g51k4)) := rfl
      rw [h, ih]
      refine Eq.trans (Eq.refl _) ?_
      funext env st
      kernel_rfl
  exact (g51loop g51n11100).trans (key big)
noncomputable def f51 (x0 : V) (st : St) : Res :=
 A.bin .lss x0 (.int .i64 0) fun a1 =>
 A.cond a1
 (some (.ret (.tup [((.str []) : V).er1, ((.int .i64 1) : V).er1]), st))
 (g51b11100 big x0 (.lst [] 1) st)
theorem g51nr : g51C [] = .seq (g51C [0]) (g51C [1]) := by kernel_rfl
theorem g51n1 : g51C [1] = .seq (g51C [1, 0]) (g51C [1, 1]) := by kernel_rfl
theorem g51n11 : g51C [1, 1] = .seq (g51C [1, 1, 0]) (g51C [1, 1, 1]) := by kernel_rfl
theorem g51n111 : g51C [1, 1, 1] = .seq (g51C [1, 1, 1, 0]) (g51C [1, 1, 1, 1]) := by kernel_rfl
theorem g51n1110 : g51C [1, 1, 1, 0] = .block 0 (g51C [1, 1, 1, 0, 0]) := by kernel_rfl
theorem g51er (env : Env) (st : St) : g51X (g51C []) g51kr env st = f51 (env 0) st := by
  rw [(g51seq g51nr (g51seq g51n1 (g51seq g51n11 ((g51seq g51n111 (g51e1111)).trans ((g51blk g51n1110).trans (g51e11100))))))]
  kernel_rfl
theorem s51_eq (x0 : V) (st : St) : s51 [x0] st = fg (f51 x0 st) st := by
  have h : afn Try.prog g51mu g51T big (areg Try.prog g51mu g51T) 51 [x0] st = g51X (g51C []) g51kr (fun t => [x0].getD t (.tup [])) st := by kernel_rfl
  rw [s51, sealF_eq]
  show fg _ st = fg _ st
  refine congrArg (fun r => fg r st) ?_
  exact h.trans (g51er _ st)
/-! sinew/sinewref01.PutStr -/
def g62mu : Nat → Bool := fun _ => false
noncomputable def g62T : Tbl := tget [(51, s51)]
theorem g62t : SimT Try.prog g62T := simT_cons sim51 (simT_nil)
noncomputable def s62 : Fn := sealF (afn Try.prog g62mu g62T big (areg Try.prog g62mu g62T) 62)
theorem sim62 : Sim Try.prog 62 s62 := (afn_sim g62t (fun m => areg_sound g62t hmix m) 62 (by kernel_rfl)).sealed
noncomputable def g62C (p : List Nat) : Code := sub (match Try.f62.body with | some c => c | none => .skip) p
noncomputable def g62X (c : Code) (K : Kon) : Env → St → Res := aexec Try.prog g62mu g62T big 18 (areg Try.prog g62mu g62T 18) c K
noncomputable def g62kr : Kon := aresK Try.prog Try.f62.results.toList
theorem g62reg {c : Code} {K : Kon} {G : Env → St → Res} {id : Nat} {ops : Array Oper} {l1 l2 : List Nat} (hc : c = .region id ops false) (hl : List.range ops.size = l1 ++ l2) (h : (fun env st => aops Try.prog g62mu g62T 18 ops l2 env st (K .normal)) = G) : g62X c K = fun env st => aops Try.prog g62mu g62T 18 ops l1 env st G := reg_cut hc hl h
theorem g62seq {c x y : Code} {K : Kon} {G : Env → St → Res} (hc : c = .seq x y) (hy : g62X y K = G) : g62X c K = g62X x (kSeq G K) := seq_cut hc hy
theorem g62blk {c x : Code} {K : Kon} {i : Nat} (hc : c = .block i x) : g62X c K = g62X x (kBlk i K) := blk_cut hc
theorem g62loop {c x : Code} {K : Kon} (hc : c = .loop x) : g62X c K = aloop (g62X x) K big := loop_cut hc
theorem g62cond {c x y : Code} {K : Kon} {v : Operand} {F G : Env → St → Res} (hc : c = .cond v x y) (hx : g62X x K = F) (hy : g62X y K = G) : g62X c K = condF v F G := cond_cut hc hx hy
noncomputable def g62b111 (x0 : V) (x4 : V) (st : St) : Res :=
 A.bin .add x4 x0 fun a1 =>
 some (.ret (.tup [a1.er1, ((.int .i64 0) : V).er1]), st)
theorem g62e111 : g62X (g62C [1, 1, 1]) (g62kr) = fun env st => g62b111 (env 0) (env 4) st := by
  refine Eq.trans (Eq.refl (g62X (g62C [1, 1, 1]) (g62kr))) ?_
  funext env st
  kernel_rfl
noncomputable def f62 (x0 : V) (st : St) : Res :=
 A.lenS x0 fun a1 =>
 A.bin .gtr a1 (.int .i64 65536) fun a2 =>
 A.cond a2
 (some (.ret (.tup [((.str []) : V).er1, ((.int .i64 12) : V).er1]), st))
 (A.lenS x0 fun a3 =>
 A.ret (s51 [a3.er1] st) fun a4 z5 =>
 A.ext a4 0 fun a6 =>
 A.ext a4 1 fun a7 =>
 g62b111 x0 a6 z5)
theorem g62nr : g62C [] = .seq (g62C [0]) (g62C [1]) := by kernel_rfl
theorem g62n1 : g62C [1] = .seq (g62C [1, 0]) (g62C [1, 1]) := by kernel_rfl
theorem g62n11 : g62C [1, 1] = .seq (g62C [1, 1, 0]) (g62C [1, 1, 1]) := by kernel_rfl
theorem g62er (env : Env) (st : St) : g62X (g62C []) g62kr env st = f62 (env 0) st := by
  rw [(g62seq g62nr (g62seq g62n1 (g62seq g62n11 (g62e111))))]
  kernel_rfl
theorem s62_eq (x0 : V) (st : St) : s62 [x0] st = f62 x0 st := by
  have h : afn Try.prog g62mu g62T big (areg Try.prog g62mu g62T) 62 [x0] st = g62X (g62C []) g62kr (fun t => [x0].getD t (.tup [])) st := by kernel_rfl
  rw [s62, sealF_eq]
  exact h.trans (g62er _ st)
/-! sinew/sinewref01.PutList -/
def g52mu : Nat → Bool := fun _ => false
noncomputable def g52T : Tbl := tget [(51, s51), (62, s62)]
theorem g52t : SimT Try.prog g52T := simT_cons sim51 ( simT_cons sim62 (simT_nil))
noncomputable def s52 : Fn := sealF (fun args st => fg (afn Try.prog g52mu g52T big (areg Try.prog g52mu g52T) 52 args st) st)
theorem sim52 : Sim Try.prog 52 s52 := (afn_sim g52t (fun m => areg_sound g52t hmix m) 52 (by kernel_rfl)).fg.sealed
noncomputable def g52C (p : List Nat) : Code := sub (match Try.f52.body with | some c => c | none => .skip) p
noncomputable def g52X (c : Code) (K : Kon) : Env → St → Res := aexec Try.prog g52mu g52T big 43 (areg Try.prog g52mu g52T 43) c K
noncomputable def g52kr : Kon := aresK Try.prog Try.f52.results.toList
theorem g52reg {c : Code} {K : Kon} {G : Env → St → Res} {id : Nat} {ops : Array Oper} {l1 l2 : List Nat} (hc : c = .region id ops false) (hl : List.range ops.size = l1 ++ l2) (h : (fun env st => aops Try.prog g52mu g52T 43 ops l2 env st (K .normal)) = G) : g52X c K = fun env st => aops Try.prog g52mu g52T 43 ops l1 env st G := reg_cut hc hl h
theorem g52seq {c x y : Code} {K : Kon} {G : Env → St → Res} (hc : c = .seq x y) (hy : g52X y K = G) : g52X c K = g52X x (kSeq G K) := seq_cut hc hy
theorem g52blk {c x : Code} {K : Kon} {i : Nat} (hc : c = .block i x) : g52X c K = g52X x (kBlk i K) := blk_cut hc
theorem g52loop {c x : Code} {K : Kon} (hc : c = .loop x) : g52X c K = aloop (g52X x) K big := loop_cut hc
theorem g52cond {c x y : Code} {K : Kon} {v : Operand} {F G : Env → St → Res} (hc : c = .cond v x y) (hx : g52X x K = F) (hy : g52X y K = G) : g52X c K = condF v F G := cond_cut hc hx hy
noncomputable def g52k0 : Kon := kSeq (g52X (g52C [1, 1, 1, 1, 1]) (g52kr)) (g52kr)
noncomputable def g52k1 : Kon := kBlk 0 (g52k0)
noncomputable def g52k2 (L1111010 : V → V → V → St → Res) : Kon := kSeq (fun env st => L1111010 (env 0) (env 6) (env 7) st) (g52k1)
noncomputable def g52k3 (L1111010 : V → V → V → St → Res) : Kon := kSeq (g52X (g52C [1, 1, 1, 1, 0, 1, 0, 0, 1, 1]) (g52k2 L1111010)) (g52k2 L1111010)
noncomputable def g52k4 (L1111010 : V → V → V → St → Res) : Kon := kBlk 1 (g52k3 L1111010)
noncomputable def g52b111101001001 (L1111010 : V → V → V → St → Res) (x0 : V) (x6 : V) (x7 : V) (x8 : V) (x9 : V) (st : St) : Res :=
 A.eql 2 true x9 (.int .i64 0) fun a1 =>
 A.cond a1
 (some (.ret (.tup [((.str []) : V).er1, x9.er1]), st))
 (A.appB 1 x6 (elemsOf 3 1 x8 st) st fun a2 z3 =>
 A.bin .add x7 (.int .i64 1) fun a4 =>
 L1111010 x0 a2 a4 z3)
theorem g52e111101001001 (L1111010 : V → V → V → St → Res) : g52X (g52C [1, 1, 1, 1, 0, 1, 0, 0, 1, 0, 0, 1]) (g52k4 L1111010) = fun env st => g52b111101001001 L1111010 (env 0) (env 6) (env 7) (env 8) (env 9) st := by
  refine Eq.trans (Eq.refl (g52X (g52C [1, 1, 1, 1, 0, 1, 0, 0, 1, 0, 0, 1]) (g52k4 L1111010))) ?_
  funext env st
  kernel_rfl
noncomputable def g52b1111010 : Nat → V → V → V → St → Res
| 0, _, _, _, _ => none
| n + 1, x0, x6, x7, st =>
 A.lenL x0 fun a1 =>
 A.bin .lss x7 a1 fun a2 =>
 A.cond a2
 (A.iaddr 1 x0 x7 fun a3 =>
 A.load false 1 a3 st fun a4 z5 =>
 A.ret (s62 [a4.er1] z5) fun a6 z7 =>
 A.ext a6 0 fun a8 =>
 A.ext a6 1 fun a9 =>
 g52b111101001001 (g52b1111010 n) x0 x6 x7 a8 a9 z7)
 (A.toStr x6 st fun a10 =>
 some (.ret (.tup [a10.er1, ((.int .i64 0) : V).er1]), st))
theorem g52n1111010 : g52C [1, 1, 1, 1, 0, 1, 0] = .loop (g52C [1, 1, 1, 1, 0, 1, 0, 0]) := by kernel_rfl
theorem g52n11110100 : g52C [1, 1, 1, 1, 0, 1, 0, 0] = .seq (g52C [1, 1, 1, 1, 0, 1, 0, 0, 0]) (g52C [1, 1, 1, 1, 0, 1, 0, 0, 1]) := by kernel_rfl
theorem g52n111101001 : g52C [1, 1, 1, 1, 0, 1, 0, 0, 1] = .seq (g52C [1, 1, 1, 1, 0, 1, 0, 0, 1, 0]) (g52C [1, 1, 1, 1, 0, 1, 0, 0, 1, 1]) := by kernel_rfl
theorem g52n1111010010 : g52C [1, 1, 1, 1, 0, 1, 0, 0, 1, 0] = .block 1 (g52C [1, 1, 1, 1, 0, 1, 0, 0, 1, 0, 0]) := by kernel_rfl
theorem g52n11110100100 : g52C [1, 1, 1, 1, 0, 1, 0, 0, 1, 0, 0] = .seq (g52C [1, 1, 1, 1, 0, 1, 0, 0, 1, 0, 0, 0]) (g52C [1, 1, 1, 1, 0, 1, 0, 0, 1, 0, 0, 1]) := by kernel_rfl
theorem g52e1111010 : g52X (g52C [1, 1, 1, 1, 0, 1, 0]) (g52k1) = fun env st => g52b1111010 big (env 0) (env 6) (env 7) st := by
  have key : ∀ n, aloop (g52X (g52C [1, 1, 1, 1, 0, 1, 0, 0])) (g52k1) n = fun env st => g52b1111010 n (env 0) (env 6) (env 7) st := by
    intro n
    induction n with
    | zero => rfl
    | succ n ih =>
      have h : aloop (g52X (g52C [1, 1, 1, 1, 0, 1, 0, 0])) (g52k1) (n + 1) = g52X (g52C [1, 1, 1, 1, 0, 1, 0, 0]) (kSeq (aloop (g52X (g52C [1, 1, 1, 1, 0, 1, 0, 0])) (g52k1) n) (g52k1)) := rfl
      rw [h, ih]
      refine Eq.trans (g52seq g52n11110100 ((g52seq g52n111101001 rfl).trans ((g52blk g52n1111010010).trans (g52seq g52n11110100100 (g52e111101001001 (g52b1111010 n)))))) ?_
      funext env st
      kernel_rfl
  exact (g52loop g52n1111010).trans (key big)
noncomputable def g52b111 (x0 : V) (x4 : V) (st : St) : Res :=
 A.toBytes x4 st fun a1 z2 =>
 g52b1111010 big x0 a1 (.int .i64 0) z2
theorem g52n111 : g52C [1, 1, 1] = .seq (g52C [1, 1, 1, 0]) (g52C [1, 1, 1, 1]) := by kernel_rfl
theorem g52n1111 : g52C [1, 1, 1, 1] = .seq (g52C [1, 1, 1, 1, 0]) (g52C [1, 1, 1, 1, 1]) := by kernel_rfl
theorem g52n11110 : g52C [1, 1, 1, 1, 0] = .seq (g52C [1, 1, 1, 1, 0, 0]) (g52C [1, 1, 1, 1, 0, 1]) := by kernel_rfl
theorem g52n111101 : g52C [1, 1, 1, 1, 0, 1] = .block 0 (g52C [1, 1, 1, 1, 0, 1, 0]) := by kernel_rfl
theorem g52e111 : g52X (g52C [1, 1, 1]) (g52kr) = fun env st => g52b111 (env 0) (env 4) st := by
  refine Eq.trans (g52seq g52n111 ((g52seq g52n1111 rfl).trans (g52seq g52n11110 ((g52blk g52n111101).trans (g52e1111010))))) ?_
  funext env st
  kernel_rfl
noncomputable def f52 (x0 : V) (st : St) : Res :=
 A.lenL x0 fun a1 =>
 A.bin .gtr a1 (.int .i64 4096) fun a2 =>
 A.cond a2
 (some (.ret (.tup [((.str []) : V).er1, ((.int .i64 12) : V).er1]), st))
 (A.lenL x0 fun a3 =>
 A.ret (s51 [a3.er1] st) fun a4 z5 =>
 A.ext a4 0 fun a6 =>
 A.ext a4 1 fun a7 =>
 g52b111 x0 a6 z5)
theorem g52nr : g52C [] = .seq (g52C [0]) (g52C [1]) := by kernel_rfl
theorem g52n1 : g52C [1] = .seq (g52C [1, 0]) (g52C [1, 1]) := by kernel_rfl
theorem g52n11 : g52C [1, 1] = .seq (g52C [1, 1, 0]) (g52C [1, 1, 1]) := by kernel_rfl
theorem g52er (env : Env) (st : St) : g52X (g52C []) g52kr env st = f52 (env 0) st := by
  rw [(g52seq g52nr (g52seq g52n1 (g52seq g52n11 (g52e111))))]
  kernel_rfl
theorem s52_eq (x0 : V) (st : St) : s52 [x0] st = fg (f52 x0 st) st := by
  have h : afn Try.prog g52mu g52T big (areg Try.prog g52mu g52T) 52 [x0] st = g52X (g52C []) g52kr (fun t => [x0].getD t (.tup [])) st := by kernel_rfl
  rw [s52, sealF_eq]
  show fg _ st = fg _ st
  refine congrArg (fun r => fg r st) ?_
  exact h.trans (g52er _ st)
/-! sinew/sinewref03.body -/
def g32mu : Nat → Bool := fun _ => false
noncomputable def g32T : Tbl := tget [(42, s42), (50, s50), (51, s51), (52, s52)]
theorem g32t : SimT Try.prog g32T := simT_cons sim42 ( simT_cons sim50 ( simT_cons sim51 ( simT_cons sim52 (simT_nil))))
noncomputable def s32 : Fn := sealF (fun args st => fg (afn Try.prog g32mu g32T big (areg Try.prog g32mu g32T) 32 args st) st)
theorem sim32 : Sim Try.prog 32 s32 := (afn_sim g32t (fun m => areg_sound g32t hmix m) 32 (by kernel_rfl)).fg.sealed
noncomputable def g32C (p : List Nat) : Code := sub (match Try.f32.body with | some c => c | none => .skip) p
noncomputable def g32X (c : Code) (K : Kon) : Env → St → Res := aexec Try.prog g32mu g32T big 111 (areg Try.prog g32mu g32T 111) c K
noncomputable def g32kr : Kon := aresK Try.prog Try.f32.results.toList
theorem g32reg {c : Code} {K : Kon} {G : Env → St → Res} {id : Nat} {ops : Array Oper} {l1 l2 : List Nat} (hc : c = .region id ops false) (hl : List.range ops.size = l1 ++ l2) (h : (fun env st => aops Try.prog g32mu g32T 111 ops l2 env st (K .normal)) = G) : g32X c K = fun env st => aops Try.prog g32mu g32T 111 ops l1 env st G := reg_cut hc hl h
theorem g32seq {c x y : Code} {K : Kon} {G : Env → St → Res} (hc : c = .seq x y) (hy : g32X y K = G) : g32X c K = g32X x (kSeq G K) := seq_cut hc hy
theorem g32blk {c x : Code} {K : Kon} {i : Nat} (hc : c = .block i x) : g32X c K = g32X x (kBlk i K) := blk_cut hc
theorem g32loop {c x : Code} {K : Kon} (hc : c = .loop x) : g32X c K = aloop (g32X x) K big := loop_cut hc
theorem g32cond {c x y : Code} {K : Kon} {v : Operand} {F G : Env → St → Res} (hc : c = .cond v x y) (hx : g32X x K = F) (hy : g32X y K = G) : g32X c K = condF v F G := cond_cut hc hx hy
noncomputable def g32k0 : Kon := kSeq (g32X (g32C [1, 1, 1, 1, 1, 1, 1, 1, 1, 1, 1, 1, 1, 1]) (g32kr)) (g32kr)
noncomputable def g32k1 : Kon := kBlk 4 (g32k0)
noncomputable def g32b1111111111111010 : Nat → V → V → V → St → Res
| 0, _, _, _, _ => none
| n + 1, x1, x6, x15, st =>
 A.faddr 3 x1 fun a1 =>
 A.load false 1 a1 st fun a2 z3 =>
 A.lenL a2 fun a4 =>
 A.bin .lss x15 a4 fun a5 =>
 A.cond a5
 (A.faddr 3 x1 fun a6 =>
 A.load false 1 a6 z3 fun a7 z8 =>
 A.iaddr 1 a7 x15 fun a9 =>
 A.load false 1 a9 z8 fun a10 z11 =>
 A.ret (s52 [a10.er1] z11) fun a12 z13 =>
 A.ext a12 0 fun a14 =>
 A.ext a12 1 fun a15 =>
 A.appB 1 x6 (elemsOf 3 1 a14 z13) z13 fun a16 z17 =>
 A.bin .add x15 (.int .i64 1) fun a18 =>
 (g32b1111111111111010 n) x1 a16 a18 z17)
 (A.toStr x6 z3 fun a19 =>
 A.lenL x6 fun a20 =>
 A.bin .leq a20 (.int .i64 1048576) fun a21 =>
 some (.ret (.tup [a19.er1, a21.er1]), z3))
theorem g32n1111111111111010 : g32C [1, 1, 1, 1, 1, 1, 1, 1, 1, 1, 1, 1, 1, 0, 1, 0] = .loop (g32C [1, 1, 1, 1, 1, 1, 1, 1, 1, 1, 1, 1, 1, 0, 1, 0, 0]) := by kernel_rfl
noncomputable def g32k2 (L1111111111111010 : V → V → V → St → Res) : Kon := kSeq (fun env st => L1111111111111010 (env 1) (env 6) (env 15) st) (g32k1)
theorem g32e1111111111111010 : g32X (g32C [1, 1, 1, 1, 1, 1, 1, 1, 1, 1, 1, 1, 1, 0, 1, 0]) (g32k1) = fun env st => g32b1111111111111010 big (env 1) (env 6) (env 15) st := by
  have key : ∀ n, aloop (g32X (g32C [1, 1, 1, 1, 1, 1, 1, 1, 1, 1, 1, 1, 1, 0, 1, 0, 0])) (g32k1) n = fun env st => g32b1111111111111010 n (env 1) (env 6) (env 15) st := by
    intro n
    induction n with
    | zero => rfl
    | succ n ih =>
      have h : aloop (g32X (g32C [1, 1, 1, 1, 1, 1, 1, 1, 1, 1, 1, 1, 1, 0, 1, 0, 0])) (g32k1) (n + 1) = g32X (g32C [1, 1, 1, 1, 1, 1, 1, 1, 1, 1, 1, 1, 1, 0, 1, 0, 0]) (kSeq (aloop (g32X (g32C [1, 1, 1, 1, 1, 1, 1, 1, 1, 1, 1, 1, 1, 0, 1, 0, 0])) (g32k1) n) (g32k1)) := rfl
      rw [h, ih]
      refine Eq.trans (Eq.refl _) ?_
      funext env st
      kernel_rfl
  exact (g32loop g32n1111111111111010).trans (key big)
noncomputable def g32b1111111111111 (x1 : V) (x6 : V) (st : St) : Res :=
 g32b1111111111111010 big x1 x6 (.int .i64 0) st
theorem g32n1111111111111 : g32C [1, 1, 1, 1, 1, 1, 1, 1, 1, 1, 1, 1, 1] = .seq (g32C [1, 1, 1, 1, 1, 1, 1, 1, 1, 1, 1, 1, 1, 0]) (g32C [1, 1, 1, 1, 1, 1, 1, 1, 1, 1, 1, 1, 1, 1]) := by kernel_rfl
theorem g32n11111111111110 : g32C [1, 1, 1, 1, 1, 1, 1, 1, 1, 1, 1, 1, 1, 0] = .seq (g32C [1, 1, 1, 1, 1, 1, 1, 1, 1, 1, 1, 1, 1, 0, 0]) (g32C [1, 1, 1, 1, 1, 1, 1, 1, 1, 1, 1, 1, 1, 0, 1]) := by kernel_rfl
theorem g32n111111111111101 : g32C [1, 1, 1, 1, 1, 1, 1, 1, 1, 1, 1, 1, 1, 0, 1] = .block 4 (g32C [1, 1, 1, 1, 1, 1, 1, 1, 1, 1, 1, 1, 1, 0, 1, 0]) := by kernel_rfl
theorem g32e1111111111111 : g32X (g32C [1, 1, 1, 1, 1, 1, 1, 1, 1, 1, 1, 1, 1]) (g32kr) = fun env st => g32b1111111111111 (env 1) (env 6) st := by
  refine Eq.trans ((g32seq g32n1111111111111 rfl).trans (g32seq g32n11111111111110 ((g32blk g32n111111111111101).trans (g32e1111111111111010)))) ?_
  funext env st
  kernel_rfl
noncomputable def g32b11111111111 (x1 : V) (x6 : V) (st : St) : Res :=
 A.faddr 3 x1 fun a1 =>
 A.load false 1 a1 st fun a2 z3 =>
 A.lenL a2 fun a4 =>
 A.ret (s51 [a4.er1] z3) fun a5 z6 =>
 A.ext a5 0 fun a7 =>
 A.ext a5 1 fun a8 =>
 A.appB 1 x6 (elemsOf 3 1 a7 z6) z6 fun a9 z10 =>
 g32b1111111111111 x1 a9 z10
theorem g32n11111111111 : g32C [1, 1, 1, 1, 1, 1, 1, 1, 1, 1, 1] = .seq (g32C [1, 1, 1, 1, 1, 1, 1, 1, 1, 1, 1, 0]) (g32C [1, 1, 1, 1, 1, 1, 1, 1, 1, 1, 1, 1]) := by kernel_rfl
theorem g32n111111111111 : g32C [1, 1, 1, 1, 1, 1, 1, 1, 1, 1, 1, 1] = .seq (g32C [1, 1, 1, 1, 1, 1, 1, 1, 1, 1, 1, 1, 0]) (g32C [1, 1, 1, 1, 1, 1, 1, 1, 1, 1, 1, 1, 1]) := by kernel_rfl
theorem g32e11111111111 : g32X (g32C [1, 1, 1, 1, 1, 1, 1, 1, 1, 1, 1]) (g32kr) = fun env st => g32b11111111111 (env 1) (env 6) st := by
  refine Eq.trans (g32seq g32n11111111111 (g32seq g32n111111111111 (g32e1111111111111))) ?_
  funext env st
  kernel_rfl
noncomputable def g32b111111111 (x1 : V) (x6 : V) (st : St) : Res :=
 A.faddr 2 x1 fun a1 =>
 A.load false 1 a1 st fun a2 z3 =>
 A.ret (s52 [a2.er1] z3) fun a4 z5 =>
 A.ext a4 0 fun a6 =>
 A.ext a4 1 fun a7 =>
 A.appB 1 x6 (elemsOf 3 1 a6 z5) z5 fun a8 z9 =>
 g32b11111111111 x1 a8 z9
theorem g32n111111111 : g32C [1, 1, 1, 1, 1, 1, 1, 1, 1] = .seq (g32C [1, 1, 1, 1, 1, 1, 1, 1, 1, 0]) (g32C [1, 1, 1, 1, 1, 1, 1, 1, 1, 1]) := by kernel_rfl
theorem g32n1111111111 : g32C [1, 1, 1, 1, 1, 1, 1, 1, 1, 1] = .seq (g32C [1, 1, 1, 1, 1, 1, 1, 1, 1, 1, 0]) (g32C [1, 1, 1, 1, 1, 1, 1, 1, 1, 1, 1]) := by kernel_rfl
theorem g32e111111111 : g32X (g32C [1, 1, 1, 1, 1, 1, 1, 1, 1]) (g32kr) = fun env st => g32b111111111 (env 1) (env 6) st := by
  refine Eq.trans (g32seq g32n111111111 (g32seq g32n1111111111 (g32e11111111111))) ?_
  funext env st
  kernel_rfl
noncomputable def g32k3 : Kon := kSeq (fun env st => g32b111111111 (env 1) (env 6) st) (g32kr)
noncomputable def g32k4 : Kon := kBlk 2 (g32k3)
noncomputable def g32b11111111010 : Nat → V → V → V → V → St → Res
| 0, _, _, _, _, _ => none
| n + 1, x1, x6, x7, x8, st =>
 A.lenL x7 fun a1 =>
 A.bin .lss x8 a1 fun a2 =>
 A.cond a2
 (A.iaddr 1 x7 x8 fun a3 =>
 A.load false 1 a3 st fun a4 z5 =>
 A.ret (s51 [a4.er1] z5) fun a6 z7 =>
 A.ext a6 0 fun a8 =>
 A.ext a6 1 fun a9 =>
 A.appB 1 x6 (elemsOf 3 1 a8 z7) z7 fun a10 z11 =>
 A.bin .add x8 (.int .i64 1) fun a12 =>
 (g32b11111111010 n) x1 a10 x7 a12 z11)
 (g32b111111111 x1 x6 st)
theorem g32n11111111010 : g32C [1, 1, 1, 1, 1, 1, 1, 1, 0, 1, 0] = .loop (g32C [1, 1, 1, 1, 1, 1, 1, 1, 0, 1, 0, 0]) := by kernel_rfl
noncomputable def g32k5 (L11111111010 : V → V → V → V → St → Res) : Kon := kSeq (fun env st => L11111111010 (env 1) (env 6) (env 7) (env 8) st) (g32k4)
theorem g32e11111111010 : g32X (g32C [1, 1, 1, 1, 1, 1, 1, 1, 0, 1, 0]) (g32k4) = fun env st => g32b11111111010 big (env 1) (env 6) (env 7) (env 8) st := by
  have key : ∀ n, aloop (g32X (g32C [1, 1, 1, 1, 1, 1, 1, 1, 0, 1, 0, 0])) (g32k4) n = fun env st => g32b11111111010 n (env 1) (env 6) (env 7) (env 8) st := by
    intro n
    induction n with
    | zero => rfl
    | succ n ih =>
      have h : aloop (g32X (g32C [1, 1, 1, 1, 1, 1, 1, 1, 0, 1, 0, 0])) (g32k4) (n + 1) = g32X (g32C [1, 1, 1, 1, 1, 1, 1, 1, 0, 1, 0, 0]) (kSeq (aloop (g32X (g32C [1, 1, 1, 1, 1, 1, 1, 1, 0, 1, 0, 0])) (g32k4) n) (g32k4)) := rfl
      rw [h, ih]
      refine Eq.trans (Eq.refl _) ?_
      funext env st
      kernel_rfl
  exact (g32loop g32n11111111010).trans (key big)
noncomputable def g32b1111111 (x1 : V) (x6 : V) (x7 : V) (st : St) : Res :=
 A.faddr 1 x1 fun a1 =>
 A.load false 1 a1 st fun a2 z3 =>
 A.app 1 x7 (elemsOf 5 1 a2 z3) z3 fun a4 z5 =>
 g32b11111111010 big x1 x6 a4 (.int .i64 0) z5
theorem g32n1111111 : g32C [1, 1, 1, 1, 1, 1, 1] = .seq (g32C [1, 1, 1, 1, 1, 1, 1, 0]) (g32C [1, 1, 1, 1, 1, 1, 1, 1]) := by kernel_rfl
theorem g32n11111111 : g32C [1, 1, 1, 1, 1, 1, 1, 1] = .seq (g32C [1, 1, 1, 1, 1, 1, 1, 1, 0]) (g32C [1, 1, 1, 1, 1, 1, 1, 1, 1]) := by kernel_rfl
theorem g32n111111110 : g32C [1, 1, 1, 1, 1, 1, 1, 1, 0] = .seq (g32C [1, 1, 1, 1, 1, 1, 1, 1, 0, 0]) (g32C [1, 1, 1, 1, 1, 1, 1, 1, 0, 1]) := by kernel_rfl
theorem g32n1111111101 : g32C [1, 1, 1, 1, 1, 1, 1, 1, 0, 1] = .block 2 (g32C [1, 1, 1, 1, 1, 1, 1, 1, 0, 1, 0]) := by kernel_rfl
theorem g32e1111111 : g32X (g32C [1, 1, 1, 1, 1, 1, 1]) (g32kr) = fun env st => g32b1111111 (env 1) (env 6) (env 7) st := by
  refine Eq.trans (g32seq g32n1111111 ((g32seq g32n11111111 (g32e111111111)).trans (g32seq g32n111111110 ((g32blk g32n1111111101).trans (g32e11111111010))))) ?_
  funext env st
  kernel_rfl
noncomputable def g32b1111 (x1 : V) (x4 : V) (st : St) : Res :=
 A.bin .gtr x4 (.int .i64 1048576) fun a1 =>
 A.cond a1
 (some (.ret (.tup [((.str []) : V).er1, ((.bool false) : V).er1]), st))
 (A.faddr 0 x1 fun a2 =>
 A.load false 1 a2 st fun a3 z4 =>
 A.faddr 1 x1 fun a5 =>
 A.load false 1 a5 z4 fun a6 z7 =>
 A.lenL a6 fun a8 =>
 A.bslice 1 (.int .i64 0) 2 [(0, a3), (1, a8)] fun a9 =>
 g32b1111111 x1 (.lst [] 1) a9 z7)
theorem g32n1111 : g32C [1, 1, 1, 1] = .seq (g32C [1, 1, 1, 1, 0]) (g32C [1, 1, 1, 1, 1]) := by kernel_rfl
theorem g32n11111 : g32C [1, 1, 1, 1, 1] = .seq (g32C [1, 1, 1, 1, 1, 0]) (g32C [1, 1, 1, 1, 1, 1]) := by kernel_rfl
theorem g32n111111 : g32C [1, 1, 1, 1, 1, 1] = .seq (g32C [1, 1, 1, 1, 1, 1, 0]) (g32C [1, 1, 1, 1, 1, 1, 1]) := by kernel_rfl
theorem g32e1111 : g32X (g32C [1, 1, 1, 1]) (g32kr) = fun env st => g32b1111 (env 1) (env 4) st := by
  refine Eq.trans (g32seq g32n1111 (g32seq g32n11111 (g32seq g32n111111 (g32e1111111)))) ?_
  funext env st
  kernel_rfl
noncomputable def g32k6 : Kon := kSeq (fun env st => g32b1111 (env 1) (env 4) st) (g32kr)
noncomputable def g32k7 : Kon := kBlk 0 (g32k6)
noncomputable def g32b111010 : Nat → V → V → V → St → Res
| 0, _, _, _, _ => none
| n + 1, x1, x4, x5, st =>
 A.faddr 3 x1 fun a1 =>
 A.load false 1 a1 st fun a2 z3 =>
 A.lenL a2 fun a4 =>
 A.bin .lss x5 a4 fun a5 =>
 A.cond a5
 (A.faddr 3 x1 fun a6 =>
 A.load false 1 a6 z3 fun a7 z8 =>
 A.iaddr 1 a7 x5 fun a9 =>
 A.load false 1 a9 z8 fun a10 z11 =>
 A.ret (s50 [a10.er1] z11) fun a12 z13 =>
 A.bin .add x4 a12 fun a14 =>
 A.bin .add x5 (.int .i64 1) fun a15 =>
 (g32b111010 n) x1 a14 a15 z13)
 (g32b1111 x1 x4 z3)
theorem g32n111010 : g32C [1, 1, 1, 0, 1, 0] = .loop (g32C [1, 1, 1, 0, 1, 0, 0]) := by kernel_rfl
noncomputable def g32k8 (L111010 : V → V → V → St → Res) : Kon := kSeq (fun env st => L111010 (env 1) (env 4) (env 5) st) (g32k7)
theorem g32e111010 : g32X (g32C [1, 1, 1, 0, 1, 0]) (g32k7) = fun env st => g32b111010 big (env 1) (env 4) (env 5) st := by
  have key : ∀ n, aloop (g32X (g32C [1, 1, 1, 0, 1, 0, 0])) (g32k7) n = fun env st => g32b111010 n (env 1) (env 4) (env 5) st := by
    intro n
    induction n with
    | zero => rfl
    | succ n ih =>
      have h : aloop (g32X (g32C [1, 1, 1, 0, 1, 0, 0])) (g32k7) (n + 1) = g32X (g32C [1, 1, 1, 0, 1, 0, 0]) (kSeq (aloop (g32X (g32C [1, 1, 1, 0, 1, 0, 0])) (g32k7) n) (g32k7)) := rfl
      rw [h, ih]
      refine Eq.trans (Eq.refl _) ?_
      funext env st
      kernel_rfl
  exact (g32loop g32n111010).trans (key big)
noncomputable def g32b111 (x1 : V) (x4 : V) (st : St) : Res :=
 g32b111010 big x1 x4 (.int .i64 0) st
theorem g32n111 : g32C [1, 1, 1] = .seq (g32C [1, 1, 1, 0]) (g32C [1, 1, 1, 1]) := by kernel_rfl
theorem g32n1110 : g32C [1, 1, 1, 0] = .seq (g32C [1, 1, 1, 0, 0]) (g32C [1, 1, 1, 0, 1]) := by kernel_rfl
theorem g32n11101 : g32C [1, 1, 1, 0, 1] = .block 0 (g32C [1, 1, 1, 0, 1, 0]) := by kernel_rfl
theorem g32e111 : g32X (g32C [1, 1, 1]) (g32kr) = fun env st => g32b111 (env 1) (env 4) st := by
  refine Eq.trans ((g32seq g32n111 (g32e1111)).trans (g32seq g32n1110 ((g32blk g32n11101).trans (g32e111010)))) ?_
  funext env st
  kernel_rfl
noncomputable def f32 (x0 : V) (st : St) : Res :=
 A.box x0 st fun a1 z2 =>
 A.load true 4 a1 z2 fun a3 z4 =>
 A.ret (s42 [a3.er1] z4) fun a5 z6 =>
 A.un .not a5 fun a7 =>
 A.cond a7
 (some (.ret (.tup [((.str []) : V).er1, ((.bool false) : V).er1]), z6))
 (A.faddr 2 a1 fun a8 =>
 A.load false 1 a8 z6 fun a9 z10 =>
 A.ret (s50 [a9.er1] z10) fun a11 z12 =>
 g32b111 a1 a11 z12)
theorem g32nr : g32C [] = .seq (g32C [0]) (g32C [1]) := by kernel_rfl
theorem g32n1 : g32C [1] = .seq (g32C [1, 0]) (g32C [1, 1]) := by kernel_rfl
theorem g32n11 : g32C [1, 1] = .seq (g32C [1, 1, 0]) (g32C [1, 1, 1]) := by kernel_rfl
theorem g32er (env : Env) (st : St) : g32X (g32C []) g32kr env st = f32 (env 0) st := by
  rw [(g32seq g32nr (g32seq g32n1 (g32seq g32n11 (g32e111))))]
  kernel_rfl
theorem s32_eq (x0 : V) (st : St) : s32 [x0] st = fg (f32 x0 st) st := by
  have h : afn Try.prog g32mu g32T big (areg Try.prog g32mu g32T) 32 [x0] st = g32X (g32C []) g32kr (fun t => [x0].getD t (.tup [])) st := by kernel_rfl
  rw [s32, sealF_eq]
  show fg _ st = fg _ st
  refine congrArg (fun r => fg r st) ?_
  exact h.trans (g32er _ st)
/-! sinew/sinewref03.four -/
def g33mu : Nat → Bool := fun _ => false
noncomputable def g33T : Tbl := tget []
theorem g33t : SimT Try.prog g33T := simT_nil
noncomputable def s33 : Fn := sealF (afn Try.prog g33mu g33T big (areg Try.prog g33mu g33T) 33)
theorem sim33 : Sim Try.prog 33 s33 := (afn_sim g33t (fun m => areg_sound g33t hmix m) 33 (by kernel_rfl)).sealed
noncomputable def f33 (x0 : V) (st : St) : Res :=
 A.bin .shr x0 (.int .u64 24) fun a1 =>
 A.bin .and a1 (.int .i64 255) fun a2 =>
 A.toInt .u8 a2 fun a3 =>
 A.bin .shr x0 (.int .u64 16) fun a4 =>
 A.bin .and a4 (.int .i64 255) fun a5 =>
 A.toInt .u8 a5 fun a6 =>
 A.bin .shr x0 (.int .u64 8) fun a7 =>
 A.bin .and a7 (.int .i64 255) fun a8 =>
 A.toInt .u8 a8 fun a9 =>
 A.bin .and x0 (.int .i64 255) fun a10 =>
 A.toInt .u8 a10 fun a11 =>
 A.bslice 1 (.int .u8 0) 4 [(0, a3), (1, a6), (2, a9), (3, a11)] fun a12 =>
 A.toStr a12 st fun a13 =>
 some (.ret a13.er1, st)
theorem s33_eq (x0 : V) (st : St) : s33 [x0] st = f33 x0 st := by
  rw [s33, sealF_eq]
  kernel_rfl
/-! sinew/sinewref03.Pack -/
def g19mu : Nat → Bool := fun _ => false
noncomputable def g19T : Tbl := tget [(26, s26), (32, s32), (33, s33)]
theorem g19t : SimT Try.prog g19T := simT_cons sim26 ( simT_cons sim32 ( simT_cons sim33 (simT_nil)))
noncomputable def s19 : Fn := sealF (fun args st => fg (afn Try.prog g19mu g19T big (areg Try.prog g19mu g19T) 19 args st) st)
theorem sim19 : Sim Try.prog 19 s19 := (afn_sim g19t (fun m => areg_sound g19t hmix m) 19 (by kernel_rfl)).fg.sealed
noncomputable def g19C (p : List Nat) : Code := sub (match Try.f19.body with | some c => c | none => .skip) p
noncomputable def g19X (c : Code) (K : Kon) : Env → St → Res := aexec Try.prog g19mu g19T big 22 (areg Try.prog g19mu g19T 22) c K
noncomputable def g19kr : Kon := aresK Try.prog Try.f19.results.toList
theorem g19reg {c : Code} {K : Kon} {G : Env → St → Res} {id : Nat} {ops : Array Oper} {l1 l2 : List Nat} (hc : c = .region id ops false) (hl : List.range ops.size = l1 ++ l2) (h : (fun env st => aops Try.prog g19mu g19T 22 ops l2 env st (K .normal)) = G) : g19X c K = fun env st => aops Try.prog g19mu g19T 22 ops l1 env st G := reg_cut hc hl h
theorem g19seq {c x y : Code} {K : Kon} {G : Env → St → Res} (hc : c = .seq x y) (hy : g19X y K = G) : g19X c K = g19X x (kSeq G K) := seq_cut hc hy
theorem g19blk {c x : Code} {K : Kon} {i : Nat} (hc : c = .block i x) : g19X c K = g19X x (kBlk i K) := blk_cut hc
theorem g19loop {c x : Code} {K : Kon} (hc : c = .loop x) : g19X c K = aloop (g19X x) K big := loop_cut hc
theorem g19cond {c x y : Code} {K : Kon} {v : Operand} {F G : Env → St → Res} (hc : c = .cond v x y) (hx : g19X x K = F) (hy : g19X y K = G) : g19X c K = condF v F G := cond_cut hc hx hy
noncomputable def g19b111 (x4 : V) (st : St) : Res :=
 A.lenS x4 fun a1 =>
 A.ret (s33 [a1.er1] st) fun a2 z3 =>
 A.ret (s26 [x4.er1] z3) fun a4 z5 =>
 A.ret (s33 [a4.er1] z5) fun a6 z7 =>
 A.bin .add a2 a6 fun a8 =>
 A.bin .add a8 x4 fun a9 =>
 some (.ret (.tup [a9.er1, ((.int .i64 0) : V).er1]), z7)
theorem g19e111 : g19X (g19C [1, 1, 1]) (g19kr) = fun env st => g19b111 (env 4) st := by
  refine Eq.trans (Eq.refl (g19X (g19C [1, 1, 1]) (g19kr))) ?_
  funext env st
  kernel_rfl
noncomputable def f19 (x0 : V) (st : St) : Res :=
 A.box x0 st fun a1 z2 =>
 A.load true 4 a1 z2 fun a3 z4 =>
 A.ret (s32 [a3.er1] z4) fun a5 z6 =>
 A.ext a5 0 fun a7 =>
 A.ext a5 1 fun a8 =>
 A.un .not a8 fun a9 =>
 A.cond a9
 (some (.ret (.tup [((.str []) : V).er1, ((.int .i64 1) : V).er1]), z6))
 (g19b111 a7 z6)
theorem g19nr : g19C [] = .seq (g19C [0]) (g19C [1]) := by kernel_rfl
theorem g19n1 : g19C [1] = .seq (g19C [1, 0]) (g19C [1, 1]) := by kernel_rfl
theorem g19n11 : g19C [1, 1] = .seq (g19C [1, 1, 0]) (g19C [1, 1, 1]) := by kernel_rfl
theorem g19er (env : Env) (st : St) : g19X (g19C []) g19kr env st = f19 (env 0) st := by
  rw [(g19seq g19nr (g19seq g19n1 (g19seq g19n11 (g19e111))))]
  kernel_rfl
theorem s19_eq (x0 : V) (st : St) : s19 [x0] st = fg (f19 x0 st) st := by
  have h : afn Try.prog g19mu g19T big (areg Try.prog g19mu g19T) 19 [x0] st = g19X (g19C []) g19kr (fun t => [x0].getD t (.tup [])) st := by kernel_rfl
  rw [s19, sealF_eq]
  show fg _ st = fg _ st
  refine congrArg (fun r => fg r st) ?_
  exact h.trans (g19er _ st)
/-! sinew/wire.Check -/
def g20mu : Nat → Bool := fun _ => false
noncomputable def g20T : Tbl := tget [(30, s30)]
theorem g20t : SimT Try.prog g20T := simT_cons sim30 (simT_nil)
noncomputable def s20 : Fn := sealF (fun args st => fg (afn Try.prog g20mu g20T big (areg Try.prog g20mu g20T) 20 args st) st)
theorem sim20 : Sim Try.prog 20 s20 := (afn_sim g20t (fun m => areg_sound g20t hmix m) 20 (by kernel_rfl)).fg.sealed
noncomputable def f20 (x0 : V) (st : St) : Res :=
 A.box x0 st fun a1 z2 =>
 A.load true 4 a1 z2 fun a3 z4 =>
 A.ret (s30 [a3.er1] z4) fun a5 z6 =>
 A.ext a5 0 fun a7 =>
 A.ext a5 1 fun a8 =>
 some (.ret a8.er1, z6)
theorem s20_eq (x0 : V) (st : St) : s20 [x0] st = fg (f20 x0 st) st := by
  rw [s20, sealF_eq]
  show fg _ st = fg _ st
  refine congrArg (fun r => fg r st) ?_
  kernel_rfl
/-! sinew/sinewref03.Check -/
def g21mu : Nat → Bool := fun _ => false
noncomputable def g21T : Tbl := tget [(32, s32)]
theorem g21t : SimT Try.prog g21T := simT_cons sim32 (simT_nil)
noncomputable def s21 : Fn := sealF (fun args st => fg (afn Try.prog g21mu g21T big (areg Try.prog g21mu g21T) 21 args st) st)
theorem sim21 : Sim Try.prog 21 s21 := (afn_sim g21t (fun m => areg_sound g21t hmix m) 21 (by kernel_rfl)).fg.sealed
noncomputable def f21 (x0 : V) (st : St) : Res :=
 A.box x0 st fun a1 z2 =>
 A.load true 4 a1 z2 fun a3 z4 =>
 A.ret (s32 [a3.er1] z4) fun a5 z6 =>
 A.ext a5 0 fun a7 =>
 A.ext a5 1 fun a8 =>
 A.un .not a8 fun a9 =>
 A.cond a9
 (some (.ret ((.int .i64 1) : V).er1, z6))
 (some (.ret ((.int .i64 0) : V).er1, z6))
theorem s21_eq (x0 : V) (st : St) : s21 [x0] st = fg (f21 x0 st) st := by
  rw [s21, sealF_eq]
  show fg _ st = fg _ st
  refine congrArg (fun r => fg r st) ?_
  kernel_rfl
/-! sinew/sinewlaw03.WirePacks -/
def g8mu : Nat → Bool := fun _ => false
noncomputable def g8T : Tbl := tget [(10, s10), (11, s11), (15, s15), (17, s17), (18, s18), (19, s19), (20, s20), (21, s21)]
theorem g8t : SimT Try.prog g8T := simT_cons sim10 ( simT_cons sim11 ( simT_cons sim15 ( simT_cons sim17 ( simT_cons sim18 ( simT_cons sim19 ( simT_cons sim20 ( simT_cons sim21 (simT_nil))))))))
noncomputable def s8 : Fn := sealF (afn Try.prog g8mu g8T big (areg Try.prog g8mu g8T) 8)
theorem sim8 : Sim Try.prog 8 s8 := (afn_sim g8t (fun m => areg_sound g8t hmix m) 8 (by kernel_rfl)).sealed
noncomputable def g8C (p : List Nat) : Code := sub (match Try.f8.body with | some c => c | none => .skip) p
noncomputable def g8X (c : Code) (K : Kon) : Env → St → Res := aexec Try.prog g8mu g8T big 73 (areg Try.prog g8mu g8T 73) c K
noncomputable def g8kr : Kon := aresK Try.prog Try.f8.results.toList
theorem g8reg {c : Code} {K : Kon} {G : Env → St → Res} {id : Nat} {ops : Array Oper} {l1 l2 : List Nat} (hc : c = .region id ops false) (hl : List.range ops.size = l1 ++ l2) (h : (fun env st => aops Try.prog g8mu g8T 73 ops l2 env st (K .normal)) = G) : g8X c K = fun env st => aops Try.prog g8mu g8T 73 ops l1 env st G := reg_cut hc hl h
theorem g8seq {c x y : Code} {K : Kon} {G : Env → St → Res} (hc : c = .seq x y) (hy : g8X y K = G) : g8X c K = g8X x (kSeq G K) := seq_cut hc hy
theorem g8blk {c x : Code} {K : Kon} {i : Nat} (hc : c = .block i x) : g8X c K = g8X x (kBlk i K) := blk_cut hc
theorem g8loop {c x : Code} {K : Kon} (hc : c = .loop x) : g8X c K = aloop (g8X x) K big := loop_cut hc
theorem g8cond {c x y : Code} {K : Kon} {v : Operand} {F G : Env → St → Res} (hc : c = .cond v x y) (hx : g8X x K = F) (hy : g8X y K = G) : g8X c K = condF v F G := cond_cut hc hx hy
noncomputable def g8k0 : Kon := kSeq (g8X (g8C [1, 1, 1, 1, 1, 1, 1, 1]) (g8kr)) (g8kr)
noncomputable def g8b11111110_10 (x11 : V) (x66 : V) (st : St) : Res :=
 A.guard x66 true
 (A.eql 2 false x11 (.int .i64 0) fun a1 =>
 A.guard a1 true
 (A.ret (s10 [] st) fun a2 z3 =>
 some (.ret a2.er1, z3))
 (some (.ret ((.bool false) : V).er1, st)))
 (some (.ret ((.bool false) : V).er1, st))
theorem g8e11111110_10 : (fun env st => aops Try.prog g8mu g8T 73 (rops (g8C [1, 1, 1, 1, 1, 1, 1, 0])) [10, 11, 12, 13, 14, 15, 16] env st ((g8k0) .normal)) = fun env st => g8b11111110_10 (env 11) (env 66) st := by
  refine Eq.trans (Eq.refl _) ?_
  funext env st
  kernel_rfl
noncomputable def g8b1111111 (x2 : V) (x5 : V) (x9 : V) (x10 : V) (x11 : V) (st : St) : Res :=
 A.load true 4 x2 st fun a1 z2 =>
 A.load true 4 x9 z2 fun a3 z4 =>
 A.ret (s15 [a1.er1, a3.er1] z4) fun a5 z6 =>
 A.guard a5 true
 (A.lenS x5 fun a7 =>
 A.eql 2 false x10 a7 fun a8 =>
 g8b11111110_10 x11 a8 z6)
 (g8b11111110_10 x11 (.bool false) z6)
theorem g8n1111111 : g8C [1, 1, 1, 1, 1, 1, 1] = .seq (g8C [1, 1, 1, 1, 1, 1, 1, 0]) (g8C [1, 1, 1, 1, 1, 1, 1, 1]) := by kernel_rfl
theorem g8rg11111110 : g8C [1, 1, 1, 1, 1, 1, 1, 0] = .region 10 (rops (g8C [1, 1, 1, 1, 1, 1, 1, 0])) false := by kernel_rfl
theorem g8rg11111110l : List.range (rops (g8C [1, 1, 1, 1, 1, 1, 1, 0])).size = [0, 1, 2, 3, 4, 5, 6, 7, 8, 9] ++ [10, 11, 12, 13, 14, 15, 16] := by kernel_rfl
theorem g8e1111111 : g8X (g8C [1, 1, 1, 1, 1, 1, 1]) (g8kr) = fun env st => g8b1111111 (env 2) (env 5) (env 9) (env 10) (env 11) st := by
  refine Eq.trans ((g8seq g8n1111111 rfl).trans (g8reg g8rg11111110 g8rg11111110l (g8e11111110_10))) ?_
  funext env st
  kernel_rfl
noncomputable def g8b11111 (x1 : V) (x2 : V) (x5 : V) (x8 : V) (st : St) : Res :=
 A.eql 2 true x8 (.int .i64 0) fun a1 =>
 A.cond a1
 (A.ret (s10 [] st) fun a2 z3 =>
 some (.ret a2.er1, z3))
 (A.bin .add x5 x1 fun a4 =>
 A.ret (s11 [a4.er1] st) fun a5 z6 =>
 A.ext a5 0 fun a7 =>
 A.ext a5 1 fun a8 =>
 A.ext a5 2 fun a9 =>
 A.box (.agg [(.int .i64 0), (.lst [] 1), (.lst [] 1), (.lst [] 1)]) z6 fun a10 z11 =>
 A.store 4 a10 a7 z11 fun z12 =>
 g8b1111111 x2 x5 a10 a8 a9 z12)
theorem g8n11111 : g8C [1, 1, 1, 1, 1] = .seq (g8C [1, 1, 1, 1, 1, 0]) (g8C [1, 1, 1, 1, 1, 1]) := by kernel_rfl
theorem g8n111111 : g8C [1, 1, 1, 1, 1, 1] = .seq (g8C [1, 1, 1, 1, 1, 1, 0]) (g8C [1, 1, 1, 1, 1, 1, 1]) := by kernel_rfl
theorem g8e11111 : g8X (g8C [1, 1, 1, 1, 1]) (g8kr) = fun env st => g8b11111 (env 1) (env 2) (env 5) (env 8) st := by
  refine Eq.trans (g8seq g8n11111 (g8seq g8n111111 (g8e1111111))) ?_
  funext env st
  kernel_rfl
noncomputable def g8b1111 (x1 : V) (x2 : V) (x5 : V) (x6 : V) (x7 : V) (x8 : V) (st : St) : Res :=
 A.eql 3 true x5 x7 fun a1 =>
 A.guard a1 false
 (A.eql 2 true x6 x8 fun a2 =>
 A.guard a2 false
 (A.load true 4 x2 st fun a3 _ =>
 A.noP (A.ret (s20 [a3.er1] st) kid) fun a4 z5 =>
 A.load true 4 x2 z5 fun a6 _ =>
 A.chk (ldv true 4 x2 st) a6
 (A.noP (A.ret (s21 [a6.er1] z5) kid) fun a7 z8 =>
 A.eql 2 true a4 a7 fun a9 =>
 A.cond a9
 (some (.ret ((.bool false) : V).er1, z8))
 (g8b11111 x1 x2 x5 x8 z8)))
 (some (.ret ((.bool false) : V).er1, st)))
 (some (.ret ((.bool false) : V).er1, st))
theorem g8n1111 : g8C [1, 1, 1, 1] = .seq (g8C [1, 1, 1, 1, 0]) (g8C [1, 1, 1, 1, 1]) := by kernel_rfl
theorem g8e1111 : g8X (g8C [1, 1, 1, 1]) (g8kr) = fun env st => g8b1111 (env 1) (env 2) (env 5) (env 6) (env 7) (env 8) st := by
  refine Eq.trans (g8seq g8n1111 (g8e11111)) ?_
  funext env st
  kernel_rfl
noncomputable def g8b11 (x1 : V) (x2 : V) (st : St) : Res :=
 A.load true 4 x2 st fun a1 z2 =>
 A.ret (s18 [a1.er1] z2) fun a3 z4 =>
 A.ext a3 0 fun a5 =>
 A.ext a3 1 fun a6 =>
 A.load true 4 x2 z4 fun a7 z8 =>
 A.ret (s19 [a7.er1] z8) fun a9 z10 =>
 A.ext a9 0 fun a11 =>
 A.ext a9 1 fun a12 =>
 g8b1111 x1 x2 a5 a6 a11 a12 z10
theorem g8n11 : g8C [1, 1] = .seq (g8C [1, 1, 0]) (g8C [1, 1, 1]) := by kernel_rfl
theorem g8n111 : g8C [1, 1, 1] = .seq (g8C [1, 1, 1, 0]) (g8C [1, 1, 1, 1]) := by kernel_rfl
theorem g8e11 : g8X (g8C [1, 1]) (g8kr) = fun env st => g8b11 (env 1) (env 2) st := by
  refine Eq.trans (g8seq g8n11 (g8seq g8n111 (g8e1111))) ?_
  funext env st
  kernel_rfl
noncomputable def f8 (x0 : V) (x1 : V) (st : St) : Res :=
 A.box x0 st fun a1 z2 =>
 A.load true 4 a1 z2 fun a3 z4 =>
 A.ret (s17 [a3.er1] z4) fun a5 z6 =>
 A.un .not a5 fun a7 =>
 A.guard a7 false
 (A.lenS x1 fun a8 =>
 A.bin .gtr a8 (.int .i64 8192) fun a9 =>
 A.cond a9
 (A.ret (s10 [] z6) fun a10 z11 =>
 some (.ret a10.er1, z11))
 (g8b11 x1 a1 z6))
 (A.ret (s10 [] z6) fun a12 z13 =>
 some (.ret a12.er1, z13))
theorem g8nr : g8C [] = .seq (g8C [0]) (g8C [1]) := by kernel_rfl
theorem g8n1 : g8C [1] = .seq (g8C [1, 0]) (g8C [1, 1]) := by kernel_rfl
theorem g8er (env : Env) (st : St) : g8X (g8C []) g8kr env st = f8 (env 0) (env 1) st := by
  rw [(g8seq g8nr (g8seq g8n1 (g8e11)))]
  kernel_rfl
theorem s8_eq (x0 : V) (x1 : V) (st : St) : s8 [x0, x1] st = f8 x0 x1 st := by
  have h : afn Try.prog g8mu g8T big (areg Try.prog g8mu g8T) 8 [x0, x1] st = g8X (g8C []) g8kr (fun t => [x0, x1].getD t (.tup [])) st := by kernel_rfl
  rw [s8, sealF_eq]
  exact h.trans (g8er _ st)
/-! sinew/sinewlaw03.WireTwice -/
def g9mu : Nat → Bool := fun _ => false
noncomputable def g9T : Tbl := tget [(10, s10), (13, s13), (18, s18), (20, s20)]
theorem g9t : SimT Try.prog g9T := simT_cons sim10 ( simT_cons sim13 ( simT_cons sim18 ( simT_cons sim20 (simT_nil))))
noncomputable def s9 : Fn := sealF (afn Try.prog g9mu g9T big (areg Try.prog g9mu g9T) 9)
theorem sim9 : Sim Try.prog 9 s9 := (afn_sim g9t (fun m => areg_sound g9t hmix m) 9 (by kernel_rfl)).sealed
noncomputable def g9C (p : List Nat) : Code := sub (match Try.f9.body with | some c => c | none => .skip) p
noncomputable def g9X (c : Code) (K : Kon) : Env → St → Res := aexec Try.prog g9mu g9T big 63 (areg Try.prog g9mu g9T 63) c K
noncomputable def g9kr : Kon := aresK Try.prog Try.f9.results.toList
theorem g9reg {c : Code} {K : Kon} {G : Env → St → Res} {id : Nat} {ops : Array Oper} {l1 l2 : List Nat} (hc : c = .region id ops false) (hl : List.range ops.size = l1 ++ l2) (h : (fun env st => aops Try.prog g9mu g9T 63 ops l2 env st (K .normal)) = G) : g9X c K = fun env st => aops Try.prog g9mu g9T 63 ops l1 env st G := reg_cut hc hl h
theorem g9seq {c x y : Code} {K : Kon} {G : Env → St → Res} (hc : c = .seq x y) (hy : g9X y K = G) : g9X c K = g9X x (kSeq G K) := seq_cut hc hy
theorem g9blk {c x : Code} {K : Kon} {i : Nat} (hc : c = .block i x) : g9X c K = g9X x (kBlk i K) := blk_cut hc
theorem g9loop {c x : Code} {K : Kon} (hc : c = .loop x) : g9X c K = aloop (g9X x) K big := loop_cut hc
theorem g9cond {c x y : Code} {K : Kon} {v : Operand} {F G : Env → St → Res} (hc : c = .cond v x y) (hx : g9X x K = F) (hy : g9X y K = G) : g9X c K = condF v F G := cond_cut hc hx hy
noncomputable def g9k0 : Kon := kSeq (g9X (g9C [1, 1, 1, 1, 1, 1]) (g9kr)) (g9kr)
noncomputable def g9b111110_16 (x60 : V) (st : St) : Res :=
 A.guard x60 true
 (A.ret (s10 [] st) fun a1 z2 =>
 some (.ret a1.er1, z2))
 (some (.ret ((.bool false) : V).er1, st))
theorem g9e111110_16 : (fun env st => aops Try.prog g9mu g9T 63 (rops (g9C [1, 1, 1, 1, 1, 0])) [16, 17, 18] env st ((g9k0) .normal)) = fun env st => g9b111110_16 (env 60) st := by
  refine Eq.trans (Eq.refl _) ?_
  funext env st
  kernel_rfl
noncomputable def g9b111110_9 (x0 : V) (x4 : V) (x5 : V) (x53 : V) (st : St) : Res :=
 A.guard x53 true
 (A.sliceS x0 none (some x4) fun a1 =>
 A.eql 3 false x5 a1 fun a2 =>
 g9b111110_16 a2 st)
 (g9b111110_16 (.bool false) st)
theorem g9e111110_9 : (fun env st => aops Try.prog g9mu g9T 63 (rops (g9C [1, 1, 1, 1, 1, 0])) [9, 10, 11, 12, 13, 14, 15, 16, 17, 18] env st ((g9k0) .normal)) = fun env st => g9b111110_9 (env 0) (env 4) (env 5) (env 53) st := by
  refine Eq.trans (ops_cut (l1 := [9, 10, 11, 12, 13, 14, 15]) (l2 := [16, 17, 18]) (g9e111110_16)) ?_
  funext env st
  kernel_rfl
noncomputable def g9b11111 (x0 : V) (x4 : V) (x5 : V) (st : St) : Res :=
 A.bin .geq x4 (.int .i64 0) fun a1 =>
 A.guard a1 true
 (A.lenS x0 fun a2 =>
 A.bin .leq x4 a2 fun a3 =>
 g9b111110_9 x0 x4 x5 a3 st)
 (g9b111110_9 x0 x4 x5 (.bool false) st)
theorem g9n11111 : g9C [1, 1, 1, 1, 1] = .seq (g9C [1, 1, 1, 1, 1, 0]) (g9C [1, 1, 1, 1, 1, 1]) := by kernel_rfl
theorem g9rg111110 : g9C [1, 1, 1, 1, 1, 0] = .region 12 (rops (g9C [1, 1, 1, 1, 1, 0])) false := by kernel_rfl
theorem g9rg111110l : List.range (rops (g9C [1, 1, 1, 1, 1, 0])).size = [0, 1, 2, 3, 4, 5, 6, 7, 8] ++ [9, 10, 11, 12, 13, 14, 15, 16, 17, 18] := by kernel_rfl
theorem g9e11111 : g9X (g9C [1, 1, 1, 1, 1]) (g9kr) = fun env st => g9b11111 (env 0) (env 4) (env 5) st := by
  refine Eq.trans ((g9seq g9n11111 rfl).trans (g9reg g9rg111110 g9rg111110l (g9e111110_9))) ?_
  funext env st
  kernel_rfl
noncomputable def g9k1 : Kon := kSeq (fun env st => g9b11111 (env 0) (env 4) (env 5) st) (g9kr)
noncomputable def g9k2 : Kon := kBlk 0 (g9k1)
noncomputable def g9k3 (L1111010 : V → V → V → V → V → St → Res) : Kon := kSeq (fun env st => L1111010 (env 0) (env 3) (env 4) (env 5) (env 6) st) (g9k2)
noncomputable def g9k4 (L1111010 : V → V → V → V → V → St → Res) : Kon := kSeq (g9X (g9C [1, 1, 1, 1, 0, 1, 0, 0, 1, 1]) (g9k3 L1111010)) (g9k3 L1111010)
noncomputable def g9k5 (L1111010 : V → V → V → V → V → St → Res) : Kon := kBlk 1 (g9k4 L1111010)
noncomputable def g9b111101001001 (L1111010 : V → V → V → V → V → St → Res) (x0 : V) (x3 : V) (x4 : V) (x5 : V) (x6 : V) (x7 : V) (x8 : V) (st : St) : Res :=
 A.eql 2 true x8 (.int .i64 0) fun a1 =>
 A.guard a1 false
 (A.iaddr 4 x3 x6 fun a2 =>
 A.load true 4 a2 st fun a3 z4 =>
 A.ret (s20 [a3.er1] z4) fun a5 z6 =>
 A.eql 2 true a5 (.int .i64 0) fun a7 =>
 A.cond a7
 (some (.ret ((.bool false) : V).er1, z6))
 (A.bin .add x5 x7 fun a8 =>
 A.bin .add x6 (.int .i64 1) fun a9 =>
 L1111010 x0 x3 x4 a8 a9 z6))
 (some (.ret ((.bool false) : V).er1, st))
theorem g9e111101001001 (L1111010 : V → V → V → V → V → St → Res) : g9X (g9C [1, 1, 1, 1, 0, 1, 0, 0, 1, 0, 0, 1]) (g9k5 L1111010) = fun env st => g9b111101001001 L1111010 (env 0) (env 3) (env 4) (env 5) (env 6) (env 7) (env 8) st := by
  refine Eq.trans (Eq.refl (g9X (g9C [1, 1, 1, 1, 0, 1, 0, 0, 1, 0, 0, 1]) (g9k5 L1111010))) ?_
  funext env st
  kernel_rfl
noncomputable def g9b1111010 : Nat → V → V → V → V → V → St → Res
| 0, _, _, _, _, _, _ => none
| n + 1, x0, x3, x4, x5, x6, st =>
 A.lenL x3 fun a1 =>
 A.bin .lss x6 a1 fun a2 =>
 A.cond a2
 (A.iaddr 4 x3 x6 fun a3 =>
 A.load true 4 a3 st fun a4 z5 =>
 A.ret (s18 [a4.er1] z5) fun a6 z7 =>
 A.ext a6 0 fun a8 =>
 A.ext a6 1 fun a9 =>
 g9b111101001001 (g9b1111010 n) x0 x3 x4 x5 x6 a8 a9 z7)
 (g9b11111 x0 x4 x5 st)
theorem g9n1111010 : g9C [1, 1, 1, 1, 0, 1, 0] = .loop (g9C [1, 1, 1, 1, 0, 1, 0, 0]) := by kernel_rfl
theorem g9n11110100 : g9C [1, 1, 1, 1, 0, 1, 0, 0] = .seq (g9C [1, 1, 1, 1, 0, 1, 0, 0, 0]) (g9C [1, 1, 1, 1, 0, 1, 0, 0, 1]) := by kernel_rfl
theorem g9n111101001 : g9C [1, 1, 1, 1, 0, 1, 0, 0, 1] = .seq (g9C [1, 1, 1, 1, 0, 1, 0, 0, 1, 0]) (g9C [1, 1, 1, 1, 0, 1, 0, 0, 1, 1]) := by kernel_rfl
theorem g9n1111010010 : g9C [1, 1, 1, 1, 0, 1, 0, 0, 1, 0] = .block 1 (g9C [1, 1, 1, 1, 0, 1, 0, 0, 1, 0, 0]) := by kernel_rfl
theorem g9n11110100100 : g9C [1, 1, 1, 1, 0, 1, 0, 0, 1, 0, 0] = .seq (g9C [1, 1, 1, 1, 0, 1, 0, 0, 1, 0, 0, 0]) (g9C [1, 1, 1, 1, 0, 1, 0, 0, 1, 0, 0, 1]) := by kernel_rfl
theorem g9e1111010 : g9X (g9C [1, 1, 1, 1, 0, 1, 0]) (g9k2) = fun env st => g9b1111010 big (env 0) (env 3) (env 4) (env 5) (env 6) st := by
  have key : ∀ n, aloop (g9X (g9C [1, 1, 1, 1, 0, 1, 0, 0])) (g9k2) n = fun env st => g9b1111010 n (env 0) (env 3) (env 4) (env 5) (env 6) st := by
    intro n
    induction n with
    | zero => rfl
    | succ n ih =>
      have h : aloop (g9X (g9C [1, 1, 1, 1, 0, 1, 0, 0])) (g9k2) (n + 1) = g9X (g9C [1, 1, 1, 1, 0, 1, 0, 0]) (kSeq (aloop (g9X (g9C [1, 1, 1, 1, 0, 1, 0, 0])) (g9k2) n) (g9k2)) := rfl
      rw [h, ih]
      refine Eq.trans (g9seq g9n11110100 ((g9seq g9n111101001 rfl).trans ((g9blk g9n1111010010).trans (g9seq g9n11110100100 (g9e111101001001 (g9b1111010 n)))))) ?_
      funext env st
      kernel_rfl
  exact (g9loop g9n1111010).trans (key big)
noncomputable def g9b111 (x0 : V) (x3 : V) (x4 : V) (st : St) : Res :=
 g9b1111010 big x0 x3 x4 (.str []) (.int .i64 0) st
theorem g9n111 : g9C [1, 1, 1] = .seq (g9C [1, 1, 1, 0]) (g9C [1, 1, 1, 1]) := by kernel_rfl
theorem g9n1111 : g9C [1, 1, 1, 1] = .seq (g9C [1, 1, 1, 1, 0]) (g9C [1, 1, 1, 1, 1]) := by kernel_rfl
theorem g9n11110 : g9C [1, 1, 1, 1, 0] = .seq (g9C [1, 1, 1, 1, 0, 0]) (g9C [1, 1, 1, 1, 0, 1]) := by kernel_rfl
theorem g9n111101 : g9C [1, 1, 1, 1, 0, 1] = .block 0 (g9C [1, 1, 1, 1, 0, 1, 0]) := by kernel_rfl
theorem g9e111 : g9X (g9C [1, 1, 1]) (g9kr) = fun env st => g9b111 (env 0) (env 3) (env 4) st := by
  refine Eq.trans (g9seq g9n111 ((g9seq g9n1111 (g9e11111)).trans (g9seq g9n11110 ((g9blk g9n111101).trans (g9e1111010))))) ?_
  funext env st
  kernel_rfl
noncomputable def f9 (x0 : V) (st : St) : Res :=
 A.lenS x0 fun a1 =>
 A.bin .gtr a1 (.int .i64 8192) fun a2 =>
 A.cond a2
 (A.ret (s10 [] st) fun a3 z4 =>
 some (.ret a3.er1, z4))
 (A.ret (s13 [x0.er1] st) fun a5 z6 =>
 A.ext a5 0 fun a7 =>
 A.ext a5 1 fun a8 =>
 g9b111 x0 a7 a8 z6)
theorem g9nr : g9C [] = .seq (g9C [0]) (g9C [1]) := by kernel_rfl
theorem g9n1 : g9C [1] = .seq (g9C [1, 0]) (g9C [1, 1]) := by kernel_rfl
theorem g9n11 : g9C [1, 1] = .seq (g9C [1, 1, 0]) (g9C [1, 1, 1]) := by kernel_rfl
theorem g9er (env : Env) (st : St) : g9X (g9C []) g9kr env st = f9 (env 0) st := by
  rw [(g9seq g9nr (g9seq g9n1 (g9seq g9n11 (g9e111))))]
  kernel_rfl
theorem s9_eq (x0 : V) (st : St) : s9 [x0] st = f9 x0 st := by
  have h : afn Try.prog g9mu g9T big (areg Try.prog g9mu g9T) 9 [x0] st = g9X (g9C []) g9kr (fun t => [x0].getD t (.tup [])) st := by kernel_rfl
  rw [s9, sealF_eq]
  exact h.trans (g9er _ st)
end Go.Ab
