import Derived.Test.YtnnjfbbflfbcaaaAbForget
import Derived.Test.YtnnjfbbflfbcaaaAbB03
import Derived.Test.YtnnjfbbflfbcaaaAbR03
import Derived.Test.YtnnjfbbflfbcaaaAbR03s
namespace Go.Ab
open Go.Proofs
set_option linter.unusedVariables false
set_option maxRecDepth 100000
theorem hmix : Try.prog.follows .mixedOrders = true := by kernel_rfl
/-! sinew/wire.ofFour -/
def g22mu : Nat → Bool := fun _ => false
noncomputable def g22T : Tbl := tget []
theorem g22t : SimT Try.prog g22T := simT_nil
noncomputable def s22 : Fn := sealF (afn Try.prog g22mu g22T big (areg Try.prog g22mu g22T) 22)
theorem sim22 : Sim Try.prog 22 s22 := (afn_sim g22t (fun m => areg_sound g22t hmix m) 22 (by kernel_rfl)).sealed
noncomputable def f22 (x0 : V) (st : St) : Res :=
 A.idxS x0 (.int .i64 0) fun a1 =>
 A.toInt .i64 a1 fun a2 =>
 A.bin .shl a2 (.int .u64 24) fun a3 =>
 A.idxS x0 (.int .i64 1) fun a4 =>
 A.toInt .i64 a4 fun a5 =>
 A.bin .shl a5 (.int .u64 16) fun a6 =>
 A.bin .or a3 a6 fun a7 =>
 A.idxS x0 (.int .i64 2) fun a8 =>
 A.toInt .i64 a8 fun a9 =>
 A.bin .shl a9 (.int .u64 8) fun a10 =>
 A.bin .or a7 a10 fun a11 =>
 A.idxS x0 (.int .i64 3) fun a12 =>
 A.toInt .i64 a12 fun a13 =>
 A.bin .or a11 a13 fun a14 =>
 some (.ret a14.er1, st)
theorem s22_eq (x0 : V) (st : St) : s22 [x0] st = f22 x0 st := by
  rw [s22, sealF_eq]
  kernel_rfl
/-! sinew/check.Sum -/
def g23mu : Nat → Bool := fun _ => false
noncomputable def g23T : Tbl := tget [(34, s34)]
theorem g23t : SimT Try.prog g23T := simT_cons sim34 (simT_nil)
noncomputable def s23 : Fn := sealF (fun args st => fg (afn Try.prog g23mu g23T big (areg Try.prog g23mu g23T) 23 args st) st)
theorem sim23 : Sim Try.prog 23 s23 := (afn_sim g23t (fun m => areg_sound g23t hmix m) 23 (by kernel_rfl)).fg.sealed
noncomputable def g23C (p : List Nat) : Code := sub (match Try.f23.body with | some c => c | none => .skip) p
noncomputable def g23X (c : Code) (K : Kon) : Env → St → Res := aexec Try.prog g23mu g23T big 37 (areg Try.prog g23mu g23T 37) c K
noncomputable def g23kr : Kon := aresK Try.prog Try.f23.results.toList
theorem g23reg {c : Code} {K : Kon} {G : Env → St → Res} {id : Nat} {ops : Array Oper} {l1 l2 : List Nat} (hc : c = .region id ops false) (hl : List.range ops.size = l1 ++ l2) (h : (fun env st => aops Try.prog g23mu g23T 37 ops l2 env st (K .normal)) = G) : g23X c K = fun env st => aops Try.prog g23mu g23T 37 ops l1 env st G := reg_cut hc hl h
theorem g23seq {c x y : Code} {K : Kon} {G : Env → St → Res} (hc : c = .seq x y) (hy : g23X y K = G) : g23X c K = g23X x (kSeq G K) := seq_cut hc hy
theorem g23blk {c x : Code} {K : Kon} {i : Nat} (hc : c = .block i x) : g23X c K = g23X x (kBlk i K) := blk_cut hc
theorem g23loop {c x : Code} {K : Kon} (hc : c = .loop x) : g23X c K = aloop (g23X x) K big := loop_cut hc
theorem g23cond {c x y : Code} {K : Kon} {v : Operand} {F G : Env → St → Res} (hc : c = .cond v x y) (hx : g23X x K = F) (hy : g23X y K = G) : g23X c K = condF v F G := cond_cut hc hx hy
noncomputable def g23k0 : Kon := kSeq (g23X (g23C [1, 1, 1, 1]) (g23kr)) (g23kr)
noncomputable def g23k1 : Kon := kBlk 0 (g23k0)
noncomputable def g23k2 (L111010 : V → V → V → V → V → St → Res) : Kon := kSeq (fun env st => L111010 (env 0) (env 3) (env 4) (env 8) (env 9) st) (g23k1)
noncomputable def g23k3 (L111010 : V → V → V → V → V → St → Res) : Kon := kSeq (g23X (g23C [1, 1, 1, 0, 1, 0, 0, 1, 1, 1]) (g23k2 L111010)) (g23k2 L111010)
noncomputable def g23k4 (L111010 : V → V → V → V → V → St → Res) : Kon := kBlk 1 (g23k3 L111010)
noncomputable def g23b1110100110011 (L111010 : V → V → V → V → V → St → Res) (x0 : V) (x3 : V) (x4 : V) (x8 : V) (x9 : V) (st : St) : Res :=
 A.bin .shl x4 (.int .u64 4) fun a1 =>
 A.bin .shr x4 (.int .u64 28) fun a2 =>
 A.iaddrA 16 1 x3 a2 fun a3 =>
 A.load false 1 a3 st fun a4 z5 =>
 A.bin .xor a1 a4 fun a6 =>
 A.bin .shl a6 (.int .u64 4) fun a7 =>
 A.bin .shr a6 (.int .u64 28) fun a8 =>
 A.iaddrA 16 1 x3 a8 fun a9 =>
 A.load false 1 a9 z5 fun a10 z11 =>
 A.bin .xor a7 a10 fun a12 =>
 A.bin .add x9 (.int .i64 1) fun a13 =>
 L111010 x0 x3 a12 x8 a13 z11
theorem g23e1110100110011 (L111010 : V → V → V → V → V → St → Res) : g23X (g23C [1, 1, 1, 0, 1, 0, 0, 1, 1, 0, 0, 1, 1]) (g23k4 L111010) = fun env st => g23b1110100110011 L111010 (env 0) (env 3) (env 4) (env 8) (env 9) st := by
  refine Eq.trans (Eq.refl (g23X (g23C [1, 1, 1, 0, 1, 0, 0, 1, 1, 0, 0, 1, 1]) (g23k4 L111010))) ?_
  funext env st
  kernel_rfl
noncomputable def g23b111010 : Nat → V → V → V → V → V → St → Res
| 0, _, _, _, _, _, _ => none
| n + 1, x0, x3, x4, x8, x9, st =>
 A.bin .lss x9 x8 fun a1 =>
 A.cond a1
 (A.idxS x0 x9 fun a2 =>
 A.toInt .u32 a2 fun a3 =>
 A.bin .shl a3 (.int .u64 24) fun a4 =>
 A.bin .xor x4 a4 fun a5 =>
 g23b1110100110011 (g23b111010 n) x0 x3 a5 x8 x9 st)
 (A.un .xor x4 fun a6 =>
 A.toInt .i64 a6 fun a7 =>
 some (.ret a7.er1, st))
theorem g23n111010 : g23C [1, 1, 1, 0, 1, 0] = .loop (g23C [1, 1, 1, 0, 1, 0, 0]) := by kernel_rfl
theorem g23n1110100 : g23C [1, 1, 1, 0, 1, 0, 0] = .seq (g23C [1, 1, 1, 0, 1, 0, 0, 0]) (g23C [1, 1, 1, 0, 1, 0, 0, 1]) := by kernel_rfl
theorem g23n11101001 : g23C [1, 1, 1, 0, 1, 0, 0, 1] = .seq (g23C [1, 1, 1, 0, 1, 0, 0, 1, 0]) (g23C [1, 1, 1, 0, 1, 0, 0, 1, 1]) := by kernel_rfl
theorem g23n111010011 : g23C [1, 1, 1, 0, 1, 0, 0, 1, 1] = .seq (g23C [1, 1, 1, 0, 1, 0, 0, 1, 1, 0]) (g23C [1, 1, 1, 0, 1, 0, 0, 1, 1, 1]) := by kernel_rfl
theorem g23n1110100110 : g23C [1, 1, 1, 0, 1, 0, 0, 1, 1, 0] = .block 1 (g23C [1, 1, 1, 0, 1, 0, 0, 1, 1, 0, 0]) := by kernel_rfl
theorem g23n11101001100 : g23C [1, 1, 1, 0, 1, 0, 0, 1, 1, 0, 0] = .seq (g23C [1, 1, 1, 0, 1, 0, 0, 1, 1, 0, 0, 0]) (g23C [1, 1, 1, 0, 1, 0, 0, 1, 1, 0, 0, 1]) := by kernel_rfl
theorem g23n111010011001 : g23C [1, 1, 1, 0, 1, 0, 0, 1, 1, 0, 0, 1] = .seq (g23C [1, 1, 1, 0, 1, 0, 0, 1, 1, 0, 0, 1, 0]) (g23C [1, 1, 1, 0, 1, 0, 0, 1, 1, 0, 0, 1, 1]) := by kernel_rfl
theorem g23e111010 : g23X (g23C [1, 1, 1, 0, 1, 0]) (g23k1) = fun env st => g23b111010 big (env 0) (env 3) (env 4) (env 8) (env 9) st := by
  have key : ∀ n, aloop (g23X (g23C [1, 1, 1, 0, 1, 0, 0])) (g23k1) n = fun env st => g23b111010 n (env 0) (env 3) (env 4) (env 8) (env 9) st := by
    intro n
    induction n with
    | zero => rfl
    | succ n ih =>
      have h : aloop (g23X (g23C [1, 1, 1, 0, 1, 0, 0])) (g23k1) (n + 1) = g23X (g23C [1, 1, 1, 0, 1, 0, 0]) (kSeq (aloop (g23X (g23C [1, 1, 1, 0, 1, 0, 0])) (g23k1) n) (g23k1)) := rfl
      rw [h, ih]
      refine Eq.trans (g23seq g23n1110100 (g23seq g23n11101001 ((g23seq g23n111010011 rfl).trans ((g23blk g23n1110100110).trans (g23seq g23n11101001100 (g23seq g23n111010011001 (g23e1110100110011 (g23b111010 n)))))))) ?_
      funext env st
      kernel_rfl
  exact (g23loop g23n111010).trans (key big)
noncomputable def f23 (x0 : V) (st : St) : Res :=
 A.ret (s34 [] st) fun a1 z2 =>
 A.box (.agg [(.int .u32 0), (.int .u32 0), (.int .u32 0), (.int .u32 0), (.int .u32 0), (.int .u32 0), (.int .u32 0), (.int .u32 0), (.int .u32 0), (.int .u32 0), (.int .u32 0), (.int .u32 0), (.int .u32 0), (.int .u32 0), (.int .u32 0), (.int .u32 0)]) z2 fun a3 z4 =>
 A.store 16 a3 a1 z4 fun z5 =>
 A.lenS x0 fun a6 =>
 g23b111010 big x0 a3 (.int .u32 4294967295) a6 (.int .i64 0) z5
theorem g23nr : g23C [] = .seq (g23C [0]) (g23C [1]) := by kernel_rfl
theorem g23n1 : g23C [1] = .seq (g23C [1, 0]) (g23C [1, 1]) := by kernel_rfl
theorem g23n11 : g23C [1, 1] = .seq (g23C [1, 1, 0]) (g23C [1, 1, 1]) := by kernel_rfl
theorem g23n111 : g23C [1, 1, 1] = .seq (g23C [1, 1, 1, 0]) (g23C [1, 1, 1, 1]) := by kernel_rfl
theorem g23n1110 : g23C [1, 1, 1, 0] = .seq (g23C [1, 1, 1, 0, 0]) (g23C [1, 1, 1, 0, 1]) := by kernel_rfl
theorem g23n11101 : g23C [1, 1, 1, 0, 1] = .block 0 (g23C [1, 1, 1, 0, 1, 0]) := by kernel_rfl
theorem g23er (env : Env) (st : St) : g23X (g23C []) g23kr env st = f23 (env 0) st := by
  rw [(g23seq g23nr (g23seq g23n1 (g23seq g23n11 ((g23seq g23n111 rfl).trans (g23seq g23n1110 ((g23blk g23n11101).trans (g23e111010)))))))]
  kernel_rfl
theorem s23_eq (x0 : V) (st : St) : s23 [x0] st = fg (f23 x0 st) st := by
  have h : afn Try.prog g23mu g23T big (areg Try.prog g23mu g23T) 23 [x0] st = g23X (g23C []) g23kr (fun t => [x0].getD t (.tup [])) st := by kernel_rfl
  rw [s23, sealF_eq]
  show fg _ st = fg _ st
  refine congrArg (fun r => fg r st) ?_
  exact h.trans (g23er _ st)
/-! sinew/wire.fits$1 -/
def g54mu : Nat → Bool := fun _ => false
noncomputable def g54T : Tbl := tget []
theorem g54t : SimT Try.prog g54T := simT_nil
noncomputable def s54 : Fn := sealF (afn Try.prog g54mu g54T big (areg Try.prog g54mu g54T) 54)
theorem sim54 : Sim Try.prog 54 s54 := (afn_sim g54t (fun m => areg_sound g54t hmix m) 54 (by kernel_rfl)).sealed
noncomputable def f54 (x0 : V) (st : St) : Res :=
 A.bin .lss x0 (.int .i64 0) fun a1 =>
 A.guard a1 false
 (A.bin .gtr x0 (.int .i64 4611686018427387903) fun a2 =>
 some (.ret a2.er1, st))
 (some (.ret ((.bool true) : V).er1, st))
theorem s54_eq (x0 : V) (st : St) : s54 [x0] st = f54 x0 st := by
  rw [s54, sealF_eq]
  kernel_rfl
/-! sinew/wire.fits$2 -/
def g55mu : Nat → Bool := fun _ => false
noncomputable def g55T : Tbl := tget []
theorem g55t : SimT Try.prog g55T := simT_nil
noncomputable def s55 : Fn := sealF (afn Try.prog g55mu g55T big (areg Try.prog g55mu g55T) 55)
theorem sim55 : Sim Try.prog 55 s55 := (afn_sim g55t (fun m => areg_sound g55t hmix m) 55 (by kernel_rfl)).sealed
noncomputable def f55 (x0 : V) (st : St) : Res :=
 A.lenS x0 fun a1 =>
 A.bin .gtr a1 (.int .i64 65536) fun a2 =>
 some (.ret a2.er1, st)
theorem s55_eq (x0 : V) (st : St) : s55 [x0] st = f55 x0 st := by
  rw [s55, sealF_eq]
  kernel_rfl
/-! slices.IndexFunc[[]string,string] -/
def g63mu : Nat → Bool := fun _ => false
noncomputable def g63T : Tbl := tget [(54, s54), (55, s55)]
theorem g63t : SimT Try.prog g63T := simT_cons sim54 ( simT_cons sim55 (simT_nil))
noncomputable def s63 : Fn := sealF (afn Try.prog g63mu g63T big (areg Try.prog g63mu g63T) 63)
theorem sim63 : Sim Try.prog 63 s63 := (afn_sim g63t (fun m => areg_sound g63t hmix m) 63 (by kernel_rfl)).sealed
noncomputable def g63C (p : List Nat) : Code := sub (match Try.f63.body with | some c => c | none => .skip) p
noncomputable def g63X (c : Code) (K : Kon) : Env → St → Res := aexec Try.prog g63mu g63T big 19 (areg Try.prog g63mu g63T 19) c K
noncomputable def g63kr : Kon := aresK Try.prog Try.f63.results.toList
theorem g63reg {c : Code} {K : Kon} {G : Env → St → Res} {id : Nat} {ops : Array Oper} {l1 l2 : List Nat} (hc : c = .region id ops false) (hl : List.range ops.size = l1 ++ l2) (h : (fun env st => aops Try.prog g63mu g63T 19 ops l2 env st (K .normal)) = G) : g63X c K = fun env st => aops Try.prog g63mu g63T 19 ops l1 env st G := reg_cut hc hl h
theorem g63seq {c x y : Code} {K : Kon} {G : Env → St → Res} (hc : c = .seq x y) (hy : g63X y K = G) : g63X c K = g63X x (kSeq G K) := seq_cut hc hy
theorem g63blk {c x : Code} {K : Kon} {i : Nat} (hc : c = .block i x) : g63X c K = g63X x (kBlk i K) := blk_cut hc
theorem g63loop {c x : Code} {K : Kon} (hc : c = .loop x) : g63X c K = aloop (g63X x) K big := loop_cut hc
theorem g63cond {c x y : Code} {K : Kon} {v : Operand} {F G : Env → St → Res} (hc : c = .cond v x y) (hx : g63X x K = F) (hy : g63X y K = G) : g63X c K = condF v F G := cond_cut hc hx hy
noncomputable def g63k0 : Kon := kSeq (g63X (g63C [1, 1]) (g63kr)) (g63kr)
noncomputable def g63k1 : Kon := kBlk 0 (g63k0)
noncomputable def g63b1010 : Nat → V → V → V → V → St → Res
| 0, _, _, _, _, _ => none
| n + 1, x0, x1, x7, x8, st =>
 A.bin .lss x8 x7 fun a1 =>
 A.cond a1
 (A.iaddr 1 x0 x8 fun a2 =>
 A.load false 1 a2 st fun a3 z4 =>
 A.call g63T x1 [a3] z4 fun a5 z6 =>
 A.cond a5
 (some (.ret x8.er1, z6))
 (A.bin .add x8 (.int .i64 1) fun a7 =>
 (g63b1010 n) x0 x1 x7 a7 z6))
 (some (.ret ((.int .i64 (-1)) : V).er1, st))
theorem g63n1010 : g63C [1, 0, 1, 0] = .loop (g63C [1, 0, 1, 0, 0]) := by kernel_rfl
noncomputable def g63k2 (L1010 : V → V → V → V → St → Res) : Kon := kSeq (fun env st => L1010 (env 0) (env 1) (env 7) (env 8) st) (g63k1)
theorem g63e1010 : g63X (g63C [1, 0, 1, 0]) (g63k1) = fun env st => g63b1010 big (env 0) (env 1) (env 7) (env 8) st := by
  have key : ∀ n, aloop (g63X (g63C [1, 0, 1, 0, 0])) (g63k1) n = fun env st => g63b1010 n (env 0) (env 1) (env 7) (env 8) st := by
    intro n
    induction n with
    | zero => rfl
    | succ n ih =>
      have h : aloop (g63X (g63C [1, 0, 1, 0, 0])) (g63k1) (n + 1) = g63X (g63C [1, 0, 1, 0, 0]) (kSeq (aloop (g63X (g63C [1, 0, 1, 0, 0])) (g63k1) n) (g63k1)) := rfl
      rw [h, ih]
      refine Eq.trans (Eq.refl _) ?_
      funext env st
      kernel_rfl
  exact (g63loop g63n1010).trans (key big)
noncomputable def f63 (x0 : V) (x1 : V) (st : St) : Res :=
 A.lenL x0 fun a1 =>
 g63b1010 big x0 x1 a1 (.int .i64 0) st
theorem g63nr : g63C [] = .seq (g63C [0]) (g63C [1]) := by kernel_rfl
theorem g63n1 : g63C [1] = .seq (g63C [1, 0]) (g63C [1, 1]) := by kernel_rfl
theorem g63n10 : g63C [1, 0] = .seq (g63C [1, 0, 0]) (g63C [1, 0, 1]) := by kernel_rfl
theorem g63n101 : g63C [1, 0, 1] = .block 0 (g63C [1, 0, 1, 0]) := by kernel_rfl
theorem g63er (env : Env) (st : St) : g63X (g63C []) g63kr env st = f63 (env 0) (env 1) st := by
  rw [(g63seq g63nr ((g63seq g63n1 rfl).trans (g63seq g63n10 ((g63blk g63n101).trans (g63e1010)))))]
  kernel_rfl
theorem s63_eq (x0 : V) (x1 : V) (st : St) : s63 [x0, x1] st = f63 x0 x1 st := by
  have h : afn Try.prog g63mu g63T big (areg Try.prog g63mu g63T) 63 [x0, x1] st = g63X (g63C []) g63kr (fun t => [x0, x1].getD t (.tup [])) st := by kernel_rfl
  rw [s63, sealF_eq]
  exact h.trans (g63er _ st)
/-! slices.ContainsFunc[[]string,string] -/
def g56mu : Nat → Bool := fun _ => false
noncomputable def g56T : Tbl := tget [(63, s63)]
theorem g56t : SimT Try.prog g56T := simT_cons sim63 (simT_nil)
noncomputable def s56 : Fn := sealF (afn Try.prog g56mu g56T big (areg Try.prog g56mu g56T) 56)
theorem sim56 : Sim Try.prog 56 s56 := (afn_sim g56t (fun m => areg_sound g56t hmix m) 56 (by kernel_rfl)).sealed
noncomputable def f56 (x0 : V) (x1 : V) (st : St) : Res :=
 A.ret (s63 [x0.er1, x1.er1] st) fun a1 z2 =>
 A.bin .geq a1 (.int .i64 0) fun a3 =>
 some (.ret a3.er1, z2)
theorem s56_eq (x0 : V) (x1 : V) (st : St) : s56 [x0, x1] st = f56 x0 x1 st := by
  rw [s56, sealF_eq]
  kernel_rfl
/-! slices.IndexFunc[[]int,int] -/
def g64mu : Nat → Bool := fun _ => false
noncomputable def g64T : Tbl := tget [(54, s54), (55, s55)]
theorem g64t : SimT Try.prog g64T := simT_cons sim54 ( simT_cons sim55 (simT_nil))
noncomputable def s64 : Fn := sealF (afn Try.prog g64mu g64T big (areg Try.prog g64mu g64T) 64)
theorem sim64 : Sim Try.prog 64 s64 := (afn_sim g64t (fun m => areg_sound g64t hmix m) 64 (by kernel_rfl)).sealed
noncomputable def g64C (p : List Nat) : Code := sub (match Try.f64.body with | some c => c | none => .skip) p
noncomputable def g64X (c : Code) (K : Kon) : Env → St → Res := aexec Try.prog g64mu g64T big 19 (areg Try.prog g64mu g64T 19) c K
noncomputable def g64kr : Kon := aresK Try.prog Try.f64.results.toList
theorem g64reg {c : Code} {K : Kon} {G : Env → St → Res} {id : Nat} {ops : Array Oper} {l1 l2 : List Nat} (hc : c = .region id ops false) (hl : List.range ops.size = l1 ++ l2) (h : (fun env st => aops Try.prog g64mu g64T 19 ops l2 env st (K .normal)) = G) : g64X c K = fun env st => aops Try.prog g64mu g64T 19 ops l1 env st G := reg_cut hc hl h
theorem g64seq {c x y : Code} {K : Kon} {G : Env → St → Res} (hc : c = .seq x y) (hy : g64X y K = G) : g64X c K = g64X x (kSeq G K) := seq_cut hc hy
theorem g64blk {c x : Code} {K : Kon} {i : Nat} (hc : c = .block i x) : g64X c K = g64X x (kBlk i K) := blk_cut hc
theorem g64loop {c x : Code} {K : Kon} (hc : c = .loop x) : g64X c K = aloop (g64X x) K big := loop_cut hc
theorem g64cond {c x y : Code} {K : Kon} {v : Operand} {F G : Env → St → Res} (hc : c = .cond v x y) (hx : g64X x K = F) (hy : g64X y K = G) : g64X c K = condF v F G := cond_cut hc hx hy
noncomputable def g64k0 : Kon := kSeq (g64X (g64C [1, 1]) (g64kr)) (g64kr)
noncomputable def g64k1 : Kon := kBlk 0 (g64k0)
noncomputable def g64b1010 : Nat → V → V → V → V → St → Res
| 0, _, _, _, _, _ => none
| n + 1, x0, x1, x7, x8, st =>
 A.bin .lss x8 x7 fun a1 =>
 A.cond a1
 (A.iaddr 1 x0 x8 fun a2 =>
 A.load false 1 a2 st fun a3 z4 =>
 A.call g64T x1 [a3] z4 fun a5 z6 =>
 A.cond a5
 (some (.ret x8.er1, z6))
 (A.bin .add x8 (.int .i64 1) fun a7 =>
 (g64b1010 n) x0 x1 x7 a7 z6))
 (some (.ret ((.int .i64 (-1)) : V).er1, st))
theorem g64n1010 : g64C [1, 0, 1, 0] = .loop (g64C [1, 0, 1, 0, 0]) := by kernel_rfl
noncomputable def g64k2 (L1010 : V → V → V → V → St → Res) : Kon := kSeq (fun env st => L1010 (env 0) (env 1) (env 7) (env 8) st) (g64k1)
theorem g64e1010 : g64X (g64C [1, 0, 1, 0]) (g64k1) = fun env st => g64b1010 big (env 0) (env 1) (env 7) (env 8) st := by
  have key : ∀ n, aloop (g64X (g64C [1, 0, 1, 0, 0])) (g64k1) n = fun env st => g64b1010 n (env 0) (env 1) (env 7) (env 8) st := by
    intro n
    induction n with
    | zero => rfl
    | succ n ih =>
      have h : aloop (g64X (g64C [1, 0, 1, 0, 0])) (g64k1) (n + 1) = g64X (g64C [1, 0, 1, 0, 0]) (kSeq (aloop (g64X (g64C [1, 0, 1, 0, 0])) (g64k1) n) (g64k1)) := rfl
      rw [h, ih]
      refine Eq.trans (Eq.refl _) ?_
      funext env st
      kernel_rfl
  exact (g64loop g64n1010).trans (key big)
noncomputable def f64 (x0 : V) (x1 : V) (st : St) : Res :=
 A.lenL x0 fun a1 =>
 g64b1010 big x0 x1 a1 (.int .i64 0) st
theorem g64nr : g64C [] = .seq (g64C [0]) (g64C [1]) := by kernel_rfl
theorem g64n1 : g64C [1] = .seq (g64C [1, 0]) (g64C [1, 1]) := by kernel_rfl
theorem g64n10 : g64C [1, 0] = .seq (g64C [1, 0, 0]) (g64C [1, 0, 1]) := by kernel_rfl
theorem g64n101 : g64C [1, 0, 1] = .block 0 (g64C [1, 0, 1, 0]) := by kernel_rfl
theorem g64er (env : Env) (st : St) : g64X (g64C []) g64kr env st = f64 (env 0) (env 1) st := by
  rw [(g64seq g64nr ((g64seq g64n1 rfl).trans (g64seq g64n10 ((g64blk g64n101).trans (g64e1010)))))]
  kernel_rfl
theorem s64_eq (x0 : V) (x1 : V) (st : St) : s64 [x0, x1] st = f64 x0 x1 st := by
  have h : afn Try.prog g64mu g64T big (areg Try.prog g64mu g64T) 64 [x0, x1] st = g64X (g64C []) g64kr (fun t => [x0, x1].getD t (.tup [])) st := by kernel_rfl
  rw [s64, sealF_eq]
  exact h.trans (g64er _ st)
/-! slices.ContainsFunc[[]int,int] -/
def g57mu : Nat → Bool := fun _ => false
noncomputable def g57T : Tbl := tget [(64, s64)]
theorem g57t : SimT Try.prog g57T := simT_cons sim64 (simT_nil)
noncomputable def s57 : Fn := sealF (afn Try.prog g57mu g57T big (areg Try.prog g57mu g57T) 57)
theorem sim57 : Sim Try.prog 57 s57 := (afn_sim g57t (fun m => areg_sound g57t hmix m) 57 (by kernel_rfl)).sealed
noncomputable def f57 (x0 : V) (x1 : V) (st : St) : Res :=
 A.ret (s64 [x0.er1, x1.er1] st) fun a1 z2 =>
 A.bin .geq a1 (.int .i64 0) fun a3 =>
 some (.ret a3.er1, z2)
theorem s57_eq (x0 : V) (x1 : V) (st : St) : s57 [x0, x1] st = f57 x0 x1 st := by
  rw [s57, sealF_eq]
  kernel_rfl
/-! sinew/wire.fits -/
def g39mu : Nat → Bool := fun _ => false
noncomputable def g39T : Tbl := tget [(56, s56), (57, s57)]
theorem g39t : SimT Try.prog g39T := simT_cons sim56 ( simT_cons sim57 (simT_nil))
noncomputable def s39 : Fn := sealF (fun args st => fg (afn Try.prog g39mu g39T big (areg Try.prog g39mu g39T) 39 args st) st)
theorem sim39 : Sim Try.prog 39 s39 := (afn_sim g39t (fun m => areg_sound g39t hmix m) 39 (by kernel_rfl)).fg.sealed
noncomputable def g39C (p : List Nat) : Code := sub (match Try.f39.body with | some c => c | none => .skip) p
noncomputable def g39X (c : Code) (K : Kon) : Env → St → Res := aexec Try.prog g39mu g39T big 70 (areg Try.prog g39mu g39T 70) c K
noncomputable def g39kr : Kon := aresK Try.prog Try.f39.results.toList
theorem g39reg {c : Code} {K : Kon} {G : Env → St → Res} {id : Nat} {ops : Array Oper} {l1 l2 : List Nat} (hc : c = .region id ops false) (hl : List.range ops.size = l1 ++ l2) (h : (fun env st => aops Try.prog g39mu g39T 70 ops l2 env st (K .normal)) = G) : g39X c K = fun env st => aops Try.prog g39mu g39T 70 ops l1 env st G := reg_cut hc hl h
theorem g39seq {c x y : Code} {K : Kon} {G : Env → St → Res} (hc : c = .seq x y) (hy : g39X y K = G) : g39X c K = g39X x (kSeq G K) := seq_cut hc hy
theorem g39blk {c x : Code} {K : Kon} {i : Nat} (hc : c = .block i x) : g39X c K = g39X x (kBlk i K) := blk_cut hc
theorem g39loop {c x : Code} {K : Kon} (hc : c = .loop x) : g39X c K = aloop (g39X x) K big := loop_cut hc
theorem g39cond {c x y : Code} {K : Kon} {v : Operand} {F G : Env → St → Res} (hc : c = .cond v x y) (hx : g39X x K = F) (hy : g39X y K = G) : g39X c K = condF v F G := cond_cut hc hx hy
noncomputable def g39k0 : Kon := kSeq (g39X (g39C [1, 1, 1, 1, 1, 1, 1]) (g39kr)) (g39kr)
noncomputable def g39b1111110_17 (x4 : V) (x66 : V) (st : St) : Res :=
 A.guard x66 true
 (A.bin .leq x4 (.int .i64 4096) fun a1 =>
 some (.ret a1.er1, st))
 (some (.ret ((.bool false) : V).er1, st))
theorem g39e1111110_17 : (fun env st => aops Try.prog g39mu g39T 70 (rops (g39C [1, 1, 1, 1, 1, 1, 0])) [17, 18, 19, 20] env st ((g39k0) .normal)) = fun env st => g39b1111110_17 (env 4) (env 66) st := by
  refine Eq.trans (Eq.refl _) ?_
  funext env st
  kernel_rfl
noncomputable def g39b1111110_6 (x1 : V) (x4 : V) (x5 : V) (x6 : V) (x55 : V) (st : St) : Res :=
 A.guard x55 true
 (A.un .not x5 fun a1 =>
 A.guard a1 true
 (A.faddr 2 x1 fun a2 =>
 A.load false 1 a2 st fun a3 z4 =>
 A.ret (s56 [a3.er1, x6.er1] z4) fun a5 z6 =>
 A.un .not a5 fun a7 =>
 g39b1111110_17 x4 a7 z6)
 (g39b1111110_17 x4 (.bool false) st))
 (g39b1111110_17 x4 (.bool false) st)
theorem g39e1111110_6 : (fun env st => aops Try.prog g39mu g39T 70 (rops (g39C [1, 1, 1, 1, 1, 1, 0])) [6, 7, 8, 9, 10, 11, 12, 13, 14, 15, 16, 17, 18, 19, 20] env st ((g39k0) .normal)) = fun env st => g39b1111110_6 (env 1) (env 4) (env 5) (env 6) (env 55) st := by
  refine Eq.trans (ops_cut (l1 := [6, 7, 8, 9, 10, 11, 12, 13, 14, 15, 16]) (l2 := [17, 18, 19, 20]) (g39e1111110_17)) ?_
  funext env st
  kernel_rfl
noncomputable def g39b111111 (x1 : V) (x3 : V) (x4 : V) (x5 : V) (x6 : V) (st : St) : Res :=
 A.faddr 1 x1 fun a1 =>
 A.load false 1 a1 st fun a2 z3 =>
 A.ret (s57 [a2.er1, x3.er1] z3) fun a4 z5 =>
 A.un .not a4 fun a6 =>
 g39b1111110_6 x1 x4 x5 x6 a6 z5
theorem g39n111111 : g39C [1, 1, 1, 1, 1, 1] = .seq (g39C [1, 1, 1, 1, 1, 1, 0]) (g39C [1, 1, 1, 1, 1, 1, 1]) := by kernel_rfl
theorem g39rg1111110 : g39C [1, 1, 1, 1, 1, 1, 0] = .region 12 (rops (g39C [1, 1, 1, 1, 1, 1, 0])) false := by kernel_rfl
theorem g39rg1111110l : List.range (rops (g39C [1, 1, 1, 1, 1, 1, 0])).size = [0, 1, 2, 3, 4, 5] ++ [6, 7, 8, 9, 10, 11, 12, 13, 14, 15, 16, 17, 18, 19, 20] := by kernel_rfl
theorem g39e111111 : g39X (g39C [1, 1, 1, 1, 1, 1]) (g39kr) = fun env st => g39b111111 (env 1) (env 3) (env 4) (env 5) (env 6) st := by
  refine Eq.trans ((g39seq g39n111111 rfl).trans (g39reg g39rg1111110 g39rg1111110l (g39e1111110_6))) ?_
  funext env st
  kernel_rfl
noncomputable def g39k1 : Kon := kSeq (fun env st => g39b111111 (env 1) (env 3) (env 4) (env 5) (env 6) st) (g39kr)
noncomputable def g39k2 : Kon := kBlk 0 (g39k1)
noncomputable def g39b11111010 : Nat → V → V → V → V → V → V → V → V → St → Res
| 0, _, _, _, _, _, _, _, _, _ => none
| n + 1, x1, x3, x4, x5, x6, x33, x34, x35, st =>
 A.bin .lss x35 x34 fun a1 =>
 A.cond a1
 (A.iaddr 1 x33 x35 fun a2 =>
 A.load false 1 a2 st fun a3 z4 =>
 A.lenL a3 fun a5 =>
 A.bin .add x4 a5 fun a6 =>
 A.guard x5 false
 (A.ret (s56 [a3.er1, x6.er1] z4) fun a7 z8 =>
 A.bin .add x35 (.int .i64 1) fun a9 =>
 (g39b11111010 n) x1 x3 a6 a7 x6 x33 x34 a9 z8)
 (A.bin .add x35 (.int .i64 1) fun a10 =>
 (g39b11111010 n) x1 x3 a6 (.bool true) x6 x33 x34 a10 z4))
 (g39b111111 x1 x3 x4 x5 x6 st)
theorem g39n11111010 : g39C [1, 1, 1, 1, 1, 0, 1, 0] = .loop (g39C [1, 1, 1, 1, 1, 0, 1, 0, 0]) := by kernel_rfl
noncomputable def g39k3 (L11111010 : V → V → V → V → V → V → V → V → St → Res) : Kon := kSeq (fun env st => L11111010 (env 1) (env 3) (env 4) (env 5) (env 6) (env 33) (env 34) (env 35) st) (g39k2)
theorem g39e11111010 : g39X (g39C [1, 1, 1, 1, 1, 0, 1, 0]) (g39k2) = fun env st => g39b11111010 big (env 1) (env 3) (env 4) (env 5) (env 6) (env 33) (env 34) (env 35) st := by
  have key : ∀ n, aloop (g39X (g39C [1, 1, 1, 1, 1, 0, 1, 0, 0])) (g39k2) n = fun env st => g39b11111010 n (env 1) (env 3) (env 4) (env 5) (env 6) (env 33) (env 34) (env 35) st := by
    intro n
    induction n with
    | zero => rfl
    | succ n ih =>
      have h : aloop (g39X (g39C [1, 1, 1, 1, 1, 0, 1, 0, 0])) (g39k2) (n + 1) = g39X (g39C [1, 1, 1, 1, 1, 0, 1, 0, 0]) (kSeq (aloop (g39X (g39C [1, 1, 1, 1, 1, 0, 1, 0, 0])) (g39k2) n) (g39k2)) := rfl
      rw [h, ih]
      refine Eq.trans (Eq.refl _) ?_
      funext env st
      kernel_rfl
  exact (g39loop g39n11111010).trans (key big)
noncomputable def g39b1111 (x1 : V) (x3 : V) (x4 : V) (x5 : V) (st : St) : Res :=
 A.faddr 3 x1 fun a1 =>
 A.load false 1 a1 st fun a2 z3 =>
 A.lenL a2 fun a4 =>
 g39b11111010 big x1 x3 x4 x5 (.fn 55 [] []) a2 a4 (.int .i64 0) z3
theorem g39n1111 : g39C [1, 1, 1, 1] = .seq (g39C [1, 1, 1, 1, 0]) (g39C [1, 1, 1, 1, 1]) := by kernel_rfl
theorem g39n11111 : g39C [1, 1, 1, 1, 1] = .seq (g39C [1, 1, 1, 1, 1, 0]) (g39C [1, 1, 1, 1, 1, 1]) := by kernel_rfl
theorem g39n111110 : g39C [1, 1, 1, 1, 1, 0] = .seq (g39C [1, 1, 1, 1, 1, 0, 0]) (g39C [1, 1, 1, 1, 1, 0, 1]) := by kernel_rfl
theorem g39n1111101 : g39C [1, 1, 1, 1, 1, 0, 1] = .block 0 (g39C [1, 1, 1, 1, 1, 0, 1, 0]) := by kernel_rfl
theorem g39e1111 : g39X (g39C [1, 1, 1, 1]) (g39kr) = fun env st => g39b1111 (env 1) (env 3) (env 4) (env 5) st := by
  refine Eq.trans (g39seq g39n1111 ((g39seq g39n11111 (g39e111111)).trans (g39seq g39n111110 ((g39blk g39n1111101).trans (g39e11111010))))) ?_
  funext env st
  kernel_rfl
noncomputable def g39b11 (x1 : V) (st : St) : Res :=
 A.faddr 2 x1 fun a1 =>
 A.load false 1 a1 st fun a2 z3 =>
 A.lenL a2 fun a4 =>
 g39b1111 x1 (.fn 54 [] []) a4 (.bool false) z3
theorem g39n11 : g39C [1, 1] = .seq (g39C [1, 1, 0]) (g39C [1, 1, 1]) := by kernel_rfl
theorem g39n111 : g39C [1, 1, 1] = .seq (g39C [1, 1, 1, 0]) (g39C [1, 1, 1, 1]) := by kernel_rfl
theorem g39e11 : g39X (g39C [1, 1]) (g39kr) = fun env st => g39b11 (env 1) st := by
  refine Eq.trans (g39seq g39n11 (g39seq g39n111 (g39e1111))) ?_
  funext env st
  kernel_rfl
noncomputable def g39k4 : Kon := kSeq (fun env st => g39b11 (env 1) st) (g39kr)
noncomputable def g39k5 : Kon := kSeq (g39X (g39C [1, 0, 1]) (g39k4)) (g39k4)
noncomputable def g39b100_15 (x1 : V) (x23 : V) (st : St) : Res :=
 A.guard x23 false
 (A.faddr 3 x1 fun a1 =>
 A.load false 1 a1 st fun a2 z3 =>
 A.lenL a2 fun a4 =>
 A.bin .gtr a4 (.int .i64 4096) fun a5 =>
 A.cond a5
 (some (.ret ((.bool false) : V).er1, z3))
 (g39b11 x1 z3))
 (some (.ret ((.bool false) : V).er1, st))
theorem g39e100_15 : (fun env st => aops Try.prog g39mu g39T 70 (rops (g39C [1, 0, 0])) [15, 16, 17, 18, 19] env st ((g39k5) .normal)) = fun env st => g39b100_15 (env 1) (env 23) st := by
  refine Eq.trans (Eq.refl _) ?_
  funext env st
  kernel_rfl
noncomputable def g39b100_9 (x1 : V) (x17 : V) (st : St) : Res :=
 A.guard x17 false
 (A.faddr 1 x1 fun a1 =>
 A.load false 1 a1 st fun a2 z3 =>
 A.lenL a2 fun a4 =>
 A.bin .gtr a4 (.int .i64 64) fun a5 =>
 g39b100_15 x1 a5 z3)
 (g39b100_15 x1 (.bool true) st)
theorem g39e100_9 : (fun env st => aops Try.prog g39mu g39T 70 (rops (g39C [1, 0, 0])) [9, 10, 11, 12, 13, 14, 15, 16, 17, 18, 19] env st ((g39k5) .normal)) = fun env st => g39b100_9 (env 1) (env 17) st := by
  refine Eq.trans (ops_cut (l1 := [9, 10, 11, 12, 13, 14]) (l2 := [15, 16, 17, 18, 19]) (g39e100_15)) ?_
  funext env st
  kernel_rfl
noncomputable def f39 (x0 : V) (st : St) : Res :=
 A.box x0 st fun a1 z2 =>
 A.faddr 0 a1 fun a3 =>
 A.load false 1 a3 z2 fun a4 z5 =>
 A.bin .lss a4 (.int .i64 1) fun a6 =>
 A.guard a6 false
 (A.faddr 0 a1 fun a7 =>
 A.load false 1 a7 z5 fun a8 z9 =>
 A.bin .gtr a8 (.int .i64 255) fun a10 =>
 g39b100_9 a1 a10 z9)
 (g39b100_9 a1 (.bool true) z5)
theorem g39nr : g39C [] = .seq (g39C [0]) (g39C [1]) := by kernel_rfl
theorem g39n1 : g39C [1] = .seq (g39C [1, 0]) (g39C [1, 1]) := by kernel_rfl
theorem g39n10 : g39C [1, 0] = .seq (g39C [1, 0, 0]) (g39C [1, 0, 1]) := by kernel_rfl
theorem g39rg100 : g39C [1, 0, 0] = .region 1 (rops (g39C [1, 0, 0])) false := by kernel_rfl
theorem g39rg100l : List.range (rops (g39C [1, 0, 0])).size = [0, 1, 2, 3, 4, 5, 6, 7, 8] ++ [9, 10, 11, 12, 13, 14, 15, 16, 17, 18, 19] := by kernel_rfl
theorem g39er (env : Env) (st : St) : g39X (g39C []) g39kr env st = f39 (env 0) st := by
  rw [(g39seq g39nr ((g39seq g39n1 (g39e11)).trans ((g39seq g39n10 rfl).trans (g39reg g39rg100 g39rg100l (g39e100_9)))))]
  kernel_rfl
theorem s39_eq (x0 : V) (st : St) : s39 [x0] st = fg (f39 x0 st) st := by
  have h : afn Try.prog g39mu g39T big (areg Try.prog g39mu g39T) 39 [x0] st = g39X (g39C []) g39kr (fun t => [x0].getD t (.tup [])) st := by kernel_rfl
  rw [s39, sealF_eq]
  show fg _ st = fg _ st
  refine congrArg (fun r => fg r st) ?_
  exact h.trans (g39er _ st)
/-! sinew/octet.Num -/
def g36mu : Nat → Bool := fun _ => false
noncomputable def g36T : Tbl := tget []
theorem g36t : SimT Try.prog g36T := simT_nil
noncomputable def s36 : Fn := sealF (afn Try.prog g36mu g36T big (areg Try.prog g36mu g36T) 36)
theorem sim36 : Sim Try.prog 36 s36 := (afn_sim g36t (fun m => areg_sound g36t hmix m) 36 (by kernel_rfl)).sealed
noncomputable def g36C (p : List Nat) : Code := sub (match Try.f36.body with | some c => c | none => .skip) p
noncomputable def g36X (c : Code) (K : Kon) : Env → St → Res := aexec Try.prog g36mu g36T big 56 (areg Try.prog g36mu g36T 56) c K
noncomputable def g36kr : Kon := aresK Try.prog Try.f36.results.toList
theorem g36reg {c : Code} {K : Kon} {G : Env → St → Res} {id : Nat} {ops : Array Oper} {l1 l2 : List Nat} (hc : c = .region id ops false) (hl : List.range ops.size = l1 ++ l2) (h : (fun env st => aops Try.prog g36mu g36T 56 ops l2 env st (K .normal)) = G) : g36X c K = fun env st => aops Try.prog g36mu g36T 56 ops l1 env st G := reg_cut hc hl h
theorem g36seq {c x y : Code} {K : Kon} {G : Env → St → Res} (hc : c = .seq x y) (hy : g36X y K = G) : g36X c K = g36X x (kSeq G K) := seq_cut hc hy
theorem g36blk {c x : Code} {K : Kon} {i : Nat} (hc : c = .block i x) : g36X c K = g36X x (kBlk i K) := blk_cut hc
theorem g36loop {c x : Code} {K : Kon} (hc : c = .loop x) : g36X c K = aloop (g36X x) K big := loop_cut hc
theorem g36cond {c x y : Code} {K : Kon} {v : Operand} {F G : Env → St → Res} (hc : c = .cond v x y) (hx : g36X x K = F) (hy : g36X y K = G) : g36X c K = condF v F G := cond_cut hc hx hy
noncomputable def g36k0 : Kon := kSeq (g36X (g36C [1, 1, 1, 1, 1]) (g36kr)) (g36kr)
noncomputable def g36k1 : Kon := kBlk 1 (g36k0)
noncomputable def g36b1111010 : Nat → V → V → V → V → V → St → Res
| 0, _, _, _, _, _, _ => none
| n + 1, x0, x2, x5, x40, x41, st =>
 A.bin .lss x41 x40 fun a1 =>
 A.cond a1
 (A.bin .shl x2 (.int .u64 8) fun a2 =>
 A.bin .add x41 (.int .i64 1) fun a3 =>
 A.idxS x0 a3 fun a4 =>
 A.toInt .i64 a4 fun a5 =>
 A.bin .or a2 a5 fun a6 =>
 A.bin .add x41 (.int .i64 1) fun a7 =>
 (g36b1111010 n) x0 a6 x5 x40 a7 st)
 (A.bin .add x5 (.int .i64 1) fun a8 =>
 some (.ret (.tup [x2.er1, a8.er1, ((.int .i64 0) : V).er1]), st))
theorem g36n1111010 : g36C [1, 1, 1, 1, 0, 1, 0] = .loop (g36C [1, 1, 1, 1, 0, 1, 0, 0]) := by kernel_rfl
noncomputable def g36k2 (L1111010 : V → V → V → V → V → St → Res) : Kon := kSeq (fun env st => L1111010 (env 0) (env 2) (env 5) (env 40) (env 41) st) (g36k1)
theorem g36e1111010 : g36X (g36C [1, 1, 1, 1, 0, 1, 0]) (g36k1) = fun env st => g36b1111010 big (env 0) (env 2) (env 5) (env 40) (env 41) st := by
  have key : ∀ n, aloop (g36X (g36C [1, 1, 1, 1, 0, 1, 0, 0])) (g36k1) n = fun env st => g36b1111010 n (env 0) (env 2) (env 5) (env 40) (env 41) st := by
    intro n
    induction n with
    | zero => rfl
    | succ n ih =>
      have h : aloop (g36X (g36C [1, 1, 1, 1, 0, 1, 0, 0])) (g36k1) (n + 1) = g36X (g36C [1, 1, 1, 1, 0, 1, 0, 0]) (kSeq (aloop (g36X (g36C [1, 1, 1, 1, 0, 1, 0, 0])) (g36k1) n) (g36k1)) := rfl
      rw [h, ih]
      refine Eq.trans (Eq.refl _) ?_
      funext env st
      kernel_rfl
  exact (g36loop g36n1111010).trans (key big)
noncomputable def g36b1111 (x0 : V) (x2 : V) (x5 : V) (st : St) : Res :=
 g36b1111010 big x0 x2 x5 x5 (.int .i64 0) st
theorem g36n1111 : g36C [1, 1, 1, 1] = .seq (g36C [1, 1, 1, 1, 0]) (g36C [1, 1, 1, 1, 1]) := by kernel_rfl
theorem g36n11110 : g36C [1, 1, 1, 1, 0] = .seq (g36C [1, 1, 1, 1, 0, 0]) (g36C [1, 1, 1, 1, 0, 1]) := by kernel_rfl
theorem g36n111101 : g36C [1, 1, 1, 1, 0, 1] = .block 1 (g36C [1, 1, 1, 1, 0, 1, 0]) := by kernel_rfl
theorem g36e1111 : g36X (g36C [1, 1, 1, 1]) (g36kr) = fun env st => g36b1111 (env 0) (env 2) (env 5) st := by
  refine Eq.trans ((g36seq g36n1111 rfl).trans (g36seq g36n11110 ((g36blk g36n111101).trans (g36e1111010)))) ?_
  funext env st
  kernel_rfl
noncomputable def g36k3 : Kon := kSeq (fun env st => g36b1111 (env 0) (env 2) (env 5) st) (g36kr)
noncomputable def g36k4 : Kon := kSeq (g36X (g36C [1, 1, 1, 0, 1]) (g36k3)) (g36k3)
noncomputable def g36b11100_8 (x0 : V) (x2 : V) (x5 : V) (x31 : V) (st : St) : Res :=
 A.guard x31 false
 (A.eql 2 false x5 (.int .i64 8) fun a1 =>
 A.guardT a1 true
 (A.idxS x0 (.int .i64 1) fun a2 =>
 A.bin .geq a2 (.int .u8 128) fun a3 =>
 A.cond a3
 (some (.ret (.tup [((.int .i64 0) : V).er1, ((.int .i64 0) : V).er1, ((.int .i64 10) : V).er1]), st))
 (g36b1111 x0 x2 x5 st))
 (g36b1111 x0 x2 x5 st)
 (A.guardT a1 true
 (A.idxS (.tup []) (.int .i64 1) fun a4 =>
 A.bin .geq a4 (.int .u8 128) fun a5 =>
 A.cond a5
 (some (.ret (.tup [((.int .i64 0) : V).er1, ((.int .i64 0) : V).er1, ((.int .i64 10) : V).er1]), st))
 (g36b1111 x0 x2 x5 st))
 (g36b1111 x0 x2 x5 st)
 (A.guardT a1 true
 (A.bin .geq (.tup []) (.int .u8 128) fun a6 =>
 A.cond a6
 (some (.ret (.tup [((.int .i64 0) : V).er1, ((.int .i64 0) : V).er1, ((.int .i64 10) : V).er1]), st))
 (g36b1111 x0 x2 x5 st))
 (g36b1111 x0 x2 x5 st)
 (A.pick a1 (.tup []) (.bool false) fun a7 =>
 A.cond a7
 (some (.ret (.tup [((.int .i64 0) : V).er1, ((.int .i64 0) : V).er1, ((.int .i64 10) : V).er1]), st))
 (g36b1111 x0 x2 x5 st)))))
 (some (.ret (.tup [((.int .i64 0) : V).er1, ((.int .i64 0) : V).er1, ((.int .i64 10) : V).er1]), st))
theorem g36e11100_8 : (fun env st => aops Try.prog g36mu g36T 56 (rops (g36C [1, 1, 1, 0, 0])) [8, 9, 10, 11, 12, 13, 14, 15] env st ((g36k4) .normal)) = fun env st => g36b11100_8 (env 0) (env 2) (env 5) (env 31) st := by
  refine Eq.trans (Eq.refl _) ?_
  funext env st
  kernel_rfl
noncomputable def g36b11 (x0 : V) (x2 : V) (st : St) : Res :=
 A.idxS x0 (.int .i64 0) fun a1 =>
 A.toInt .i64 a1 fun a2 =>
 A.bin .gtr a2 (.int .i64 0) fun a3 =>
 A.guard a3 true
 (A.idxS x0 (.int .i64 1) fun a4 =>
 A.eql 2 false a4 (.int .u8 0) fun a5 =>
 g36b11100_8 x0 x2 a2 a5 st)
 (g36b11100_8 x0 x2 a2 (.bool false) st)
theorem g36n11 : g36C [1, 1] = .seq (g36C [1, 1, 0]) (g36C [1, 1, 1]) := by kernel_rfl
theorem g36n111 : g36C [1, 1, 1] = .seq (g36C [1, 1, 1, 0]) (g36C [1, 1, 1, 1]) := by kernel_rfl
theorem g36n1110 : g36C [1, 1, 1, 0] = .seq (g36C [1, 1, 1, 0, 0]) (g36C [1, 1, 1, 0, 1]) := by kernel_rfl
theorem g36rg11100 : g36C [1, 1, 1, 0, 0] = .region 8 (rops (g36C [1, 1, 1, 0, 0])) false := by kernel_rfl
theorem g36rg11100l : List.range (rops (g36C [1, 1, 1, 0, 0])).size = [0, 1, 2, 3, 4, 5, 6, 7] ++ [8, 9, 10, 11, 12, 13, 14, 15] := by kernel_rfl
theorem g36e11 : g36X (g36C [1, 1]) (g36kr) = fun env st => g36b11 (env 0) (env 2) st := by
  refine Eq.trans (g36seq g36n11 ((g36seq g36n111 (g36e1111)).trans ((g36seq g36n1110 rfl).trans (g36reg g36rg11100 g36rg11100l (g36e11100_8))))) ?_
  funext env st
  kernel_rfl
noncomputable def f36 (x0 : V) (st : St) : Res :=
 A.eql 3 false x0 (.str []) fun a1 =>
 A.cond a1
 (some (.ret (.tup [((.int .i64 0) : V).er1, ((.int .i64 0) : V).er1, ((.int .i64 11) : V).er1]), st))
 (A.idxS x0 (.int .i64 0) fun a2 =>
 A.bin .gtr a2 (.int .u8 8) fun a3 =>
 A.cond a3
 (some (.ret (.tup [((.int .i64 0) : V).er1, ((.int .i64 0) : V).er1, ((.int .i64 10) : V).er1]), st))
 (A.lenS x0 fun a4 =>
 A.idxS x0 (.int .i64 0) fun a5 =>
 A.toInt .i64 a5 fun a6 =>
 A.bin .leq a4 a6 fun a7 =>
 A.cond a7
 (some (.ret (.tup [((.int .i64 0) : V).er1, ((.int .i64 0) : V).er1, ((.int .i64 11) : V).er1]), st))
 (g36b11 x0 (.int .i64 0) st)))
theorem g36nr : g36C [] = .seq (g36C [0]) (g36C [1]) := by kernel_rfl
theorem g36n1 : g36C [1] = .seq (g36C [1, 0]) (g36C [1, 1]) := by kernel_rfl
theorem g36er (env : Env) (st : St) : g36X (g36C []) g36kr env st = f36 (env 0) st := by
  rw [(g36seq g36nr (g36seq g36n1 (g36e11)))]
  kernel_rfl
theorem s36_eq (x0 : V) (st : St) : s36 [x0] st = f36 x0 st := by
  have h : afn Try.prog g36mu g36T big (areg Try.prog g36mu g36T) 36 [x0] st = g36X (g36C []) g36kr (fun t => [x0].getD t (.tup [])) st := by kernel_rfl
  rw [s36, sealF_eq]
  exact h.trans (g36er _ st)
/-! sinew/wire.of$1 -/
def g35mu : Nat → Bool := fun _ => false
noncomputable def g35T : Tbl := tget [(36, s36)]
theorem g35t : SimT Try.prog g35T := simT_cons sim36 (simT_nil)
noncomputable def s35 : Fn := sealF (afn Try.prog g35mu g35T big (areg Try.prog g35mu g35T) 35)
theorem sim35 : Sim Try.prog 35 s35 := (afn_sim g35t (fun m => areg_sound g35t hmix m) 35 (by kernel_rfl)).sealed
noncomputable def g35C (p : List Nat) : Code := sub (match Try.f35.body with | some c => c | none => .skip) p
noncomputable def g35X (c : Code) (K : Kon) : Env → St → Res := aexec Try.prog g35mu g35T big 29 (areg Try.prog g35mu g35T 29) c K
noncomputable def g35kr : Kon := aresK Try.prog Try.f35.results.toList
theorem g35reg {c : Code} {K : Kon} {G : Env → St → Res} {id : Nat} {ops : Array Oper} {l1 l2 : List Nat} (hc : c = .region id ops false) (hl : List.range ops.size = l1 ++ l2) (h : (fun env st => aops Try.prog g35mu g35T 29 ops l2 env st (K .normal)) = G) : g35X c K = fun env st => aops Try.prog g35mu g35T 29 ops l1 env st G := reg_cut hc hl h
theorem g35seq {c x y : Code} {K : Kon} {G : Env → St → Res} (hc : c = .seq x y) (hy : g35X y K = G) : g35X c K = g35X x (kSeq G K) := seq_cut hc hy
theorem g35blk {c x : Code} {K : Kon} {i : Nat} (hc : c = .block i x) : g35X c K = g35X x (kBlk i K) := blk_cut hc
theorem g35loop {c x : Code} {K : Kon} (hc : c = .loop x) : g35X c K = aloop (g35X x) K big := loop_cut hc
theorem g35cond {c x y : Code} {K : Kon} {v : Operand} {F G : Env → St → Res} (hc : c = .cond v x y) (hx : g35X x K = F) (hy : g35X y K = G) : g35X c K = condF v F G := cond_cut hc hx hy
noncomputable def g35b111 (x1 : V) (x5 : V) (x6 : V) (st : St) : Res :=
 A.load false 1 x1 st fun a1 z2 =>
 A.sliceS a1 (some x6) none fun a3 =>
 A.store 1 x1 a3 z2 fun z4 =>
 some (.ret x5.er1, z4)
theorem g35e111 : g35X (g35C [1, 1, 1]) (g35kr) = fun env st => g35b111 (env 1) (env 5) (env 6) st := by
  refine Eq.trans (Eq.refl (g35X (g35C [1, 1, 1]) (g35kr))) ?_
  funext env st
  kernel_rfl
noncomputable def f35 (x0 : V) (x1 : V) (x2 : V) (st : St) : Res :=
 A.load false 1 x1 st fun a1 z2 =>
 A.ret (s36 [a1.er1] z2) fun a3 z4 =>
 A.ext a3 0 fun a5 =>
 A.ext a3 1 fun a6 =>
 A.ext a3 2 fun a7 =>
 A.load false 1 x2 z4 fun a8 z9 =>
 A.un .not a8 fun a10 =>
 A.guard a10 false
 (A.eql 2 true a7 (.int .i64 0) fun a11 =>
 A.guard a11 false
 (A.bin .gtr a5 x0 fun a12 =>
 A.cond a12
 (A.store 1 x2 (.bool false) z9 fun z13 =>
 some (.ret ((.int .i64 0) : V).er1, z13))
 (g35b111 x1 a5 a6 z9))
 (A.store 1 x2 (.bool false) z9 fun z14 =>
 some (.ret ((.int .i64 0) : V).er1, z14)))
 (A.store 1 x2 (.bool false) z9 fun z15 =>
 some (.ret ((.int .i64 0) : V).er1, z15))
theorem g35nr : g35C [] = .seq (g35C [0]) (g35C [1]) := by kernel_rfl
theorem g35n1 : g35C [1] = .seq (g35C [1, 0]) (g35C [1, 1]) := by kernel_rfl
theorem g35n11 : g35C [1, 1] = .seq (g35C [1, 1, 0]) (g35C [1, 1, 1]) := by kernel_rfl
theorem g35er (env : Env) (st : St) : g35X (g35C []) g35kr env st = f35 (env 0) (env 1) (env 2) st := by
  rw [(g35seq g35nr (g35seq g35n1 (g35seq g35n11 (g35e111))))]
  kernel_rfl
theorem s35_eq (x0 : V) (x1 : V) (x2 : V) (st : St) : s35 [x0, x1, x2] st = f35 x0 x1 x2 st := by
  have h : afn Try.prog g35mu g35T big (areg Try.prog g35mu g35T) 35 [x0, x1, x2] st = g35X (g35C []) g35kr (fun t => [x0, x1, x2].getD t (.tup [])) st := by kernel_rfl
  rw [s35, sealF_eq]
  exact h.trans (g35er _ st)
/-! sinew/octet.Str -/
def g53mu : Nat → Bool := fun _ => false
noncomputable def g53T : Tbl := tget [(36, s36)]
theorem g53t : SimT Try.prog g53T := simT_cons sim36 (simT_nil)
noncomputable def s53 : Fn := sealF (afn Try.prog g53mu g53T big (areg Try.prog g53mu g53T) 53)
theorem sim53 : Sim Try.prog 53 s53 := (afn_sim g53t (fun m => areg_sound g53t hmix m) 53 (by kernel_rfl)).sealed
noncomputable def g53C (p : List Nat) : Code := sub (match Try.f53.body with | some c => c | none => .skip) p
noncomputable def g53X (c : Code) (K : Kon) : Env → St → Res := aexec Try.prog g53mu g53T big 36 (areg Try.prog g53mu g53T 36) c K
noncomputable def g53kr : Kon := aresK Try.prog Try.f53.results.toList
theorem g53reg {c : Code} {K : Kon} {G : Env → St → Res} {id : Nat} {ops : Array Oper} {l1 l2 : List Nat} (hc : c = .region id ops false) (hl : List.range ops.size = l1 ++ l2) (h : (fun env st => aops Try.prog g53mu g53T 36 ops l2 env st (K .normal)) = G) : g53X c K = fun env st => aops Try.prog g53mu g53T 36 ops l1 env st G := reg_cut hc hl h
theorem g53seq {c x y : Code} {K : Kon} {G : Env → St → Res} (hc : c = .seq x y) (hy : g53X y K = G) : g53X c K = g53X x (kSeq G K) := seq_cut hc hy
theorem g53blk {c x : Code} {K : Kon} {i : Nat} (hc : c = .block i x) : g53X c K = g53X x (kBlk i K) := blk_cut hc
theorem g53loop {c x : Code} {K : Kon} (hc : c = .loop x) : g53X c K = aloop (g53X x) K big := loop_cut hc
theorem g53cond {c x y : Code} {K : Kon} {v : Operand} {F G : Env → St → Res} (hc : c = .cond v x y) (hx : g53X x K = F) (hy : g53X y K = G) : g53X c K = condF v F G := cond_cut hc hx hy
noncomputable def g53b111 (x0 : V) (x5 : V) (x6 : V) (st : St) : Res :=
 A.bin .add x6 x5 fun a1 =>
 A.sliceS x0 (some x6) (some a1) fun a2 =>
 A.bin .add x6 x5 fun a3 =>
 some (.ret (.tup [a2.er1, a3.er1, ((.int .i64 0) : V).er1]), st)
theorem g53e111 : g53X (g53C [1, 1, 1]) (g53kr) = fun env st => g53b111 (env 0) (env 5) (env 6) st := by
  refine Eq.trans (Eq.refl (g53X (g53C [1, 1, 1]) (g53kr))) ?_
  funext env st
  kernel_rfl
noncomputable def g53b11 (x0 : V) (x4 : V) (x5 : V) (x6 : V) (st : St) : Res :=
 A.eql 2 true x4 (.int .i64 0) fun a1 =>
 A.cond a1
 (some (.ret (.tup [((.str []) : V).er1, ((.int .i64 0) : V).er1, x4.er1]), st))
 (A.bin .gtr x5 (.int .i64 65536) fun a2 =>
 A.cond a2
 (some (.ret (.tup [((.str []) : V).er1, ((.int .i64 0) : V).er1, ((.int .i64 12) : V).er1]), st))
 (A.lenS x0 fun a3 =>
 A.bin .sub a3 x6 fun a4 =>
 A.bin .gtr x5 a4 fun a5 =>
 A.cond a5
 (some (.ret (.tup [((.str []) : V).er1, ((.int .i64 0) : V).er1, ((.int .i64 11) : V).er1]), st))
 (g53b111 x0 x5 x6 st)))
theorem g53n11 : g53C [1, 1] = .seq (g53C [1, 1, 0]) (g53C [1, 1, 1]) := by kernel_rfl
theorem g53e11 : g53X (g53C [1, 1]) (g53kr) = fun env st => g53b11 (env 0) (env 4) (env 5) (env 6) st := by
  refine Eq.trans (g53seq g53n11 (g53e111)) ?_
  funext env st
  kernel_rfl
noncomputable def f53 (x0 : V) (st : St) : Res :=
 A.ret (s36 [x0.er1] st) fun a1 z2 =>
 A.ext a1 0 fun a3 =>
 A.ext a1 1 fun a4 =>
 A.ext a1 2 fun a5 =>
 g53b11 x0 a5 a3 a4 z2
theorem g53nr : g53C [] = .seq (g53C [0]) (g53C [1]) := by kernel_rfl
theorem g53n1 : g53C [1] = .seq (g53C [1, 0]) (g53C [1, 1]) := by kernel_rfl
theorem g53er (env : Env) (st : St) : g53X (g53C []) g53kr env st = f53 (env 0) st := by
  rw [(g53seq g53nr (g53seq g53n1 (g53e11)))]
  kernel_rfl
theorem s53_eq (x0 : V) (st : St) : s53 [x0] st = f53 x0 st := by
  have h : afn Try.prog g53mu g53T big (areg Try.prog g53mu g53T) 53 [x0] st = g53X (g53C []) g53kr (fun t => [x0].getD t (.tup [])) st := by kernel_rfl
  rw [s53, sealF_eq]
  exact h.trans (g53er _ st)
end Go.Ab
