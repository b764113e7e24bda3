import Derived.Test.YtimicmlpaaohoaaAbQuiet
import Derived.Test.YtimicmlpaaohoaaAbP150
namespace Go.Ab
open Go.Proofs
set_option linter.unusedVariables false
set_option maxRecDepth 100000
/-! (*strings.Builder).String -/
def g58mu : Nat → Bool := fun _ => false
noncomputable def g58T : Tbl := tget []
theorem g58t : SimT Try.prog g58T := simT_nil
noncomputable def s58 : Fn := sealF (afn Try.prog g58mu g58T big (areg Try.prog g58mu g58T) 58)
theorem sim58 : Sim Try.prog 58 s58 := (afn_sim g58t (fun m => areg_sound g58t hmix m) 58 (by kernel_rfl)).sealed
noncomputable def f58 (x0 : V) (st : St) : Res :=
 A.nilc x0 fun a1 =>
 A.faddr 1 a1 fun a2 =>
 A.load false 1 a2 st fun a3 _ =>
 A.noP (A.sdata a3 fun v => kid v st) fun a4 z5 =>
 A.nilc x0 fun a6 =>
 A.faddr 1 a6 fun a7 =>
 A.load false 1 a7 z5 fun a8 _ =>
 A.chk (ldv false 1 a7 st) a8
 (A.lenL a8 fun a9 =>
 A.noP (A.ustr a4 a9 z5 kid) fun a10 z11 =>
 some (.ret a10.er1, z11))
theorem s58_eq (x0 : V) (st : St) : s58 [x0] st = f58 x0 st := by
  rw [s58, sealF_eq]
  kernel_rfl
/-! (*strings.Builder).WriteString -/
def g55mu : Nat → Bool := fun _ => false
noncomputable def g55T : Tbl := tget [(72, s72)]
theorem g55t : SimT Try.prog g55T := simT_cons sim72 (simT_nil)
noncomputable def s55 : Fn := sealF (afn Try.prog g55mu g55T big (areg Try.prog g55mu g55T) 55)
theorem sim55 : Sim Try.prog 55 s55 := (afn_sim g55t (fun m => areg_sound g55t hmix m) 55 (by kernel_rfl)).sealed
noncomputable def f55 (x0 : V) (x1 : V) (st : St) : Res :=
 A.ret (s72 [x0.er1] st) fun a1 z2 =>
 A.nilc x0 fun a3 =>
 A.faddr 1 a3 fun a4 =>
 A.load false 1 a4 z2 fun a5 z6 =>
 A.appB 1 a5 (elemsOf 3 1 x1 z6) z6 fun a7 z8 =>
 A.nilc x0 fun a9 =>
 A.faddr 1 a9 fun a10 =>
 A.store 1 a10 a7 z8 fun z11 =>
 A.lenS x1 fun a12 =>
 some (.ret (.tup [a12.er1, (.if0 : V).er1]), z11)
theorem s55_eq (x0 : V) (x1 : V) (st : St) : s55 [x0, x1] st = f55 x0 x1 st := by
  rw [s55, sealF_eq]
  kernel_rfl
/-! sinew/octet.PutNum -/
def g57mu : Nat → Bool := fun _ => false
noncomputable def g57T : Tbl := tget []
theorem g57t : SimT Try.prog g57T := simT_nil
noncomputable def s57 : Fn := sealF (fun args st => fg (afn Try.prog g57mu g57T big (areg Try.prog g57mu g57T) 57 args st) st)
theorem sim57 : Sim Try.prog 57 s57 := (afn_sim g57t (fun m => areg_sound g57t hmix m) 57 (by kernel_rfl)).fg.sealed
noncomputable def g57C (p : List Nat) : Code := sub (match Try.f57.body with | some c => c | none => .skip) p
noncomputable def g57X (c : Code) (K : Kon) : Env → St → Res := aexec Try.prog g57mu g57T big 29 (areg Try.prog g57mu g57T 29) c K
noncomputable def g57kr : Kon := aresK Try.prog Try.f57.results.toList
theorem g57reg {c : Code} {K : Kon} {G : Env → St → Res} {id : Nat} {ops : Array Oper} {l1 l2 : List Nat} (hc : c = .region id ops false) (hl : List.range ops.size = l1 ++ l2) (h : (fun env st => aops Try.prog g57mu g57T 29 ops l2 env st (K .normal)) = G) : g57X c K = fun env st => aops Try.prog g57mu g57T 29 ops l1 env st G := reg_cut hc hl h
theorem g57seq {c x y : Code} {K : Kon} {G : Env → St → Res} (hc : c = .seq x y) (hy : g57X y K = G) : g57X c K = g57X x (kSeq G K) := seq_cut hc hy
theorem g57blk {c x : Code} {K : Kon} {i : Nat} (hc : c = .block i x) : g57X c K = g57X x (kBlk i K) := blk_cut hc
theorem g57loop {c x : Code} {K : Kon} (hc : c = .loop x) : g57X c K = aloop (g57X x) K big := loop_cut hc
theorem g57cond {c x y : Code} {K : Kon} {v : Operand} {F G : Env → St → Res} (hc : c = .cond v x y) (hx : g57X x K = F) (hy : g57X y K = G) : g57X c K = condF v F G := cond_cut hc hx hy
noncomputable def g57k0 : Kon := kSeq (g57X (g57C [1, 1, 1, 1, 1]) (g57kr)) (g57kr)
noncomputable def g57k1 : Kon := kBlk 0 (g57k0)
noncomputable def g57bz3g : Nat → V → V → V → St → Res
| 0, _, _, _, _ => none
| n + 1, x0, x4, x5, st =>
 A.bin .gtr x0 (.int .i64 0) fun a1 =>
 A.cond a1
 (A.bin .sub x5 (.int .i64 1) fun a2 =>
 A.toInt .u8 x0 fun a3 =>
 A.iaddrA 9 1 x4 a2 fun a4 =>
 A.store 1 a4 a3 st fun z5 =>
 A.bin .shr x0 (.int .u64 8) fun a6 =>
 (g57bz3g n) a6 x4 a2 z5)
 (A.bin .sub x5 (.int .i64 1) fun a7 =>
 A.bin .sub (.int .i64 9) a7 fun a8 =>
 A.bin .sub a8 (.int .i64 1) fun a9 =>
 A.toInt .u8 a9 fun a10 =>
 A.iaddrA 9 1 x4 a7 fun a11 =>
 A.store 1 a11 a10 st fun z12 =>
 A.sliceA 9 1 x4 (some a7) none z12 fun a13 =>
 A.toStr a13 z12 fun a14 =>
 some (.ret (.tup [a14.er1, ((.int .i64 0) : V).er1]), z12))
theorem g57nz3g : g57C [1, 1, 1, 1, 0, 0] = .loop (g57C [1, 1, 1, 1, 0, 0, 0]) := by kernel_rfl
noncomputable def g57k2 (Lz3g : V → V → V → St → Res) : Kon := kSeq (fun env st => Lz3g (env 0) (env 4) (env 5) st) (g57k1)
theorem g57ez3g : g57X (g57C [1, 1, 1, 1, 0, 0]) (g57k1) = fun env st => g57bz3g big (env 0) (env 4) (env 5) st := by
  have key : ∀ n, aloop (g57X (g57C [1, 1, 1, 1, 0, 0, 0])) (g57k1) n = fun env st => g57bz3g n (env 0) (env 4) (env 5) st := by
    intro n
    induction n with
    | zero => rfl
    | succ n ih =>
      have h : aloop (g57X (g57C [1, 1, 1, 1, 0, 0, 0])) (g57k1) (n + 1) = g57X (g57C [1, 1, 1, 1, 0, 0, 0]) (kSeq (aloop (g57X (g57C [1, 1, 1, 1, 0, 0, 0])) (g57k1) n) (g57k1)) := rfl
      rw [h, ih]
      refine Eq.trans (Eq.refl _) ?_
      funext env st
      kernel_rfl
  exact (g57loop g57nz3g).trans (key big)
noncomputable def f57 (x0 : V) (st : St) : Res :=
 A.bin .lss x0 (.int .i64 0) fun a1 =>
 A.cond a1
 (some (.ret (.tup [((.str []) : V).er1, ((.int .i64 1) : V).er1]), st))
 (A.box (.agg [(.int .u8 0), (.int .u8 0), (.int .u8 0), (.int .u8 0), (.int .u8 0), (.int .u8 0), (.int .u8 0), (.int .u8 0), (.int .u8 0)]) st fun a2 z3 =>
 g57bz3g big x0 a2 (.int .i64 9) z3)
theorem g57nr : g57C [] = .seq (g57C [0]) (g57C [1]) := by kernel_rfl
theorem g57n1 : g57C [1] = .seq (g57C [1, 0]) (g57C [1, 1]) := by kernel_rfl
theorem g57n11 : g57C [1, 1] = .seq (g57C [1, 1, 0]) (g57C [1, 1, 1]) := by kernel_rfl
theorem g57n111 : g57C [1, 1, 1] = .seq (g57C [1, 1, 1, 0]) (g57C [1, 1, 1, 1]) := by kernel_rfl
theorem g57n1111 : g57C [1, 1, 1, 1] = .seq (g57C [1, 1, 1, 1, 0]) (g57C [1, 1, 1, 1, 1]) := by kernel_rfl
theorem g57n11110 : g57C [1, 1, 1, 1, 0] = .block 0 (g57C [1, 1, 1, 1, 0, 0]) := by kernel_rfl
theorem g57er (env : Env) (st : St) : g57X (g57C []) g57kr env st = f57 (env 0) st := by
  rw [(g57seq g57nr (g57seq g57n1 (g57seq g57n11 (g57seq g57n111 ((g57seq g57n1111 rfl).trans ((g57blk g57n11110).trans (g57ez3g)))))))]
  kernel_rfl
theorem s57_eq (x0 : V) (st : St) : s57 [x0] st = fg (f57 x0 st) st := by
  have h : afn Try.prog g57mu g57T big (areg Try.prog g57mu g57T) 57 [x0] st = g57X (g57C []) g57kr (fun t => [x0].getD t (.tup [])) st := by kernel_rfl
  rw [s57, sealF_eq]
  show fg _ st = fg _ st
  refine congrArg (fun r => fg r st) ?_
  exact h.trans (g57er _ st)
/-! sinew/octet.PutStr -/
def g71mu : Nat → Bool := fun _ => false
noncomputable def g71T : Tbl := tget [(57, s57)]
theorem g71t : SimT Try.prog g71T := simT_cons sim57 (simT_nil)
noncomputable def s71 : Fn := sealF (afn Try.prog g71mu g71T big (areg Try.prog g71mu g71T) 71)
theorem sim71 : Sim Try.prog 71 s71 := (afn_sim g71t (fun m => areg_sound g71t hmix m) 71 (by kernel_rfl)).sealed
noncomputable def g71C (p : List Nat) : Code := sub (match Try.f71.body with | some c => c | none => .skip) p
noncomputable def g71X (c : Code) (K : Kon) : Env → St → Res := aexec Try.prog g71mu g71T big 18 (areg Try.prog g71mu g71T 18) c K
noncomputable def g71kr : Kon := aresK Try.prog Try.f71.results.toList
theorem g71reg {c : Code} {K : Kon} {G : Env → St → Res} {id : Nat} {ops : Array Oper} {l1 l2 : List Nat} (hc : c = .region id ops false) (hl : List.range ops.size = l1 ++ l2) (h : (fun env st => aops Try.prog g71mu g71T 18 ops l2 env st (K .normal)) = G) : g71X c K = fun env st => aops Try.prog g71mu g71T 18 ops l1 env st G := reg_cut hc hl h
theorem g71seq {c x y : Code} {K : Kon} {G : Env → St → Res} (hc : c = .seq x y) (hy : g71X y K = G) : g71X c K = g71X x (kSeq G K) := seq_cut hc hy
theorem g71blk {c x : Code} {K : Kon} {i : Nat} (hc : c = .block i x) : g71X c K = g71X x (kBlk i K) := blk_cut hc
theorem g71loop {c x : Code} {K : Kon} (hc : c = .loop x) : g71X c K = aloop (g71X x) K big := loop_cut hc
theorem g71cond {c x y : Code} {K : Kon} {v : Operand} {F G : Env → St → Res} (hc : c = .cond v x y) (hx : g71X x K = F) (hy : g71X y K = G) : g71X c K = condF v F G := cond_cut hc hx hy
noncomputable def g71b111 (x0 : V) (x4 : V) (st : St) : Res :=
 A.bin .add x4 x0 fun a1 =>
 some (.ret (.tup [a1.er1, ((.int .i64 0) : V).er1]), st)
theorem g71e111 : g71X (g71C [1, 1, 1]) (g71kr) = fun env st => g71b111 (env 0) (env 4) st := by
  refine Eq.trans (Eq.refl (g71X (g71C [1, 1, 1]) (g71kr))) ?_
  funext env st
  kernel_rfl
noncomputable def f71 (x0 : V) (st : St) : Res :=
 A.lenS x0 fun a1 =>
 A.bin .gtr a1 (.int .i64 65536) fun a2 =>
 A.cond a2
 (some (.ret (.tup [((.str []) : V).er1, ((.int .i64 12) : V).er1]), st))
 (A.lenS x0 fun a3 =>
 A.ret (s57 [a3.er1] st) fun a4 z5 =>
 A.ext a4 0 fun a6 =>
 A.ext a4 1 fun a7 =>
 g71b111 x0 a6 z5)
theorem g71nr : g71C [] = .seq (g71C [0]) (g71C [1]) := by kernel_rfl
theorem g71n1 : g71C [1] = .seq (g71C [1, 0]) (g71C [1, 1]) := by kernel_rfl
theorem g71n11 : g71C [1, 1] = .seq (g71C [1, 1, 0]) (g71C [1, 1, 1]) := by kernel_rfl
theorem g71er (env : Env) (st : St) : g71X (g71C []) g71kr env st = f71 (env 0) st := by
  rw [(g71seq g71nr (g71seq g71n1 (g71seq g71n11 (g71e111))))]
  kernel_rfl
theorem s71_eq (x0 : V) (st : St) : s71 [x0] st = f71 x0 st := by
  have h : afn Try.prog g71mu g71T big (areg Try.prog g71mu g71T) 71 [x0] st = g71X (g71C []) g71kr (fun t => [x0].getD t (.tup [])) st := by kernel_rfl
  rw [s71, sealF_eq]
  exact h.trans (g71er _ st)
/-! sinew/octet.PutList -/
def g54mu : Nat → Bool := fun _ => false
noncomputable def g54T : Tbl := tget [(55, s55), (57, s57), (58, s58), (71, s71)]
theorem g54t : SimT Try.prog g54T := simT_cons sim55 ( simT_cons sim57 ( simT_cons sim58 ( simT_cons sim71 (simT_nil))))
noncomputable def s54 : Fn := sealF (fun args st => fg (afn Try.prog g54mu g54T big (areg Try.prog g54mu g54T) 54 args st) st)
theorem sim54 : Sim Try.prog 54 s54 := (afn_sim g54t (fun m => areg_sound g54t hmix m) 54 (by kernel_rfl)).fg.sealed
noncomputable def g54C (p : List Nat) : Code := sub (match Try.f54.body with | some c => c | none => .skip) p
noncomputable def g54X (c : Code) (K : Kon) : Env → St → Res := aexec Try.prog g54mu g54T big 40 (areg Try.prog g54mu g54T 40) c K
noncomputable def g54kr : Kon := aresK Try.prog Try.f54.results.toList
theorem g54reg {c : Code} {K : Kon} {G : Env → St → Res} {id : Nat} {ops : Array Oper} {l1 l2 : List Nat} (hc : c = .region id ops false) (hl : List.range ops.size = l1 ++ l2) (h : (fun env st => aops Try.prog g54mu g54T 40 ops l2 env st (K .normal)) = G) : g54X c K = fun env st => aops Try.prog g54mu g54T 40 ops l1 env st G := reg_cut hc hl h
theorem g54seq {c x y : Code} {K : Kon} {G : Env → St → Res} (hc : c = .seq x y) (hy : g54X y K = G) : g54X c K = g54X x (kSeq G K) := seq_cut hc hy
theorem g54blk {c x : Code} {K : Kon} {i : Nat} (hc : c = .block i x) : g54X c K = g54X x (kBlk i K) := blk_cut hc
theorem g54loop {c x : Code} {K : Kon} (hc : c = .loop x) : g54X c K = aloop (g54X x) K big := loop_cut hc
theorem g54cond {c x y : Code} {K : Kon} {v : Operand} {F G : Env → St → Res} (hc : c = .cond v x y) (hx : g54X x K = F) (hy : g54X y K = G) : g54X c K = condF v F G := cond_cut hc hx hy
noncomputable def g54k0 : Kon := kSeq (g54X (g54C [1, 1, 1, 1, 1, 1]) (g54kr)) (g54kr)
noncomputable def g54k1 : Kon := kBlk 0 (g54k0)
noncomputable def g54k2 (Lze2 : V → V → V → V → St → Res) : Kon := kSeq (fun env st => Lze2 (env 4) (env 22) (env 23) (env 24) st) (g54k1)
noncomputable def g54k3 (Lze2 : V → V → V → V → St → Res) : Kon := kSeq (g54X (g54C [1, 1, 1, 1, 1, 0, 1, 0, 0, 1, 1, 1]) (g54k2 Lze2)) (g54k2 Lze2)
noncomputable def g54k4 (Lze2 : V → V → V → V → St → Res) : Kon := kBlk 1 (g54k3 Lze2)
noncomputable def g54bz1e0j (Lze2 : V → V → V → V → St → Res) (x4 : V) (x9 : V) (x10 : V) (x22 : V) (x23 : V) (x24 : V) (st : St) : Res :=
 A.eql 2 true x10 (.int .i64 0) fun a1 =>
 A.cond a1
 (some (.ret (.tup [((.str []) : V).er1, x10.er1]), st))
 (A.ret (s55 [x4.er1, x9.er1] st) fun a2 z3 =>
 A.bin .add x24 (.int .i64 1) fun a4 =>
 Lze2 x4 x22 x23 a4 z3)
theorem g54ez1e0j (Lze2 : V → V → V → V → St → Res) : g54X (g54C [1, 1, 1, 1, 1, 0, 1, 0, 0, 1, 1, 0, 0, 1, 1]) (g54k4 Lze2) = fun env st => g54bz1e0j Lze2 (env 4) (env 9) (env 10) (env 22) (env 23) (env 24) st := by
  refine Eq.trans (Eq.refl (g54X (g54C [1, 1, 1, 1, 1, 0, 1, 0, 0, 1, 1, 0, 0, 1, 1]) (g54k4 Lze2))) ?_
  funext env st
  kernel_rfl
noncomputable def g54bze2 : Nat → V → V → V → V → St → Res
| 0, _, _, _, _, _ => none
| n + 1, x4, x22, x23, x24, st =>
 A.bin .lss x24 x23 fun a1 =>
 A.cond a1
 (A.iaddr 1 x22 x24 fun a2 =>
 A.load false 1 a2 st fun a3 z4 =>
 A.ret (s71 [a3.er1] z4) fun a5 z6 =>
 A.ext a5 0 fun a7 =>
 A.ext a5 1 fun a8 =>
 g54bz1e0j (g54bze2 n) x4 a7 a8 x22 x23 x24 z6)
 (A.ret (s58 [x4.er1] st) fun a9 z10 =>
 some (.ret (.tup [a9.er1, ((.int .i64 0) : V).er1]), z10))
theorem g54nze2 : g54C [1, 1, 1, 1, 1, 0, 1, 0] = .loop (g54C [1, 1, 1, 1, 1, 0, 1, 0, 0]) := by kernel_rfl
theorem g54nzs4 : g54C [1, 1, 1, 1, 1, 0, 1, 0, 0] = .seq (g54C [1, 1, 1, 1, 1, 0, 1, 0, 0, 0]) (g54C [1, 1, 1, 1, 1, 0, 1, 0, 0, 1]) := by kernel_rfl
theorem g54nz1k9 : g54C [1, 1, 1, 1, 1, 0, 1, 0, 0, 1] = .seq (g54C [1, 1, 1, 1, 1, 0, 1, 0, 0, 1, 0]) (g54C [1, 1, 1, 1, 1, 0, 1, 0, 0, 1, 1]) := by kernel_rfl
theorem g54nz34j : g54C [1, 1, 1, 1, 1, 0, 1, 0, 0, 1, 1] = .seq (g54C [1, 1, 1, 1, 1, 0, 1, 0, 0, 1, 1, 0]) (g54C [1, 1, 1, 1, 1, 0, 1, 0, 0, 1, 1, 1]) := by kernel_rfl
theorem g54nz692 : g54C [1, 1, 1, 1, 1, 0, 1, 0, 0, 1, 1, 0] = .block 1 (g54C [1, 1, 1, 1, 1, 0, 1, 0, 0, 1, 1, 0, 0]) := by kernel_rfl
theorem g54nzci4 : g54C [1, 1, 1, 1, 1, 0, 1, 0, 0, 1, 1, 0, 0] = .seq (g54C [1, 1, 1, 1, 1, 0, 1, 0, 0, 1, 1, 0, 0, 0]) (g54C [1, 1, 1, 1, 1, 0, 1, 0, 0, 1, 1, 0, 0, 1]) := by kernel_rfl
theorem g54nzp09 : g54C [1, 1, 1, 1, 1, 0, 1, 0, 0, 1, 1, 0, 0, 1] = .seq (g54C [1, 1, 1, 1, 1, 0, 1, 0, 0, 1, 1, 0, 0, 1, 0]) (g54C [1, 1, 1, 1, 1, 0, 1, 0, 0, 1, 1, 0, 0, 1, 1]) := by kernel_rfl
theorem g54eze2 : g54X (g54C [1, 1, 1, 1, 1, 0, 1, 0]) (g54k1) = fun env st => g54bze2 big (env 4) (env 22) (env 23) (env 24) st := by
  have key : ∀ n, aloop (g54X (g54C [1, 1, 1, 1, 1, 0, 1, 0, 0])) (g54k1) n = fun env st => g54bze2 n (env 4) (env 22) (env 23) (env 24) st := by
    intro n
    induction n with
    | zero => rfl
    | succ n ih =>
      have h : aloop (g54X (g54C [1, 1, 1, 1, 1, 0, 1, 0, 0])) (g54k1) (n + 1) = g54X (g54C [1, 1, 1, 1, 1, 0, 1, 0, 0]) (kSeq (aloop (g54X (g54C [1, 1, 1, 1, 1, 0, 1, 0, 0])) (g54k1) n) (g54k1)) := rfl
      rw [h, ih]
      refine Eq.trans (g54seq g54nzs4 (g54seq g54nz1k9 ((g54seq g54nz34j rfl).trans ((g54blk g54nz692).trans (g54seq g54nzci4 (g54seq g54nzp09 (g54ez1e0j (g54bze2 n)))))))) ?_
      funext env st
      kernel_rfl
  exact (g54loop g54nze2).trans (key big)
noncomputable def g54b1111 (x0 : V) (x4 : V) (x5 : V) (st : St) : Res :=
 A.ret (s55 [x4.er1, x5.er1] st) fun a1 z2 =>
 A.lenL x0 fun a3 =>
 g54bze2 big x4 x0 a3 (.int .i64 0) z2
theorem g54n1111 : g54C [1, 1, 1, 1] = .seq (g54C [1, 1, 1, 1, 0]) (g54C [1, 1, 1, 1, 1]) := by kernel_rfl
theorem g54n11111 : g54C [1, 1, 1, 1, 1] = .seq (g54C [1, 1, 1, 1, 1, 0]) (g54C [1, 1, 1, 1, 1, 1]) := by kernel_rfl
theorem g54nz3i : g54C [1, 1, 1, 1, 1, 0] = .seq (g54C [1, 1, 1, 1, 1, 0, 0]) (g54C [1, 1, 1, 1, 1, 0, 1]) := by kernel_rfl
theorem g54nz71 : g54C [1, 1, 1, 1, 1, 0, 1] = .block 0 (g54C [1, 1, 1, 1, 1, 0, 1, 0]) := by kernel_rfl
theorem g54e1111 : g54X (g54C [1, 1, 1, 1]) (g54kr) = fun env st => g54b1111 (env 0) (env 4) (env 5) st := by
  refine Eq.trans (g54seq g54n1111 ((g54seq g54n11111 rfl).trans (g54seq g54nz3i ((g54blk g54nz71).trans (g54eze2))))) ?_
  funext env st
  kernel_rfl
noncomputable def f54 (x0 : V) (st : St) : Res :=
 A.lenL x0 fun a1 =>
 A.bin .gtr a1 (.int .i64 4096) fun a2 =>
 A.cond a2
 (some (.ret (.tup [((.str []) : V).er1, ((.int .i64 12) : V).er1]), st))
 (A.newB 98 (.agg [.ptr0, (.lst [] 1)]) st fun a3 z4 =>
 A.lenL x0 fun a5 =>
 A.ret (s57 [a5.er1] z4) fun a6 z7 =>
 A.ext a6 0 fun a8 =>
 A.ext a6 1 fun a9 =>
 g54b1111 x0 a3 a8 z7)
theorem g54nr : g54C [] = .seq (g54C [0]) (g54C [1]) := by kernel_rfl
theorem g54n1 : g54C [1] = .seq (g54C [1, 0]) (g54C [1, 1]) := by kernel_rfl
theorem g54n11 : g54C [1, 1] = .seq (g54C [1, 1, 0]) (g54C [1, 1, 1]) := by kernel_rfl
theorem g54n111 : g54C [1, 1, 1] = .seq (g54C [1, 1, 1, 0]) (g54C [1, 1, 1, 1]) := by kernel_rfl
theorem g54er (env : Env) (st : St) : g54X (g54C []) g54kr env st = f54 (env 0) st := by
  rw [(g54seq g54nr (g54seq g54n1 (g54seq g54n11 (g54seq g54n111 (g54e1111)))))]
  kernel_rfl
theorem s54_eq (x0 : V) (st : St) : s54 [x0] st = fg (f54 x0 st) st := by
  have h : afn Try.prog g54mu g54T big (areg Try.prog g54mu g54T) 54 [x0] st = g54X (g54C []) g54kr (fun t => [x0].getD t (.tup [])) st := by kernel_rfl
  rw [s54, sealF_eq]
  show fg _ st = fg _ st
  refine congrArg (fun r => fg r st) ?_
  exact h.trans (g54er _ st)
/-! sinew/wire.body$1 -/
def g52mu : Nat → Bool := fun _ => false
noncomputable def g52T : Tbl := tget [(53, s53), (54, s54), (55, s55)]
theorem g52t : SimT Try.prog g52T := simT_cons sim53 ( simT_cons sim54 ( simT_cons sim55 (simT_nil)))
noncomputable def s52 : Fn := sealF (afn Try.prog g52mu g52T big (areg Try.prog g52mu g52T) 52)
theorem sim52 : Sim Try.prog 52 s52 := (afn_sim g52t (fun m => areg_sound g52t hmix m) 52 (by kernel_rfl)).sealed
noncomputable def g52C (p : List Nat) : Code := sub (match Try.f52.body with | some c => c | none => .skip) p
noncomputable def g52X (c : Code) (K : Kon) : Env → St → Res := aexec Try.prog g52mu g52T big 20 (areg Try.prog g52mu g52T 20) c K
noncomputable def g52kr : Kon := aresK Try.prog Try.f52.results.toList
theorem g52reg {c : Code} {K : Kon} {G : Env → St → Res} {id : Nat} {ops : Array Oper} {l1 l2 : List Nat} (hc : c = .region id ops false) (hl : List.range ops.size = l1 ++ l2) (h : (fun env st => aops Try.prog g52mu g52T 20 ops l2 env st (K .normal)) = G) : g52X c K = fun env st => aops Try.prog g52mu g52T 20 ops l1 env st G := reg_cut hc hl h
theorem g52seq {c x y : Code} {K : Kon} {G : Env → St → Res} (hc : c = .seq x y) (hy : g52X y K = G) : g52X c K = g52X x (kSeq G K) := seq_cut hc hy
theorem g52blk {c x : Code} {K : Kon} {i : Nat} (hc : c = .block i x) : g52X c K = g52X x (kBlk i K) := blk_cut hc
theorem g52loop {c x : Code} {K : Kon} (hc : c = .loop x) : g52X c K = aloop (g52X x) K big := loop_cut hc
theorem g52cond {c x y : Code} {K : Kon} {v : Operand} {F G : Env → St → Res} (hc : c = .cond v x y) (hx : g52X x K = F) (hy : g52X y K = G) : g52X c K = condF v F G := cond_cut hc hx hy
noncomputable def g52b1 (x0 : V) (x1 : V) (x2 : V) (st : St) : Res :=
 A.load false 1 x1 st fun a1 z2 =>
 A.un .not a1 fun a3 =>
 A.cond a3
 (A.ret (s54 [x0.er1] z2) fun a4 z5 =>
 A.ext a4 0 fun a6 =>
 A.ext a4 1 fun a7 =>
 A.ret (s55 [x2.er1, a6.er1] z5) fun a8 z9 =>
 some (.ret (.tup []), z9))
 (some (.ret (.tup []), z2))
theorem g52e1 : g52X (g52C [1]) (g52kr) = fun env st => g52b1 (env 0) (env 1) (env 2) st := by
  refine Eq.trans (Eq.refl (g52X (g52C [1]) (g52kr))) ?_
  funext env st
  kernel_rfl
noncomputable def f52 (x0 : V) (x1 : V) (x2 : V) (st : St) : Res :=
 A.load false 1 x1 st fun a1 z2 =>
 A.guard a1 false
 (A.ret (s53 [x2.er1] z2) fun a3 z4 =>
 A.bin .gtr a3 (.int .i64 1048576) fun a5 =>
 A.store 1 x1 a5 z4 fun z6 =>
 g52b1 x0 x1 x2 z6)
 (A.store 1 x1 (.bool true) z2 fun z7 =>
 g52b1 x0 x1 x2 z7)
theorem g52nr : g52C [] = .seq (g52C [0]) (g52C [1]) := by kernel_rfl
theorem g52er (env : Env) (st : St) : g52X (g52C []) g52kr env st = f52 (env 0) (env 1) (env 2) st := by
  rw [(g52seq g52nr (g52e1))]
  kernel_rfl
theorem s52_eq (x0 : V) (x1 : V) (x2 : V) (st : St) : s52 [x0, x1, x2] st = f52 x0 x1 x2 st := by
  have h : afn Try.prog g52mu g52T big (areg Try.prog g52mu g52T) 52 [x0, x1, x2] st = g52X (g52C []) g52kr (fun t => [x0, x1, x2].getD t (.tup [])) st := by kernel_rfl
  rw [s52, sealF_eq]
  exact h.trans (g52er _ st)
/-! sinew/wire.body$2 -/
def g56mu : Nat → Bool := fun _ => false
noncomputable def g56T : Tbl := tget [(55, s55), (57, s57)]
theorem g56t : SimT Try.prog g56T := simT_cons sim55 ( simT_cons sim57 (simT_nil))
noncomputable def s56 : Fn := sealF (afn Try.prog g56mu g56T big (areg Try.prog g56mu g56T) 56)
theorem sim56 : Sim Try.prog 56 s56 := (afn_sim g56t (fun m => areg_sound g56t hmix m) 56 (by kernel_rfl)).sealed
noncomputable def f56 (x0 : V) (x1 : V) (st : St) : Res :=
 A.ret (s57 [x0.er1] st) fun a1 z2 =>
 A.ext a1 0 fun a3 =>
 A.ext a1 1 fun a4 =>
 A.ret (s55 [x1.er1, a3.er1] z2) fun a5 z6 =>
 some (.ret (.tup []), z6)
theorem s56_eq (x0 : V) (x1 : V) (st : St) : s56 [x0, x1] st = f56 x0 x1 st := by
  rw [s56, sealF_eq]
  kernel_rfl
/-! sinew/wire.body -/
def g41mu : Nat → Bool := fun _ => false
noncomputable def g41T : Tbl := tget [(51, s51), (52, s52), (53, s53), (56, s56), (58, s58)]
theorem g41t : SimT Try.prog g41T := simT_cons sim51 ( simT_cons sim52 ( simT_cons sim53 ( simT_cons sim56 ( simT_cons sim58 (simT_nil)))))
noncomputable def s41 : Fn := sealF (fun args st => fg (afn Try.prog g41mu g41T big (areg Try.prog g41mu g41T) 41 args st) st)
theorem sim41 : Sim Try.prog 41 s41 := (afn_sim g41t (fun m => areg_sound g41t hmix m) 41 (by kernel_rfl)).fg.sealed
noncomputable def g41C (p : List Nat) : Code := sub (match Try.f41.body with | some c => c | none => .skip) p
noncomputable def g41X (c : Code) (K : Kon) : Env → St → Res := aexec Try.prog g41mu g41T big 63 (areg Try.prog g41mu g41T 63) c K
noncomputable def g41kr : Kon := aresK Try.prog Try.f41.results.toList
theorem g41reg {c : Code} {K : Kon} {G : Env → St → Res} {id : Nat} {ops : Array Oper} {l1 l2 : List Nat} (hc : c = .region id ops false) (hl : List.range ops.size = l1 ++ l2) (h : (fun env st => aops Try.prog g41mu g41T 63 ops l2 env st (K .normal)) = G) : g41X c K = fun env st => aops Try.prog g41mu g41T 63 ops l1 env st G := reg_cut hc hl h
theorem g41seq {c x y : Code} {K : Kon} {G : Env → St → Res} (hc : c = .seq x y) (hy : g41X y K = G) : g41X c K = g41X x (kSeq G K) := seq_cut hc hy
theorem g41blk {c x : Code} {K : Kon} {i : Nat} (hc : c = .block i x) : g41X c K = g41X x (kBlk i K) := blk_cut hc
theorem g41loop {c x : Code} {K : Kon} (hc : c = .loop x) : g41X c K = aloop (g41X x) K big := loop_cut hc
theorem g41cond {c x y : Code} {K : Kon} {v : Operand} {F G : Env → St → Res} (hc : c = .cond v x y) (hx : g41X x K = F) (hy : g41X y K = G) : g41X c K = condF v F G := cond_cut hc hx hy
noncomputable def g41k0 : Kon := kSeq (g41X (g41C [1, 1, 1, 1, 1, 1, 1, 1, 1, 1, 1, 1]) (g41kr)) (g41kr)
noncomputable def g41k1 : Kon := kBlk 2 (g41k0)
noncomputable def g41bzpa2 : Nat → V → V → V → V → V → V → St → Res
| 0, _, _, _, _, _, _, _ => none
| n + 1, x4, x5, x6, x47, x48, x49, st =>
 A.bin .lss x49 x48 fun a1 =>
 A.cond a1
 (A.iaddr 1 x47 x49 fun a2 =>
 A.load false 1 a2 st fun a3 z4 =>
 A.call g41T x6 [a3] z4 fun a5 z6 =>
 A.bin .add x49 (.int .i64 1) fun a7 =>
 (g41bzpa2 n) x4 x5 x6 x47 x48 a7 z6)
 (A.load false 1 x5 st fun a8 z9 =>
 A.guard a8 false
 (A.ret (s53 [x4.er1] z9) fun a10 z11 =>
 A.bin .gtr a10 (.int .i64 1048576) fun a12 =>
 A.cond a12
 (some (.ret (.tup [((.str []) : V).er1, ((.int .i64 1) : V).er1]), z11))
 (A.ret (s58 [x4.er1] z11) fun a13 z14 =>
 some (.ret (.tup [a13.er1, ((.int .i64 0) : V).er1]), z14)))
 (some (.ret (.tup [((.str []) : V).er1, ((.int .i64 1) : V).er1]), z9)))
theorem g41nzpa2 : g41C [1, 1, 1, 1, 1, 1, 1, 1, 1, 1, 1, 0, 1, 0] = .loop (g41C [1, 1, 1, 1, 1, 1, 1, 1, 1, 1, 1, 0, 1, 0, 0]) := by kernel_rfl
noncomputable def g41k2 (Lzpa2 : V → V → V → V → V → V → St → Res) : Kon := kSeq (fun env st => Lzpa2 (env 4) (env 5) (env 6) (env 47) (env 48) (env 49) st) (g41k1)
theorem g41ezpa2 : g41X (g41C [1, 1, 1, 1, 1, 1, 1, 1, 1, 1, 1, 0, 1, 0]) (g41k1) = fun env st => g41bzpa2 big (env 4) (env 5) (env 6) (env 47) (env 48) (env 49) st := by
  have key : ∀ n, aloop (g41X (g41C [1, 1, 1, 1, 1, 1, 1, 1, 1, 1, 1, 0, 1, 0, 0])) (g41k1) n = fun env st => g41bzpa2 n (env 4) (env 5) (env 6) (env 47) (env 48) (env 49) st := by
    intro n
    induction n with
    | zero => rfl
    | succ n ih =>
      have h : aloop (g41X (g41C [1, 1, 1, 1, 1, 1, 1, 1, 1, 1, 1, 0, 1, 0, 0])) (g41k1) (n + 1) = g41X (g41C [1, 1, 1, 1, 1, 1, 1, 1, 1, 1, 1, 0, 1, 0, 0]) (kSeq (aloop (g41X (g41C [1, 1, 1, 1, 1, 1, 1, 1, 1, 1, 1, 0, 1, 0, 0])) (g41k1) n) (g41k1)) := rfl
      rw [h, ih]
      refine Eq.trans (Eq.refl _) ?_
      funext env st
      kernel_rfl
  exact (g41loop g41nzpa2).trans (key big)
noncomputable def g41bzcn1 (x4 : V) (x5 : V) (x6 : V) (x47 : V) (x48 : V) (x49 : V) (st : St) : Res :=
 g41bzpa2 big x4 x5 x6 x47 x48 x49 st
theorem g41nzcn1 : g41C [1, 1, 1, 1, 1, 1, 1, 1, 1, 1, 1, 0, 1] = .block 2 (g41C [1, 1, 1, 1, 1, 1, 1, 1, 1, 1, 1, 0, 1, 0]) := by kernel_rfl
theorem g41ezcn1 : g41X (g41C [1, 1, 1, 1, 1, 1, 1, 1, 1, 1, 1, 0, 1]) (g41k0) = fun env st => g41bzcn1 (env 4) (env 5) (env 6) (env 47) (env 48) (env 49) st := by
  refine Eq.trans ((g41blk g41nzcn1).trans (g41ezpa2)) ?_
  funext env st
  kernel_rfl
noncomputable def g41bzsf (x1 : V) (x4 : V) (x5 : V) (x6 : V) (x7 : V) (st : St) : Res :=
 A.faddr 2 x1 fun a1 =>
 A.load false 1 a1 st fun a2 z3 =>
 A.call g41T x6 [a2] z3 fun a4 z5 =>
 A.faddr 3 x1 fun a6 =>
 A.load false 1 a6 z5 fun a7 z8 =>
 A.lenL a7 fun a9 =>
 A.call g41T x7 [a9] z8 fun a10 z11 =>
 A.faddr 3 x1 fun a12 =>
 A.load false 1 a12 z11 fun a13 z14 =>
 A.lenL a13 fun a15 =>
 g41bzcn1 x4 x5 x6 a13 a15 (.int .i64 0) z14
theorem g41nzsf : g41C [1, 1, 1, 1, 1, 1, 1, 1, 1] = .seq (g41C [1, 1, 1, 1, 1, 1, 1, 1, 1, 0]) (g41C [1, 1, 1, 1, 1, 1, 1, 1, 1, 1]) := by kernel_rfl
theorem g41nz1kv : g41C [1, 1, 1, 1, 1, 1, 1, 1, 1, 1] = .seq (g41C [1, 1, 1, 1, 1, 1, 1, 1, 1, 1, 0]) (g41C [1, 1, 1, 1, 1, 1, 1, 1, 1, 1, 1]) := by kernel_rfl
theorem g41nz35r : g41C [1, 1, 1, 1, 1, 1, 1, 1, 1, 1, 1] = .seq (g41C [1, 1, 1, 1, 1, 1, 1, 1, 1, 1, 1, 0]) (g41C [1, 1, 1, 1, 1, 1, 1, 1, 1, 1, 1, 1]) := by kernel_rfl
theorem g41nz6bi : g41C [1, 1, 1, 1, 1, 1, 1, 1, 1, 1, 1, 0] = .seq (g41C [1, 1, 1, 1, 1, 1, 1, 1, 1, 1, 1, 0, 0]) (g41C [1, 1, 1, 1, 1, 1, 1, 1, 1, 1, 1, 0, 1]) := by kernel_rfl
theorem g41ezsf : g41X (g41C [1, 1, 1, 1, 1, 1, 1, 1, 1]) (g41kr) = fun env st => g41bzsf (env 1) (env 4) (env 5) (env 6) (env 7) st := by
  refine Eq.trans (g41seq g41nzsf (g41seq g41nz1kv ((g41seq g41nz35r rfl).trans (g41seq g41nz6bi (g41ezcn1))))) ?_
  funext env st
  kernel_rfl
noncomputable def g41k3 : Kon := kSeq (fun env st => g41bzsf (env 1) (env 4) (env 5) (env 6) (env 7) st) (g41kr)
noncomputable def g41k4 : Kon := kBlk 0 (g41k3)
noncomputable def g41bz35m : Nat → V → V → V → V → V → V → V → V → St → Res
| 0, _, _, _, _, _, _, _, _, _ => none
| n + 1, x1, x4, x5, x6, x7, x27, x28, x29, st =>
 A.bin .lss x29 x28 fun a1 =>
 A.cond a1
 (A.iaddr 1 x27 x29 fun a2 =>
 A.load false 1 a2 st fun a3 z4 =>
 A.call g41T x7 [a3] z4 fun a5 z6 =>
 A.bin .add x29 (.int .i64 1) fun a7 =>
 (g41bz35m n) x1 x4 x5 x6 x7 x27 x28 a7 z6)
 (g41bzsf x1 x4 x5 x6 x7 st)
theorem g41nz35m : g41C [1, 1, 1, 1, 1, 1, 1, 1, 0, 1, 0] = .loop (g41C [1, 1, 1, 1, 1, 1, 1, 1, 0, 1, 0, 0]) := by kernel_rfl
noncomputable def g41k5 (Lz35m : V → V → V → V → V → V → V → V → St → Res) : Kon := kSeq (fun env st => Lz35m (env 1) (env 4) (env 5) (env 6) (env 7) (env 27) (env 28) (env 29) st) (g41k4)
theorem g41ez35m : g41X (g41C [1, 1, 1, 1, 1, 1, 1, 1, 0, 1, 0]) (g41k4) = fun env st => g41bz35m big (env 1) (env 4) (env 5) (env 6) (env 7) (env 27) (env 28) (env 29) st := by
  have key : ∀ n, aloop (g41X (g41C [1, 1, 1, 1, 1, 1, 1, 1, 0, 1, 0, 0])) (g41k4) n = fun env st => g41bz35m n (env 1) (env 4) (env 5) (env 6) (env 7) (env 27) (env 28) (env 29) st := by
    intro n
    induction n with
    | zero => rfl
    | succ n ih =>
      have h : aloop (g41X (g41C [1, 1, 1, 1, 1, 1, 1, 1, 0, 1, 0, 0])) (g41k4) (n + 1) = g41X (g41C [1, 1, 1, 1, 1, 1, 1, 1, 0, 1, 0, 0]) (kSeq (aloop (g41X (g41C [1, 1, 1, 1, 1, 1, 1, 1, 0, 1, 0, 0])) (g41k4) n) (g41k4)) := rfl
      rw [h, ih]
      refine Eq.trans (Eq.refl _) ?_
      funext env st
      kernel_rfl
  exact (g41loop g41nz35m).trans (key big)
noncomputable def g41bze7 (x1 : V) (x4 : V) (x5 : V) (x6 : V) (x7 : V) (st : St) : Res :=
 A.faddr 1 x1 fun a1 =>
 A.load false 1 a1 st fun a2 z3 =>
 A.lenL a2 fun a4 =>
 g41bz35m big x1 x4 x5 x6 x7 a2 a4 (.int .i64 0) z3
theorem g41nze7 : g41C [1, 1, 1, 1, 1, 1, 1, 1] = .seq (g41C [1, 1, 1, 1, 1, 1, 1, 1, 0]) (g41C [1, 1, 1, 1, 1, 1, 1, 1, 1]) := by kernel_rfl
theorem g41nzse : g41C [1, 1, 1, 1, 1, 1, 1, 1, 0] = .seq (g41C [1, 1, 1, 1, 1, 1, 1, 1, 0, 0]) (g41C [1, 1, 1, 1, 1, 1, 1, 1, 0, 1]) := by kernel_rfl
theorem g41nz1kt : g41C [1, 1, 1, 1, 1, 1, 1, 1, 0, 1] = .block 0 (g41C [1, 1, 1, 1, 1, 1, 1, 1, 0, 1, 0]) := by kernel_rfl
theorem g41eze7 : g41X (g41C [1, 1, 1, 1, 1, 1, 1, 1]) (g41kr) = fun env st => g41bze7 (env 1) (env 4) (env 5) (env 6) (env 7) st := by
  refine Eq.trans ((g41seq g41nze7 (g41ezsf)).trans (g41seq g41nzse ((g41blk g41nz1kt).trans (g41ez35m)))) ?_
  funext env st
  kernel_rfl
noncomputable def g41b1111 (x1 : V) (x4 : V) (x5 : V) (st : St) : Res :=
 A.faddr 0 x1 fun a1 =>
 A.load false 1 a1 st fun a2 z3 =>
 A.call g41T (.fn 56 [] [x4]) [a2] z3 fun a4 z5 =>
 A.faddr 1 x1 fun a6 =>
 A.load false 1 a6 z5 fun a7 z8 =>
 A.lenL a7 fun a9 =>
 A.call g41T (.fn 56 [] [x4]) [a9] z8 fun a10 z11 =>
 g41bze7 x1 x4 x5 (.fn 52 [] [x5, x4]) (.fn 56 [] [x4]) z11
theorem g41n1111 : g41C [1, 1, 1, 1] = .seq (g41C [1, 1, 1, 1, 0]) (g41C [1, 1, 1, 1, 1]) := by kernel_rfl
theorem g41n11111 : g41C [1, 1, 1, 1, 1] = .seq (g41C [1, 1, 1, 1, 1, 0]) (g41C [1, 1, 1, 1, 1, 1]) := by kernel_rfl
theorem g41nz3j : g41C [1, 1, 1, 1, 1, 1] = .seq (g41C [1, 1, 1, 1, 1, 1, 0]) (g41C [1, 1, 1, 1, 1, 1, 1]) := by kernel_rfl
theorem g41nz73 : g41C [1, 1, 1, 1, 1, 1, 1] = .seq (g41C [1, 1, 1, 1, 1, 1, 1, 0]) (g41C [1, 1, 1, 1, 1, 1, 1, 1]) := by kernel_rfl
theorem g41e1111 : g41X (g41C [1, 1, 1, 1]) (g41kr) = fun env st => g41b1111 (env 1) (env 4) (env 5) st := by
  refine Eq.trans (g41seq g41n1111 (g41seq g41n11111 (g41seq g41nz3j (g41seq g41nz73 (g41eze7))))) ?_
  funext env st
  kernel_rfl
noncomputable def f41 (x0 : V) (st : St) : Res :=
 A.box x0 st fun a1 z2 =>
 A.load true 4 a1 z2 fun a3 z4 =>
 A.ret (s51 [a3.er1] z4) fun a5 z6 =>
 A.un .not a5 fun a7 =>
 A.cond a7
 (some (.ret (.tup [((.str []) : V).er1, ((.int .i64 1) : V).er1]), z6))
 (A.newB 98 (.agg [.ptr0, (.lst [] 1)]) z6 fun a8 z9 =>
 A.box (.bool false) z9 fun a10 z11 =>
 A.store 1 a10 (.bool false) z11 fun z12 =>
 g41b1111 a1 a8 a10 z12)
theorem g41nr : g41C [] = .seq (g41C [0]) (g41C [1]) := by kernel_rfl
theorem g41n1 : g41C [1] = .seq (g41C [1, 0]) (g41C [1, 1]) := by kernel_rfl
theorem g41n11 : g41C [1, 1] = .seq (g41C [1, 1, 0]) (g41C [1, 1, 1]) := by kernel_rfl
theorem g41n111 : g41C [1, 1, 1] = .seq (g41C [1, 1, 1, 0]) (g41C [1, 1, 1, 1]) := by kernel_rfl
theorem g41er (env : Env) (st : St) : g41X (g41C []) g41kr env st = f41 (env 0) st := by
  rw [(g41seq g41nr (g41seq g41n1 (g41seq g41n11 (g41seq g41n111 (g41e1111)))))]
  kernel_rfl
theorem s41_eq (x0 : V) (st : St) : s41 [x0] st = fg (f41 x0 st) st := by
  have h : afn Try.prog g41mu g41T big (areg Try.prog g41mu g41T) 41 [x0] st = g41X (g41C []) g41kr (fun t => [x0].getD t (.tup [])) st := by kernel_rfl
  rw [s41, sealF_eq]
  show fg _ st = fg _ st
  refine congrArg (fun r => fg r st) ?_
  exact h.trans (g41er _ st)
/-! sinew/wire.four -/
def g42mu : Nat → Bool := fun _ => false
noncomputable def g42T : Tbl := tget []
theorem g42t : SimT Try.prog g42T := simT_nil
noncomputable def s42 : Fn := sealF (afn Try.prog g42mu g42T big (areg Try.prog g42mu g42T) 42)
theorem sim42 : Sim Try.prog 42 s42 := (afn_sim g42t (fun m => areg_sound g42t hmix m) 42 (by kernel_rfl)).sealed
noncomputable def f42 (x0 : V) (st : St) : Res :=
 A.bin .shr x0 (.int .u64 24) fun a1 =>
 A.toInt .u8 a1 fun a2 =>
 A.bin .shr x0 (.int .u64 16) fun a3 =>
 A.toInt .u8 a3 fun a4 =>
 A.bin .shr x0 (.int .u64 8) fun a5 =>
 A.toInt .u8 a5 fun a6 =>
 A.toInt .u8 x0 fun a7 =>
 A.bslice 1 (.int .u8 0) 4 [(0, a2), (1, a4), (2, a6), (3, a7)] fun a8 =>
 A.toStr a8 st fun a9 =>
 some (.ret a9.er1, st)
theorem s42_eq (x0 : V) (st : St) : s42 [x0] st = f42 x0 st := by
  rw [s42, sealF_eq]
  kernel_rfl
/-! sinew/check.Sum -/
def g43mu : Nat → Bool := fun _ => false
noncomputable def g43T : Tbl := tget [(59, s59)]
theorem g43t : SimT Try.prog g43T := simT_cons sim59 (simT_nil)
noncomputable def s43 : Fn := sealF (fun args st => fg (afn Try.prog g43mu g43T big (areg Try.prog g43mu g43T) 43 args st) st)
theorem sim43 : Sim Try.prog 43 s43 := (afn_sim g43t (fun m => areg_sound g43t hmix m) 43 (by kernel_rfl)).fg.sealed
noncomputable def g43C (p : List Nat) : Code := sub (match Try.f43.body with | some c => c | none => .skip) p
noncomputable def g43X (c : Code) (K : Kon) : Env → St → Res := aexec Try.prog g43mu g43T big 37 (areg Try.prog g43mu g43T 37) c K
noncomputable def g43kr : Kon := aresK Try.prog Try.f43.results.toList
theorem g43reg {c : Code} {K : Kon} {G : Env → St → Res} {id : Nat} {ops : Array Oper} {l1 l2 : List Nat} (hc : c = .region id ops false) (hl : List.range ops.size = l1 ++ l2) (h : (fun env st => aops Try.prog g43mu g43T 37 ops l2 env st (K .normal)) = G) : g43X c K = fun env st => aops Try.prog g43mu g43T 37 ops l1 env st G := reg_cut hc hl h
theorem g43seq {c x y : Code} {K : Kon} {G : Env → St → Res} (hc : c = .seq x y) (hy : g43X y K = G) : g43X c K = g43X x (kSeq G K) := seq_cut hc hy
theorem g43blk {c x : Code} {K : Kon} {i : Nat} (hc : c = .block i x) : g43X c K = g43X x (kBlk i K) := blk_cut hc
theorem g43loop {c x : Code} {K : Kon} (hc : c = .loop x) : g43X c K = aloop (g43X x) K big := loop_cut hc
theorem g43cond {c x y : Code} {K : Kon} {v : Operand} {F G : Env → St → Res} (hc : c = .cond v x y) (hx : g43X x K = F) (hy : g43X y K = G) : g43X c K = condF v F G := cond_cut hc hx hy
noncomputable def g43k0 : Kon := kSeq (g43X (g43C [1, 1, 1, 1]) (g43kr)) (g43kr)
noncomputable def g43k1 : Kon := kBlk 0 (g43k0)
noncomputable def g43k2 (Lz3e : V → V → V → V → V → St → Res) : Kon := kSeq (fun env st => Lz3e (env 0) (env 3) (env 4) (env 8) (env 9) st) (g43k1)
noncomputable def g43k3 (Lz3e : V → V → V → V → V → St → Res) : Kon := kSeq (g43X (g43C [1, 1, 1, 0, 1, 0, 0, 1, 1, 1]) (g43k2 Lz3e)) (g43k2 Lz3e)
noncomputable def g43k4 (Lz3e : V → V → V → V → V → St → Res) : Kon := kBlk 1 (g43k3 Lz3e)
noncomputable def g43bzc37 (Lz3e : V → V → V → V → V → St → Res) (x0 : V) (x3 : V) (x4 : V) (x8 : V) (x9 : V) (st : St) : Res :=
 A.bin .shl x4 (.int .u64 4) fun a1 =>
 A.bin .shr x4 (.int .u64 28) fun a2 =>
 A.iaddrA 16 1 x3 a2 fun a3 =>
 A.load false 1 a3 st fun a4 z5 =>
 A.bin .xor a1 a4 fun a6 =>
 A.bin .shl a6 (.int .u64 4) fun a7 =>
 A.bin .shr a6 (.int .u64 28) fun a8 =>
 A.iaddrA 16 1 x3 a8 fun a9 =>
 A.load false 1 a9 z5 fun a10 z11 =>
 A.bin .xor a7 a10 fun a12 =>
 A.bin .add x9 (.int .i64 1) fun a13 =>
 Lz3e x0 x3 a12 x8 a13 z11
theorem g43ezc37 (Lz3e : V → V → V → V → V → St → Res) : g43X (g43C [1, 1, 1, 0, 1, 0, 0, 1, 1, 0, 0, 1, 1]) (g43k4 Lz3e) = fun env st => g43bzc37 Lz3e (env 0) (env 3) (env 4) (env 8) (env 9) st := by
  refine Eq.trans (Eq.refl (g43X (g43C [1, 1, 1, 0, 1, 0, 0, 1, 1, 0, 0, 1, 1]) (g43k4 Lz3e))) ?_
  funext env st
  kernel_rfl
noncomputable def g43bz3e : Nat → V → V → V → V → V → St → Res
| 0, _, _, _, _, _, _ => none
| n + 1, x0, x3, x4, x8, x9, st =>
 A.bin .lss x9 x8 fun a1 =>
 A.cond a1
 (A.idxS x0 x9 fun a2 =>
 A.toInt .u32 a2 fun a3 =>
 A.bin .shl a3 (.int .u64 24) fun a4 =>
 A.bin .xor x4 a4 fun a5 =>
 g43bzc37 (g43bz3e n) x0 x3 a5 x8 x9 st)
 (A.un .xor x4 fun a6 =>
 A.toInt .i64 a6 fun a7 =>
 some (.ret a7.er1, st))
theorem g43nz3e : g43C [1, 1, 1, 0, 1, 0] = .loop (g43C [1, 1, 1, 0, 1, 0, 0]) := by kernel_rfl
theorem g43nz6s : g43C [1, 1, 1, 0, 1, 0, 0] = .seq (g43C [1, 1, 1, 0, 1, 0, 0, 0]) (g43C [1, 1, 1, 0, 1, 0, 0, 1]) := by kernel_rfl
theorem g43nzdl : g43C [1, 1, 1, 0, 1, 0, 0, 1] = .seq (g43C [1, 1, 1, 0, 1, 0, 0, 1, 0]) (g43C [1, 1, 1, 0, 1, 0, 0, 1, 1]) := by kernel_rfl
theorem g43nzr7 : g43C [1, 1, 1, 0, 1, 0, 0, 1, 1] = .seq (g43C [1, 1, 1, 0, 1, 0, 0, 1, 1, 0]) (g43C [1, 1, 1, 0, 1, 0, 0, 1, 1, 1]) := by kernel_rfl
theorem g43nz1ie : g43C [1, 1, 1, 0, 1, 0, 0, 1, 1, 0] = .block 1 (g43C [1, 1, 1, 0, 1, 0, 0, 1, 1, 0, 0]) := by kernel_rfl
theorem g43nz30s : g43C [1, 1, 1, 0, 1, 0, 0, 1, 1, 0, 0] = .seq (g43C [1, 1, 1, 0, 1, 0, 0, 1, 1, 0, 0, 0]) (g43C [1, 1, 1, 0, 1, 0, 0, 1, 1, 0, 0, 1]) := by kernel_rfl
theorem g43nz61l : g43C [1, 1, 1, 0, 1, 0, 0, 1, 1, 0, 0, 1] = .seq (g43C [1, 1, 1, 0, 1, 0, 0, 1, 1, 0, 0, 1, 0]) (g43C [1, 1, 1, 0, 1, 0, 0, 1, 1, 0, 0, 1, 1]) := by kernel_rfl
theorem g43ez3e : g43X (g43C [1, 1, 1, 0, 1, 0]) (g43k1) = fun env st => g43bz3e big (env 0) (env 3) (env 4) (env 8) (env 9) st := by
  have key : ∀ n, aloop (g43X (g43C [1, 1, 1, 0, 1, 0, 0])) (g43k1) n = fun env st => g43bz3e n (env 0) (env 3) (env 4) (env 8) (env 9) st := by
    intro n
    induction n with
    | zero => rfl
    | succ n ih =>
      have h : aloop (g43X (g43C [1, 1, 1, 0, 1, 0, 0])) (g43k1) (n + 1) = g43X (g43C [1, 1, 1, 0, 1, 0, 0]) (kSeq (aloop (g43X (g43C [1, 1, 1, 0, 1, 0, 0])) (g43k1) n) (g43k1)) := rfl
      rw [h, ih]
      refine Eq.trans (g43seq g43nz6s (g43seq g43nzdl ((g43seq g43nzr7 rfl).trans ((g43blk g43nz1ie).trans (g43seq g43nz30s (g43seq g43nz61l (g43ezc37 (g43bz3e n)))))))) ?_
      funext env st
      kernel_rfl
  exact (g43loop g43nz3e).trans (key big)
noncomputable def f43 (x0 : V) (st : St) : Res :=
 A.ret (s59 [] st) fun a1 z2 =>
 A.box (.agg [(.int .u32 0), (.int .u32 0), (.int .u32 0), (.int .u32 0), (.int .u32 0), (.int .u32 0), (.int .u32 0), (.int .u32 0), (.int .u32 0), (.int .u32 0), (.int .u32 0), (.int .u32 0), (.int .u32 0), (.int .u32 0), (.int .u32 0), (.int .u32 0)]) z2 fun a3 z4 =>
 A.store 16 a3 a1 z4 fun z5 =>
 A.lenS x0 fun a6 =>
 g43bz3e big x0 a3 (.int .u32 4294967295) a6 (.int .i64 0) z5
theorem g43nr : g43C [] = .seq (g43C [0]) (g43C [1]) := by kernel_rfl
theorem g43n1 : g43C [1] = .seq (g43C [1, 0]) (g43C [1, 1]) := by kernel_rfl
theorem g43n11 : g43C [1, 1] = .seq (g43C [1, 1, 0]) (g43C [1, 1, 1]) := by kernel_rfl
theorem g43n111 : g43C [1, 1, 1] = .seq (g43C [1, 1, 1, 0]) (g43C [1, 1, 1, 1]) := by kernel_rfl
theorem g43n1110 : g43C [1, 1, 1, 0] = .seq (g43C [1, 1, 1, 0, 0]) (g43C [1, 1, 1, 0, 1]) := by kernel_rfl
theorem g43n11101 : g43C [1, 1, 1, 0, 1] = .block 0 (g43C [1, 1, 1, 0, 1, 0]) := by kernel_rfl
theorem g43er (env : Env) (st : St) : g43X (g43C []) g43kr env st = f43 (env 0) st := by
  rw [(g43seq g43nr (g43seq g43n1 (g43seq g43n11 ((g43seq g43n111 rfl).trans (g43seq g43n1110 ((g43blk g43n11101).trans (g43ez3e)))))))]
  kernel_rfl
theorem s43_eq (x0 : V) (st : St) : s43 [x0] st = fg (f43 x0 st) st := by
  have h : afn Try.prog g43mu g43T big (areg Try.prog g43mu g43T) 43 [x0] st = g43X (g43C []) g43kr (fun t => [x0].getD t (.tup [])) st := by kernel_rfl
  rw [s43, sealF_eq]
  show fg _ st = fg _ st
  refine congrArg (fun r => fg r st) ?_
  exact h.trans (g43er _ st)
end Go.Ab
