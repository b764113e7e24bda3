import Derived.Test.YtimicmlpaaohoaaAbQuiet
import Derived.Test.YtimicmlpaaohoaaAbP155
namespace Go.Ab
open Go.Proofs
set_option linter.unusedVariables false
set_option maxRecDepth 100000
/-! sinew/sinewref01.List -/
def g78mu : Nat → Bool := fun _ => false
noncomputable def g78T : Tbl := tget [(77, s77), (86, s86)]
theorem g78t : SimT Try.prog g78T := simT_cons sim77 ( simT_cons sim86 (simT_nil))
noncomputable def s78 : Fn := sealF (fun args st => fg (afn Try.prog g78mu g78T big (areg Try.prog g78mu g78T) 78 args st) st)
theorem sim78 : Sim Try.prog 78 s78 := (afn_sim g78t (fun m => areg_sound g78t hmix m) 78 (by kernel_rfl)).fg.sealed
noncomputable def g78C (p : List Nat) : Code := sub (match Try.f78.body with | some c => c | none => .skip) p
noncomputable def g78X (c : Code) (K : Kon) : Env → St → Res := aexec Try.prog g78mu g78T big 49 (areg Try.prog g78mu g78T 49) c K
noncomputable def g78kr : Kon := aresK Try.prog Try.f78.results.toList
theorem g78reg {c : Code} {K : Kon} {G : Env → St → Res} {id : Nat} {ops : Array Oper} {l1 l2 : List Nat} (hc : c = .region id ops false) (hl : List.range ops.size = l1 ++ l2) (h : (fun env st => aops Try.prog g78mu g78T 49 ops l2 env st (K .normal)) = G) : g78X c K = fun env st => aops Try.prog g78mu g78T 49 ops l1 env st G := reg_cut hc hl h
theorem g78seq {c x y : Code} {K : Kon} {G : Env → St → Res} (hc : c = .seq x y) (hy : g78X y K = G) : g78X c K = g78X x (kSeq G K) := seq_cut hc hy
theorem g78blk {c x : Code} {K : Kon} {i : Nat} (hc : c = .block i x) : g78X c K = g78X x (kBlk i K) := blk_cut hc
theorem g78loop {c x : Code} {K : Kon} (hc : c = .loop x) : g78X c K = aloop (g78X x) K big := loop_cut hc
theorem g78cond {c x y : Code} {K : Kon} {v : Operand} {F G : Env → St → Res} (hc : c = .cond v x y) (hx : g78X x K = F) (hy : g78X y K = G) : g78X c K = condF v F G := cond_cut hc hx hy
noncomputable def g78k0 : Kon := kSeq (g78X (g78C [1, 1, 1, 1, 1, 1]) (g78kr)) (g78kr)
noncomputable def g78k1 : Kon := kBlk 0 (g78k0)
noncomputable def g78k2 (Lze2 : V → V → V → V → V → St → Res) : Kon := kSeq (fun env st => Lze2 (env 0) (env 5) (env 6) (env 8) (env 9) st) (g78k1)
noncomputable def g78k3 (Lze2 : V → V → V → V → V → St → Res) : Kon := kSeq (g78X (g78C [1, 1, 1, 1, 1, 0, 1, 0, 0, 1, 1]) (g78k2 Lze2)) (g78k2 Lze2)
noncomputable def g78k4 (Lze2 : V → V → V → V → V → St → Res) : Kon := kBlk 1 (g78k3 Lze2)
noncomputable def g78bzci1 (Lze2 : V → V → V → V → V → St → Res) (x0 : V) (x5 : V) (x6 : V) (x8 : V) (x9 : V) (x10 : V) (x11 : V) (x12 : V) (st : St) : Res :=
 A.eql 2 true x12 (.int .i64 0) fun a1 =>
 A.cond a1
 (some (.ret (.tup [((.lst [] 1) : V).er1, ((.int .i64 0) : V).er1, x12.er1]), st))
 (A.bslice 1 (.str []) 1 [(0, x10)] fun a2 =>
 A.app 1 x8 (elemsOf 5 1 a2 st) st fun a3 z4 =>
 A.bin .add x6 x11 fun a5 =>
 A.bin .add x9 (.int .i64 1) fun a6 =>
 Lze2 x0 x5 a5 a3 a6 z4)
theorem g78ezci1 (Lze2 : V → V → V → V → V → St → Res) : g78X (g78C [1, 1, 1, 1, 1, 0, 1, 0, 0, 1, 0, 0, 1]) (g78k4 Lze2) = fun env st => g78bzci1 Lze2 (env 0) (env 5) (env 6) (env 8) (env 9) (env 10) (env 11) (env 12) st := by
  refine Eq.trans (Eq.refl (g78X (g78C [1, 1, 1, 1, 1, 0, 1, 0, 0, 1, 0, 0, 1]) (g78k4 Lze2))) ?_
  funext env st
  kernel_rfl
noncomputable def g78bze2 : Nat → V → V → V → V → V → St → Res
| 0, _, _, _, _, _, _ => none
| n + 1, x0, x5, x6, x8, x9, st =>
 A.bin .lss x9 x5 fun a1 =>
 A.cond a1
 (A.sliceS x0 (some x6) none fun a2 =>
 A.ret (s86 [a2.er1] st) fun a3 z4 =>
 A.ext a3 0 fun a5 =>
 A.ext a3 1 fun a6 =>
 A.ext a3 2 fun a7 =>
 g78bzci1 (g78bze2 n) x0 x5 x6 x8 x9 a5 a6 a7 z4)
 (some (.ret (.tup [x8.er1, x6.er1, ((.int .i64 0) : V).er1]), st))
theorem g78nze2 : g78C [1, 1, 1, 1, 1, 0, 1, 0] = .loop (g78C [1, 1, 1, 1, 1, 0, 1, 0, 0]) := by kernel_rfl
theorem g78nzs4 : g78C [1, 1, 1, 1, 1, 0, 1, 0, 0] = .seq (g78C [1, 1, 1, 1, 1, 0, 1, 0, 0, 0]) (g78C [1, 1, 1, 1, 1, 0, 1, 0, 0, 1]) := by kernel_rfl
theorem g78nz1k9 : g78C [1, 1, 1, 1, 1, 0, 1, 0, 0, 1] = .seq (g78C [1, 1, 1, 1, 1, 0, 1, 0, 0, 1, 0]) (g78C [1, 1, 1, 1, 1, 0, 1, 0, 0, 1, 1]) := by kernel_rfl
theorem g78nz34i : g78C [1, 1, 1, 1, 1, 0, 1, 0, 0, 1, 0] = .block 1 (g78C [1, 1, 1, 1, 1, 0, 1, 0, 0, 1, 0, 0]) := by kernel_rfl
theorem g78nz690 : g78C [1, 1, 1, 1, 1, 0, 1, 0, 0, 1, 0, 0] = .seq (g78C [1, 1, 1, 1, 1, 0, 1, 0, 0, 1, 0, 0, 0]) (g78C [1, 1, 1, 1, 1, 0, 1, 0, 0, 1, 0, 0, 1]) := by kernel_rfl
theorem g78eze2 : g78X (g78C [1, 1, 1, 1, 1, 0, 1, 0]) (g78k1) = fun env st => g78bze2 big (env 0) (env 5) (env 6) (env 8) (env 9) st := by
  have key : ∀ n, aloop (g78X (g78C [1, 1, 1, 1, 1, 0, 1, 0, 0])) (g78k1) n = fun env st => g78bze2 n (env 0) (env 5) (env 6) (env 8) (env 9) st := by
    intro n
    induction n with
    | zero => rfl
    | succ n ih =>
      have h : aloop (g78X (g78C [1, 1, 1, 1, 1, 0, 1, 0, 0])) (g78k1) (n + 1) = g78X (g78C [1, 1, 1, 1, 1, 0, 1, 0, 0]) (kSeq (aloop (g78X (g78C [1, 1, 1, 1, 1, 0, 1, 0, 0])) (g78k1) n) (g78k1)) := rfl
      rw [h, ih]
      refine Eq.trans (g78seq g78nzs4 ((g78seq g78nz1k9 rfl).trans ((g78blk g78nz34i).trans (g78seq g78nz690 (g78ezci1 (g78bze2 n)))))) ?_
      funext env st
      kernel_rfl
  exact (g78loop g78nze2).trans (key big)
noncomputable def g78b1111 (x0 : V) (x5 : V) (x6 : V) (st : St) : Res :=
 g78bze2 big x0 x5 x6 (.lst [] 1) (.int .i64 0) st
theorem g78n1111 : g78C [1, 1, 1, 1] = .seq (g78C [1, 1, 1, 1, 0]) (g78C [1, 1, 1, 1, 1]) := by kernel_rfl
theorem g78n11111 : g78C [1, 1, 1, 1, 1] = .seq (g78C [1, 1, 1, 1, 1, 0]) (g78C [1, 1, 1, 1, 1, 1]) := by kernel_rfl
theorem g78nz3i : g78C [1, 1, 1, 1, 1, 0] = .seq (g78C [1, 1, 1, 1, 1, 0, 0]) (g78C [1, 1, 1, 1, 1, 0, 1]) := by kernel_rfl
theorem g78nz71 : g78C [1, 1, 1, 1, 1, 0, 1] = .block 0 (g78C [1, 1, 1, 1, 1, 0, 1, 0]) := by kernel_rfl
theorem g78e1111 : g78X (g78C [1, 1, 1, 1]) (g78kr) = fun env st => g78b1111 (env 0) (env 5) (env 6) st := by
  refine Eq.trans (g78seq g78n1111 ((g78seq g78n11111 rfl).trans (g78seq g78nz3i ((g78blk g78nz71).trans (g78eze2))))) ?_
  funext env st
  kernel_rfl
noncomputable def g78b11 (x0 : V) (x5 : V) (x6 : V) (x7 : V) (st : St) : Res :=
 A.eql 2 true x7 (.int .i64 0) fun a1 =>
 A.cond a1
 (some (.ret (.tup [((.lst [] 1) : V).er1, ((.int .i64 0) : V).er1, x7.er1]), st))
 (A.bin .gtr x5 (.int .i64 4096) fun a2 =>
 A.cond a2
 (some (.ret (.tup [((.lst [] 1) : V).er1, ((.int .i64 0) : V).er1, ((.int .i64 12) : V).er1]), st))
 (g78b1111 x0 x5 x6 st))
theorem g78n11 : g78C [1, 1] = .seq (g78C [1, 1, 0]) (g78C [1, 1, 1]) := by kernel_rfl
theorem g78n111 : g78C [1, 1, 1] = .seq (g78C [1, 1, 1, 0]) (g78C [1, 1, 1, 1]) := by kernel_rfl
theorem g78e11 : g78X (g78C [1, 1]) (g78kr) = fun env st => g78b11 (env 0) (env 5) (env 6) (env 7) st := by
  refine Eq.trans (g78seq g78n11 (g78seq g78n111 (g78e1111))) ?_
  funext env st
  kernel_rfl
noncomputable def f78 (x0 : V) (st : St) : Res :=
 A.ret (s77 [x0.er1] st) fun a1 z2 =>
 A.ext a1 0 fun a3 =>
 A.ext a1 1 fun a4 =>
 A.ext a1 2 fun a5 =>
 g78b11 x0 a3 a4 a5 z2
theorem g78nr : g78C [] = .seq (g78C [0]) (g78C [1]) := by kernel_rfl
theorem g78n1 : g78C [1] = .seq (g78C [1, 0]) (g78C [1, 1]) := by kernel_rfl
theorem g78er (env : Env) (st : St) : g78X (g78C []) g78kr env st = f78 (env 0) st := by
  rw [(g78seq g78nr (g78seq g78n1 (g78e11)))]
  kernel_rfl
theorem s78_eq (x0 : V) (st : St) : s78 [x0] st = fg (f78 x0 st) st := by
  have h : afn Try.prog g78mu g78T big (areg Try.prog g78mu g78T) 78 [x0] st = g78X (g78C []) g78kr (fun t => [x0].getD t (.tup [])) st := by kernel_rfl
  rw [s78, sealF_eq]
  show fg _ st = fg _ st
  refine congrArg (fun r => fg r st) ?_
  exact h.trans (g78er _ st)
/-! sinew/sinewref03.read -/
def g66mu : Nat → Bool := fun _ => false
noncomputable def g66T : Tbl := tget [(60, s60), (77, s77), (78, s78)]
theorem g66t : SimT Try.prog g66T := simT_cons sim60 ( simT_cons sim77 ( simT_cons sim78 (simT_nil)))
noncomputable def s66 : Fn := sealF (fun args st => fg (afn Try.prog g66mu g66T big (areg Try.prog g66mu g66T) 66 args st) st)
theorem sim66 : Sim Try.prog 66 s66 := (afn_sim g66t (fun m => areg_sound g66t hmix m) 66 (by kernel_rfl)).fg.sealed
noncomputable def g66C (p : List Nat) : Code := sub (match Try.f66.body with | some c => c | none => .skip) p
noncomputable def g66X (c : Code) (K : Kon) : Env → St → Res := aexec Try.prog g66mu g66T big 127 (areg Try.prog g66mu g66T 127) c K
noncomputable def g66kr : Kon := aresK Try.prog Try.f66.results.toList
theorem g66reg {c : Code} {K : Kon} {G : Env → St → Res} {id : Nat} {ops : Array Oper} {l1 l2 : List Nat} (hc : c = .region id ops false) (hl : List.range ops.size = l1 ++ l2) (h : (fun env st => aops Try.prog g66mu g66T 127 ops l2 env st (K .normal)) = G) : g66X c K = fun env st => aops Try.prog g66mu g66T 127 ops l1 env st G := reg_cut hc hl h
theorem g66seq {c x y : Code} {K : Kon} {G : Env → St → Res} (hc : c = .seq x y) (hy : g66X y K = G) : g66X c K = g66X x (kSeq G K) := seq_cut hc hy
theorem g66blk {c x : Code} {K : Kon} {i : Nat} (hc : c = .block i x) : g66X c K = g66X x (kBlk i K) := blk_cut hc
theorem g66loop {c x : Code} {K : Kon} (hc : c = .loop x) : g66X c K = aloop (g66X x) K big := loop_cut hc
theorem g66cond {c x y : Code} {K : Kon} {v : Operand} {F G : Env → St → Res} (hc : c = .cond v x y) (hx : g66X x K = F) (hy : g66X y K = G) : g66X c K = condF v F G := cond_cut hc hx hy
noncomputable def g66k0 : Kon := kSeq (g66X (g66C [1, 1, 1, 1, 1, 1, 1, 1, 1, 1, 1, 1, 1, 1, 1]) (g66kr)) (g66kr)
noncomputable def g66k1 : Kon := kBlk 2 (g66k0)
noncomputable def g66k2 (Lz5m9m : V → V → V → V → V → V → St → Res) : Kon := kSeq (fun env st => Lz5m9m (env 0) (env 2) (env 4) (env 5) (env 14) (env 17) st) (g66k1)
noncomputable def g66k3 (Lz5m9m : V → V → V → V → V → V → St → Res) : Kon := kSeq (g66X (g66C [1, 1, 1, 1, 1, 1, 1, 1, 1, 1, 1, 1, 1, 1, 0, 1, 0, 0, 1, 1]) (g66k2 Lz5m9m)) (g66k2 Lz5m9m)
noncomputable def g66k4 (Lz5m9m : V → V → V → V → V → V → St → Res) : Kon := kBlk 3 (g66k3 Lz5m9m)
noncomputable def g66bz4zsjt (Lz5m9m : V → V → V → V → V → V → St → Res) (x0 : V) (x2 : V) (x4 : V) (x5 : V) (x14 : V) (x17 : V) (x18 : V) (x19 : V) (x20 : V) (st : St) : Res :=
 A.eql 2 true x20 (.int .i64 0) fun a1 =>
 A.cond a1
 (A.load true 4 x4 st fun a2 z3 =>
 A.store 4 x2 a2 z3 fun z4 =>
 A.res (rcell (A.load true 4 x2 z4 kid) (rtmp (.bool false) (some []))) z4)
 (A.faddr 3 x4 fun a5 =>
 A.load false 1 a5 st fun a6 z7 =>
 A.bslice 1 (.lst [] 1) 1 [(0, x18)] fun a8 =>
 A.app 1 a6 (elemsOf 5 1 a8 z7) z7 fun a9 z10 =>
 A.faddr 3 x4 fun a11 =>
 A.store 1 a11 a9 z10 fun z12 =>
 A.bin .add x5 x19 fun a13 =>
 A.bin .add x17 (.int .i64 1) fun a14 =>
 Lz5m9m x0 x2 x4 a13 x14 a14 z12)
theorem g66ez4zsjt (Lz5m9m : V → V → V → V → V → V → St → Res) : g66X (g66C [1, 1, 1, 1, 1, 1, 1, 1, 1, 1, 1, 1, 1, 1, 0, 1, 0, 0, 1, 0, 0, 1]) (g66k4 Lz5m9m) = fun env st => g66bz4zsjt Lz5m9m (env 0) (env 2) (env 4) (env 5) (env 14) (env 17) (env 18) (env 19) (env 20) st := by
  refine Eq.trans (Eq.refl (g66X (g66C [1, 1, 1, 1, 1, 1, 1, 1, 1, 1, 1, 1, 1, 1, 0, 1, 0, 0, 1, 0, 0, 1]) (g66k4 Lz5m9m))) ?_
  funext env st
  kernel_rfl
noncomputable def g66bz5m9m : Nat → V → V → V → V → V → V → St → Res
| 0, _, _, _, _, _, _, _ => none
| n + 1, x0, x2, x4, x5, x14, x17, st =>
 A.bin .lss x17 x14 fun a1 =>
 A.cond a1
 (A.sliceS x0 (some x5) none fun a2 =>
 A.ret (s78 [a2.er1] st) fun a3 z4 =>
 A.ext a3 0 fun a5 =>
 A.ext a3 1 fun a6 =>
 A.ext a3 2 fun a7 =>
 g66bz4zsjt (g66bz5m9m n) x0 x2 x4 x5 x14 x17 a5 a6 a7 z4)
 (A.load true 4 x4 st fun a8 _ =>
 A.lenS x0 fun a9 =>
 A.eql 2 false x5 a9 fun a10 =>
 A.guard a10 true
 (A.load true 4 x4 st fun a11 _ =>
 A.noP (A.ret (s60 [a11.er1] st) kid) fun a12 z13 =>
 A.chk (ldv true 4 x4 z13) a8
 (A.noP (A.store 4 x2 a8 z13 fun s => kid (.tup []) s) fun a14 z15 =>
 A.res (rcell (A.load true 4 x2 z15 kid) (rtmp a12 (some []))) z15))
 (A.noP (A.store 4 x2 a8 st fun s => kid (.tup []) s) fun a16 z17 =>
 A.res (rcell (A.load true 4 x2 z17 kid) (rtmp (.bool false) (some []))) z17))
theorem g66nz5m9m : g66C [1, 1, 1, 1, 1, 1, 1, 1, 1, 1, 1, 1, 1, 1, 0, 1, 0] = .loop (g66C [1, 1, 1, 1, 1, 1, 1, 1, 1, 1, 1, 1, 1, 1, 0, 1, 0, 0]) := by kernel_rfl
theorem g66nzb8j8 : g66C [1, 1, 1, 1, 1, 1, 1, 1, 1, 1, 1, 1, 1, 1, 0, 1, 0, 0] = .seq (g66C [1, 1, 1, 1, 1, 1, 1, 1, 1, 1, 1, 1, 1, 1, 0, 1, 0, 0, 0]) (g66C [1, 1, 1, 1, 1, 1, 1, 1, 1, 1, 1, 1, 1, 1, 0, 1, 0, 0, 1]) := by kernel_rfl
theorem g66nzmh2h : g66C [1, 1, 1, 1, 1, 1, 1, 1, 1, 1, 1, 1, 1, 1, 0, 1, 0, 0, 1] = .seq (g66C [1, 1, 1, 1, 1, 1, 1, 1, 1, 1, 1, 1, 1, 1, 0, 1, 0, 0, 1, 0]) (g66C [1, 1, 1, 1, 1, 1, 1, 1, 1, 1, 1, 1, 1, 1, 0, 1, 0, 0, 1, 1]) := by kernel_rfl
theorem g66nz18y4y : g66C [1, 1, 1, 1, 1, 1, 1, 1, 1, 1, 1, 1, 1, 1, 0, 1, 0, 0, 1, 0] = .block 3 (g66C [1, 1, 1, 1, 1, 1, 1, 1, 1, 1, 1, 1, 1, 1, 0, 1, 0, 0, 1, 0, 0]) := by kernel_rfl
theorem g66nz2hw9w : g66C [1, 1, 1, 1, 1, 1, 1, 1, 1, 1, 1, 1, 1, 1, 0, 1, 0, 0, 1, 0, 0] = .seq (g66C [1, 1, 1, 1, 1, 1, 1, 1, 1, 1, 1, 1, 1, 1, 0, 1, 0, 0, 1, 0, 0, 0]) (g66C [1, 1, 1, 1, 1, 1, 1, 1, 1, 1, 1, 1, 1, 1, 0, 1, 0, 0, 1, 0, 0, 1]) := by kernel_rfl
theorem g66ez5m9m : g66X (g66C [1, 1, 1, 1, 1, 1, 1, 1, 1, 1, 1, 1, 1, 1, 0, 1, 0]) (g66k1) = fun env st => g66bz5m9m big (env 0) (env 2) (env 4) (env 5) (env 14) (env 17) st := by
  have key : ∀ n, aloop (g66X (g66C [1, 1, 1, 1, 1, 1, 1, 1, 1, 1, 1, 1, 1, 1, 0, 1, 0, 0])) (g66k1) n = fun env st => g66bz5m9m n (env 0) (env 2) (env 4) (env 5) (env 14) (env 17) st := by
    intro n
    induction n with
    | zero => rfl
    | succ n ih =>
      have h : aloop (g66X (g66C [1, 1, 1, 1, 1, 1, 1, 1, 1, 1, 1, 1, 1, 1, 0, 1, 0, 0])) (g66k1) (n + 1) = g66X (g66C [1, 1, 1, 1, 1, 1, 1, 1, 1, 1, 1, 1, 1, 1, 0, 1, 0, 0]) (kSeq (aloop (g66X (g66C [1, 1, 1, 1, 1, 1, 1, 1, 1, 1, 1, 1, 1, 1, 0, 1, 0, 0])) (g66k1) n) (g66k1)) := rfl
      rw [h, ih]
      refine Eq.trans (g66seq g66nzb8j8 ((g66seq g66nzmh2h rfl).trans ((g66blk g66nz18y4y).trans (g66seq g66nz2hw9w (g66ez4zsjt (g66bz5m9m n)))))) ?_
      funext env st
      kernel_rfl
  exact (g66loop g66nz5m9m).trans (key big)
noncomputable def g66bzcn3 (x0 : V) (x2 : V) (x4 : V) (x5 : V) (x14 : V) (x15 : V) (st : St) : Res :=
 A.bin .add x5 x15 fun a1 =>
 g66bz5m9m big x0 x2 x4 a1 x14 (.int .i64 0) st
theorem g66nzcn3 : g66C [1, 1, 1, 1, 1, 1, 1, 1, 1, 1, 1, 1, 1] = .seq (g66C [1, 1, 1, 1, 1, 1, 1, 1, 1, 1, 1, 1, 1, 0]) (g66C [1, 1, 1, 1, 1, 1, 1, 1, 1, 1, 1, 1, 1, 1]) := by kernel_rfl
theorem g66nzpa7 : g66C [1, 1, 1, 1, 1, 1, 1, 1, 1, 1, 1, 1, 1, 1] = .seq (g66C [1, 1, 1, 1, 1, 1, 1, 1, 1, 1, 1, 1, 1, 1, 0]) (g66C [1, 1, 1, 1, 1, 1, 1, 1, 1, 1, 1, 1, 1, 1, 1]) := by kernel_rfl
theorem g66nz1eke : g66C [1, 1, 1, 1, 1, 1, 1, 1, 1, 1, 1, 1, 1, 1, 0] = .seq (g66C [1, 1, 1, 1, 1, 1, 1, 1, 1, 1, 1, 1, 1, 1, 0, 0]) (g66C [1, 1, 1, 1, 1, 1, 1, 1, 1, 1, 1, 1, 1, 1, 0, 1]) := by kernel_rfl
theorem g66nz2t4t : g66C [1, 1, 1, 1, 1, 1, 1, 1, 1, 1, 1, 1, 1, 1, 0, 1] = .block 2 (g66C [1, 1, 1, 1, 1, 1, 1, 1, 1, 1, 1, 1, 1, 1, 0, 1, 0]) := by kernel_rfl
theorem g66ezcn3 : g66X (g66C [1, 1, 1, 1, 1, 1, 1, 1, 1, 1, 1, 1, 1]) (g66kr) = fun env st => g66bzcn3 (env 0) (env 2) (env 4) (env 5) (env 14) (env 15) st := by
  refine Eq.trans (g66seq g66nzcn3 ((g66seq g66nzpa7 rfl).trans (g66seq g66nz1eke ((g66blk g66nz2t4t).trans (g66ez5m9m))))) ?_
  funext env st
  kernel_rfl
noncomputable def g66bz6bj (x0 : V) (x2 : V) (x4 : V) (x5 : V) (x14 : V) (x15 : V) (x16 : V) (st : St) : Res :=
 A.eql 2 true x16 (.int .i64 0) fun a1 =>
 A.guard a1 false
 (A.bin .gtr x14 (.int .i64 4096) fun a2 =>
 A.cond a2
 (A.load true 4 x4 st fun a3 z4 =>
 A.store 4 x2 a3 z4 fun z5 =>
 A.res (rcell (A.load true 4 x2 z5 kid) (rtmp (.bool false) (some []))) z5)
 (g66bzcn3 x0 x2 x4 x5 x14 x15 st))
 (A.load true 4 x4 st fun a6 z7 =>
 A.store 4 x2 a6 z7 fun z8 =>
 A.res (rcell (A.load true 4 x2 z8 kid) (rtmp (.bool false) (some []))) z8)
theorem g66nz6bj : g66C [1, 1, 1, 1, 1, 1, 1, 1, 1, 1, 1, 1] = .seq (g66C [1, 1, 1, 1, 1, 1, 1, 1, 1, 1, 1, 1, 0]) (g66C [1, 1, 1, 1, 1, 1, 1, 1, 1, 1, 1, 1, 1]) := by kernel_rfl
theorem g66ez6bj : g66X (g66C [1, 1, 1, 1, 1, 1, 1, 1, 1, 1, 1, 1]) (g66kr) = fun env st => g66bz6bj (env 0) (env 2) (env 4) (env 5) (env 14) (env 15) (env 16) st := by
  refine Eq.trans (g66seq g66nz6bj (g66ezcn3)) ?_
  funext env st
  kernel_rfl
noncomputable def g66bz35r (x0 : V) (x2 : V) (x4 : V) (x5 : V) (st : St) : Res :=
 A.sliceS x0 (some x5) none fun a1 =>
 A.ret (s77 [a1.er1] st) fun a2 z3 =>
 A.ext a2 0 fun a4 =>
 A.ext a2 1 fun a5 =>
 A.ext a2 2 fun a6 =>
 g66bz6bj x0 x2 x4 x5 a4 a5 a6 z3
theorem g66nz35r : g66C [1, 1, 1, 1, 1, 1, 1, 1, 1, 1, 1] = .seq (g66C [1, 1, 1, 1, 1, 1, 1, 1, 1, 1, 1, 0]) (g66C [1, 1, 1, 1, 1, 1, 1, 1, 1, 1, 1, 1]) := by kernel_rfl
theorem g66ez35r : g66X (g66C [1, 1, 1, 1, 1, 1, 1, 1, 1, 1, 1]) (g66kr) = fun env st => g66bz35r (env 0) (env 2) (env 4) (env 5) st := by
  refine Eq.trans (g66seq g66nz35r (g66ez6bj)) ?_
  funext env st
  kernel_rfl
noncomputable def g66bze7 (x0 : V) (x2 : V) (x4 : V) (x5 : V) (x11 : V) (x12 : V) (x13 : V) (st : St) : Res :=
 A.eql 2 true x13 (.int .i64 0) fun a1 =>
 A.cond a1
 (A.load true 4 x4 st fun a2 z3 =>
 A.store 4 x2 a2 z3 fun z4 =>
 A.res (rcell (A.load true 4 x2 z4 kid) (rtmp (.bool false) (some []))) z4)
 (A.faddr 2 x4 fun a5 =>
 A.store 1 a5 x11 st fun z6 =>
 A.bin .add x5 x12 fun a7 =>
 g66bz35r x0 x2 x4 a7 z6)
theorem g66nze7 : g66C [1, 1, 1, 1, 1, 1, 1, 1] = .seq (g66C [1, 1, 1, 1, 1, 1, 1, 1, 0]) (g66C [1, 1, 1, 1, 1, 1, 1, 1, 1]) := by kernel_rfl
theorem g66nzsf : g66C [1, 1, 1, 1, 1, 1, 1, 1, 1] = .seq (g66C [1, 1, 1, 1, 1, 1, 1, 1, 1, 0]) (g66C [1, 1, 1, 1, 1, 1, 1, 1, 1, 1]) := by kernel_rfl
theorem g66nz1kv : g66C [1, 1, 1, 1, 1, 1, 1, 1, 1, 1] = .seq (g66C [1, 1, 1, 1, 1, 1, 1, 1, 1, 1, 0]) (g66C [1, 1, 1, 1, 1, 1, 1, 1, 1, 1, 1]) := by kernel_rfl
theorem g66eze7 : g66X (g66C [1, 1, 1, 1, 1, 1, 1, 1]) (g66kr) = fun env st => g66bze7 (env 0) (env 2) (env 4) (env 5) (env 11) (env 12) (env 13) st := by
  refine Eq.trans (g66seq g66nze7 (g66seq g66nzsf (g66seq g66nz1kv (g66ez35r)))) ?_
  funext env st
  kernel_rfl
noncomputable def g66b11111 (x0 : V) (x2 : V) (x4 : V) (x5 : V) (x6 : V) (st : St) : Res :=
 A.iaddr 1 x6 (.int .i64 0) fun a1 =>
 A.load false 1 a1 st fun a2 z3 =>
 A.faddr 0 x4 fun a4 =>
 A.store 1 a4 a2 z3 fun z5 =>
 A.slice 1 x6 (some (.int .i64 2)) none none fun a6 =>
 A.faddr 1 x4 fun a7 =>
 A.store 1 a7 a6 z5 fun z8 =>
 A.sliceS x0 (some x5) none fun a9 =>
 A.ret (s78 [a9.er1] z8) fun a10 z11 =>
 A.ext a10 0 fun a12 =>
 A.ext a10 1 fun a13 =>
 A.ext a10 2 fun a14 =>
 g66bze7 x0 x2 x4 x5 a12 a13 a14 z11
theorem g66n11111 : g66C [1, 1, 1, 1, 1] = .seq (g66C [1, 1, 1, 1, 1, 0]) (g66C [1, 1, 1, 1, 1, 1]) := by kernel_rfl
theorem g66nz3j : g66C [1, 1, 1, 1, 1, 1] = .seq (g66C [1, 1, 1, 1, 1, 1, 0]) (g66C [1, 1, 1, 1, 1, 1, 1]) := by kernel_rfl
theorem g66nz73 : g66C [1, 1, 1, 1, 1, 1, 1] = .seq (g66C [1, 1, 1, 1, 1, 1, 1, 0]) (g66C [1, 1, 1, 1, 1, 1, 1, 1]) := by kernel_rfl
theorem g66e11111 : g66X (g66C [1, 1, 1, 1, 1]) (g66kr) = fun env st => g66b11111 (env 0) (env 2) (env 4) (env 5) (env 6) st := by
  refine Eq.trans (g66seq g66n11111 (g66seq g66nz3j (g66seq g66nz73 (g66eze7)))) ?_
  funext env st
  kernel_rfl
noncomputable def g66k5 : Kon := kSeq (fun env st => g66b11111 (env 0) (env 2) (env 4) (env 5) (env 6) st) (g66kr)
noncomputable def g66k6 : Kon := kBlk 0 (g66k5)
noncomputable def g66k7 (Lz6y : V → V → V → V → V → V → St → Res) : Kon := kSeq (fun env st => Lz6y (env 0) (env 2) (env 4) (env 5) (env 6) (env 7) st) (g66k6)
noncomputable def g66k8 (Lz6y : V → V → V → V → V → V → St → Res) : Kon := kBlk 1 (g66k7 Lz6y)
noncomputable def g66bzoq7 (Lz6y : V → V → V → V → V → V → St → Res) (x0 : V) (x2 : V) (x4 : V) (x5 : V) (x6 : V) (x7 : V) (x8 : V) (st : St) : Res :=
 A.lenL x6 fun a1 =>
 A.eql 2 false a1 (.int .i64 2) fun a2 =>
 A.cond a2
 (A.bin .gtr x8 (.int .i64 64) fun a3 =>
 A.cond a3
 (A.load true 4 x4 st fun a4 z5 =>
 A.store 4 x2 a4 z5 fun z6 =>
 A.res (rcell (A.load true 4 x2 z6 kid) (rtmp (.bool false) (some []))) z6)
 (A.bin .add (.int .i64 2) x8 fun a7 =>
 Lz6y x0 x2 x4 x5 x6 a7 st))
 (Lz6y x0 x2 x4 x5 x6 x7 st)
theorem g66ezoq7 (Lz6y : V → V → V → V → V → V → St → Res) : g66X (g66C [1, 1, 1, 1, 0, 1, 0, 0, 1, 0, 1, 1, 1, 1]) (g66k8 Lz6y) = fun env st => g66bzoq7 Lz6y (env 0) (env 2) (env 4) (env 5) (env 6) (env 7) (env 8) st := by
  refine Eq.trans (Eq.refl (g66X (g66C [1, 1, 1, 1, 0, 1, 0, 0, 1, 0, 1, 1, 1, 1]) (g66k8 Lz6y))) ?_
  funext env st
  kernel_rfl
noncomputable def g66bz339 (Lz6y : V → V → V → V → V → V → St → Res) (x0 : V) (x2 : V) (x4 : V) (x5 : V) (x6 : V) (x7 : V) (x8 : V) (x9 : V) (x10 : V) (st : St) : Res :=
 A.eql 2 true x10 (.int .i64 0) fun a1 =>
 A.cond a1
 (A.load true 4 x4 st fun a2 z3 =>
 A.store 4 x2 a2 z3 fun z4 =>
 A.res (rcell (A.load true 4 x2 z4 kid) (rtmp (.bool false) (some []))) z4)
 (A.bslice 1 (.int .i64 0) 1 [(0, x8)] fun a5 =>
 A.app 1 x6 (elemsOf 5 1 a5 st) st fun a6 z7 =>
 A.bin .add x5 x9 fun a8 =>
 g66bzoq7 Lz6y x0 x2 x4 a8 a6 x7 x8 z7)
theorem g66nz339 : g66C [1, 1, 1, 1, 0, 1, 0, 0, 1, 0, 1] = .seq (g66C [1, 1, 1, 1, 0, 1, 0, 0, 1, 0, 1, 0]) (g66C [1, 1, 1, 1, 0, 1, 0, 0, 1, 0, 1, 1]) := by kernel_rfl
theorem g66nz66j : g66C [1, 1, 1, 1, 0, 1, 0, 0, 1, 0, 1, 1] = .seq (g66C [1, 1, 1, 1, 0, 1, 0, 0, 1, 0, 1, 1, 0]) (g66C [1, 1, 1, 1, 0, 1, 0, 0, 1, 0, 1, 1, 1]) := by kernel_rfl
theorem g66nzcd3 : g66C [1, 1, 1, 1, 0, 1, 0, 0, 1, 0, 1, 1, 1] = .seq (g66C [1, 1, 1, 1, 0, 1, 0, 0, 1, 0, 1, 1, 1, 0]) (g66C [1, 1, 1, 1, 0, 1, 0, 0, 1, 0, 1, 1, 1, 1]) := by kernel_rfl
theorem g66ez339 (Lz6y : V → V → V → V → V → V → St → Res) : g66X (g66C [1, 1, 1, 1, 0, 1, 0, 0, 1, 0, 1]) (g66k8 Lz6y) = fun env st => g66bz339 Lz6y (env 0) (env 2) (env 4) (env 5) (env 6) (env 7) (env 8) (env 9) (env 10) st := by
  refine Eq.trans (g66seq g66nz339 (g66seq g66nz66j (g66seq g66nzcd3 (g66ezoq7 Lz6y)))) ?_
  funext env st
  kernel_rfl
noncomputable def g66bz6y : Nat → V → V → V → V → V → V → St → Res
| 0, _, _, _, _, _, _, _ => none
| n + 1, x0, x2, x4, x5, x6, x7, st =>
 A.lenL x6 fun a1 =>
 A.bin .lss a1 x7 fun a2 =>
 A.cond a2
 (A.sliceS x0 (some x5) none fun a3 =>
 A.ret (s77 [a3.er1] st) fun a4 z5 =>
 A.ext a4 0 fun a6 =>
 A.ext a4 1 fun a7 =>
 A.ext a4 2 fun a8 =>
 g66bz339 (g66bz6y n) x0 x2 x4 x5 x6 x7 a6 a7 a8 z5)
 (g66b11111 x0 x2 x4 x5 x6 st)
theorem g66nz6y : g66C [1, 1, 1, 1, 0, 1, 0] = .loop (g66C [1, 1, 1, 1, 0, 1, 0, 0]) := by kernel_rfl
theorem g66nzdw : g66C [1, 1, 1, 1, 0, 1, 0, 0] = .seq (g66C [1, 1, 1, 1, 0, 1, 0, 0, 0]) (g66C [1, 1, 1, 1, 0, 1, 0, 0, 1]) := by kernel_rfl
theorem g66nzrt : g66C [1, 1, 1, 1, 0, 1, 0, 0, 1] = .block 1 (g66C [1, 1, 1, 1, 0, 1, 0, 0, 1, 0]) := by kernel_rfl
theorem g66nz1jm : g66C [1, 1, 1, 1, 0, 1, 0, 0, 1, 0] = .seq (g66C [1, 1, 1, 1, 0, 1, 0, 0, 1, 0, 0]) (g66C [1, 1, 1, 1, 0, 1, 0, 0, 1, 0, 1]) := by kernel_rfl
theorem g66ez6y : g66X (g66C [1, 1, 1, 1, 0, 1, 0]) (g66k6) = fun env st => g66bz6y big (env 0) (env 2) (env 4) (env 5) (env 6) (env 7) st := by
  have key : ∀ n, aloop (g66X (g66C [1, 1, 1, 1, 0, 1, 0, 0])) (g66k6) n = fun env st => g66bz6y n (env 0) (env 2) (env 4) (env 5) (env 6) (env 7) st := by
    intro n
    induction n with
    | zero => rfl
    | succ n ih =>
      have h : aloop (g66X (g66C [1, 1, 1, 1, 0, 1, 0, 0])) (g66k6) (n + 1) = g66X (g66C [1, 1, 1, 1, 0, 1, 0, 0]) (kSeq (aloop (g66X (g66C [1, 1, 1, 1, 0, 1, 0, 0])) (g66k6) n) (g66k6)) := rfl
      rw [h, ih]
      refine Eq.trans (g66seq g66nzdw ((g66blk g66nzrt).trans (g66seq g66nz1jm (g66ez339 (g66bz6y n))))) ?_
      funext env st
      kernel_rfl
  exact (g66loop g66nz6y).trans (key big)
noncomputable def f66 (x0 : V) (st : St) : Res :=
 A.box (.agg [(.int .i64 0), (.lst [] 1), (.lst [] 1), (.lst [] 1)]) st fun a1 z2 =>
 A.build [(.int .i64 0), (.lst [] 1), (.lst [] 1), (.lst [] 1)] [] fun a3 =>
 A.box (.agg [(.int .i64 0), (.lst [] 1), (.lst [] 1), (.lst [] 1)]) z2 fun a4 z5 =>
 A.store 4 a4 a3 z5 fun z6 =>
 g66bz6y big x0 a1 a4 (.int .i64 0) (.lst [] 1) (.int .i64 2) z6
theorem g66nr : g66C [] = .seq (g66C [0]) (g66C [1]) := by kernel_rfl
theorem g66n1 : g66C [1] = .seq (g66C [1, 0]) (g66C [1, 1]) := by kernel_rfl
theorem g66n11 : g66C [1, 1] = .seq (g66C [1, 1, 0]) (g66C [1, 1, 1]) := by kernel_rfl
theorem g66n111 : g66C [1, 1, 1] = .seq (g66C [1, 1, 1, 0]) (g66C [1, 1, 1, 1]) := by kernel_rfl
theorem g66n1111 : g66C [1, 1, 1, 1] = .seq (g66C [1, 1, 1, 1, 0]) (g66C [1, 1, 1, 1, 1]) := by kernel_rfl
theorem g66n11110 : g66C [1, 1, 1, 1, 0] = .seq (g66C [1, 1, 1, 1, 0, 0]) (g66C [1, 1, 1, 1, 0, 1]) := by kernel_rfl
theorem g66nz3h : g66C [1, 1, 1, 1, 0, 1] = .block 0 (g66C [1, 1, 1, 1, 0, 1, 0]) := by kernel_rfl
theorem g66er (env : Env) (st : St) : g66X (g66C []) g66kr env st = f66 (env 0) st := by
  rw [(g66seq g66nr (g66seq g66n1 (g66seq g66n11 (g66seq g66n111 ((g66seq g66n1111 (g66e11111)).trans (g66seq g66n11110 ((g66blk g66nz3h).trans (g66ez6y))))))))]
  kernel_rfl
theorem s66_eq (x0 : V) (st : St) : s66 [x0] st = fg (f66 x0 st) st := by
  have h : afn Try.prog g66mu g66T big (areg Try.prog g66mu g66T) 66 [x0] st = g66X (g66C []) g66kr (fun t => [x0].getD t (.tup [])) st := by kernel_rfl
  rw [s66, sealF_eq]
  show fg _ st = fg _ st
  refine congrArg (fun r => fg r st) ?_
  exact h.trans (g66er _ st)
/-! sinew/sinewref03.Unpack -/
def g49mu : Nat → Bool := fun _ => false
noncomputable def g49T : Tbl := tget [(47, s47), (65, s65), (66, s66)]
theorem g49t : SimT Try.prog g49T := simT_cons sim47 ( simT_cons sim65 ( simT_cons sim66 (simT_nil)))
noncomputable def s49 : Fn := sealF (fun args st => fg (afn Try.prog g49mu g49T big (areg Try.prog g49mu g49T) 49 args st) st)
theorem sim49 : Sim Try.prog 49 s49 := (afn_sim g49t (fun m => areg_sound g49t hmix m) 49 (by kernel_rfl)).fg.sealed
noncomputable def g49C (p : List Nat) : Code := sub (match Try.f49.body with | some c => c | none => .skip) p
noncomputable def g49X (c : Code) (K : Kon) : Env → St → Res := aexec Try.prog g49mu g49T big 46 (areg Try.prog g49mu g49T 46) c K
noncomputable def g49kr : Kon := aresK Try.prog Try.f49.results.toList
theorem g49reg {c : Code} {K : Kon} {G : Env → St → Res} {id : Nat} {ops : Array Oper} {l1 l2 : List Nat} (hc : c = .region id ops false) (hl : List.range ops.size = l1 ++ l2) (h : (fun env st => aops Try.prog g49mu g49T 46 ops l2 env st (K .normal)) = G) : g49X c K = fun env st => aops Try.prog g49mu g49T 46 ops l1 env st G := reg_cut hc hl h
theorem g49seq {c x y : Code} {K : Kon} {G : Env → St → Res} (hc : c = .seq x y) (hy : g49X y K = G) : g49X c K = g49X x (kSeq G K) := seq_cut hc hy
theorem g49blk {c x : Code} {K : Kon} {i : Nat} (hc : c = .block i x) : g49X c K = g49X x (kBlk i K) := blk_cut hc
theorem g49loop {c x : Code} {K : Kon} (hc : c = .loop x) : g49X c K = aloop (g49X x) K big := loop_cut hc
theorem g49cond {c x y : Code} {K : Kon} {v : Operand} {F G : Env → St → Res} (hc : c = .cond v x y) (hx : g49X x K = F) (hy : g49X y K = G) : g49X c K = condF v F G := cond_cut hc hx hy
noncomputable def g49bze7 (x2 : V) (x5 : V) (x7 : V) (x8 : V) (st : St) : Res :=
 A.un .not x8 fun a1 =>
 A.cond a1
 (A.build [(.int .i64 0), (.lst [] 1), (.lst [] 1), (.lst [] 1)] [] fun a2 =>
 A.store 4 x2 a2 st fun z3 =>
 A.res (rcell (A.load true 4 x2 z3 kid) (rtmp (.int .i64 0) (rtmp (.int .i64 31) (some [])))) z3)
 (A.load true 4 x7 st fun a4 z5 =>
 A.bin .add (.int .i64 8) x5 fun a6 =>
 A.store 4 x2 a4 z5 fun z7 =>
 A.res (rcell (A.load true 4 x2 z7 kid) (rtmp a6 (rtmp (.int .i64 0) (some [])))) z7)
theorem g49eze7 : g49X (g49C [1, 1, 1, 1, 1, 1, 1, 1]) (g49kr) = fun env st => g49bze7 (env 2) (env 5) (env 7) (env 8) st := by
  refine Eq.trans (Eq.refl (g49X (g49C [1, 1, 1, 1, 1, 1, 1, 1]) (g49kr))) ?_
  funext env st
  kernel_rfl
noncomputable def g49bz73 (x2 : V) (x5 : V) (x6 : V) (st : St) : Res :=
 A.ret (s66 [x6.er1] st) fun a1 z2 =>
 A.ext a1 0 fun a3 =>
 A.ext a1 1 fun a4 =>
 A.box (.agg [(.int .i64 0), (.lst [] 1), (.lst [] 1), (.lst [] 1)]) z2 fun a5 z6 =>
 A.store 4 a5 a3 z6 fun z7 =>
 g49bze7 x2 x5 a5 a4 z7
theorem g49nz73 : g49C [1, 1, 1, 1, 1, 1, 1] = .seq (g49C [1, 1, 1, 1, 1, 1, 1, 0]) (g49C [1, 1, 1, 1, 1, 1, 1, 1]) := by kernel_rfl
theorem g49ez73 : g49X (g49C [1, 1, 1, 1, 1, 1, 1]) (g49kr) = fun env st => g49bz73 (env 2) (env 5) (env 6) st := by
  refine Eq.trans (g49seq g49nz73 (g49eze7)) ?_
  funext env st
  kernel_rfl
noncomputable def g49k0 : Kon := kSeq (fun env st => g49bz73 (env 2) (env 5) (env 6) st) (g49kr)
noncomputable def g49bze5 (x2 : V) (x5 : V) (x6 : V) (x33 : V) (st : St) : Res :=
 A.cond x33
 (A.build [(.int .i64 0), (.lst [] 1), (.lst [] 1), (.lst [] 1)] [] fun a1 =>
 A.store 4 x2 a1 st fun z2 =>
 A.res (rcell (A.load true 4 x2 z2 kid) (rtmp (.int .i64 0) (rtmp (.int .i64 30) (some [])))) z2)
 (g49bz73 x2 x5 x6 st)
theorem g49eze5 : g49X (g49C [1, 1, 1, 1, 1, 1, 0, 1]) (g49k0) = fun env st => g49bze5 (env 2) (env 5) (env 6) (env 33) st := by
  refine Eq.trans (Eq.refl (g49X (g49C [1, 1, 1, 1, 1, 1, 0, 1]) (g49k0))) ?_
  funext env st
  kernel_rfl
noncomputable def g49b11111 (x0 : V) (x2 : V) (x5 : V) (st : St) : Res :=
 A.bin .add (.int .i64 8) x5 fun a1 =>
 A.sliceS x0 (some (.int .i64 8)) (some a1) fun a2 =>
 A.sliceS x0 (some (.int .i64 4)) none fun a3 =>
 A.ret (s65 [a3.er1] st) fun a4 z5 =>
 A.ret (s47 [a2.er1] z5) fun a6 z7 =>
 A.eql 2 true a4 a6 fun a8 =>
 g49bze5 x2 x5 a2 a8 z7
theorem g49n11111 : g49C [1, 1, 1, 1, 1] = .seq (g49C [1, 1, 1, 1, 1, 0]) (g49C [1, 1, 1, 1, 1, 1]) := by kernel_rfl
theorem g49nz3j : g49C [1, 1, 1, 1, 1, 1] = .seq (g49C [1, 1, 1, 1, 1, 1, 0]) (g49C [1, 1, 1, 1, 1, 1, 1]) := by kernel_rfl
theorem g49nz72 : g49C [1, 1, 1, 1, 1, 1, 0] = .seq (g49C [1, 1, 1, 1, 1, 1, 0, 0]) (g49C [1, 1, 1, 1, 1, 1, 0, 1]) := by kernel_rfl
theorem g49e11111 : g49X (g49C [1, 1, 1, 1, 1]) (g49kr) = fun env st => g49b11111 (env 0) (env 2) (env 5) st := by
  refine Eq.trans (g49seq g49n11111 ((g49seq g49nz3j (g49ez73)).trans (g49seq g49nz72 (g49eze5)))) ?_
  funext env st
  kernel_rfl
noncomputable def g49k1 : Kon := kSeq (fun env st => g49b11111 (env 0) (env 2) (env 5) st) (g49kr)
noncomputable def g49bz3h (x0 : V) (x2 : V) (x5 : V) (x22 : V) (st : St) : Res :=
 A.cond x22
 (A.build [(.int .i64 0), (.lst [] 1), (.lst [] 1), (.lst [] 1)] [] fun a1 =>
 A.store 4 x2 a1 st fun z2 =>
 A.res (rcell (A.load true 4 x2 z2 kid) (rtmp (.int .i64 0) (rtmp (.int .i64 11) (some [])))) z2)
 (g49b11111 x0 x2 x5 st)
theorem g49ez3h : g49X (g49C [1, 1, 1, 1, 0, 1]) (g49k1) = fun env st => g49bz3h (env 0) (env 2) (env 5) (env 22) st := by
  refine Eq.trans (Eq.refl (g49X (g49C [1, 1, 1, 1, 0, 1]) (g49k1))) ?_
  funext env st
  kernel_rfl
noncomputable def g49b111 (x0 : V) (x2 : V) (x5 : V) (st : St) : Res :=
 A.bin .gtr x5 (.int .i64 1048576) fun a1 =>
 A.cond a1
 (A.build [(.int .i64 0), (.lst [] 1), (.lst [] 1), (.lst [] 1)] [] fun a2 =>
 A.store 4 x2 a2 st fun z3 =>
 A.res (rcell (A.load true 4 x2 z3 kid) (rtmp (.int .i64 0) (rtmp (.int .i64 31) (some [])))) z3)
 (A.lenS x0 fun a4 =>
 A.bin .sub a4 (.int .i64 8) fun a5 =>
 A.bin .lss a5 x5 fun a6 =>
 g49bz3h x0 x2 x5 a6 st)
theorem g49n111 : g49C [1, 1, 1] = .seq (g49C [1, 1, 1, 0]) (g49C [1, 1, 1, 1]) := by kernel_rfl
theorem g49n1111 : g49C [1, 1, 1, 1] = .seq (g49C [1, 1, 1, 1, 0]) (g49C [1, 1, 1, 1, 1]) := by kernel_rfl
theorem g49n11110 : g49C [1, 1, 1, 1, 0] = .seq (g49C [1, 1, 1, 1, 0, 0]) (g49C [1, 1, 1, 1, 0, 1]) := by kernel_rfl
theorem g49e111 : g49X (g49C [1, 1, 1]) (g49kr) = fun env st => g49b111 (env 0) (env 2) (env 5) st := by
  refine Eq.trans (g49seq g49n111 ((g49seq g49n1111 (g49e11111)).trans (g49seq g49n11110 (g49ez3h)))) ?_
  funext env st
  kernel_rfl
noncomputable def f49 (x0 : V) (st : St) : Res :=
 A.box (.agg [(.int .i64 0), (.lst [] 1), (.lst [] 1), (.lst [] 1)]) st fun a1 z2 =>
 A.lenS x0 fun a3 =>
 A.bin .lss a3 (.int .i64 8) fun a4 =>
 A.cond a4
 (A.build [(.int .i64 0), (.lst [] 1), (.lst [] 1), (.lst [] 1)] [] fun a5 =>
 A.store 4 a1 a5 z2 fun z6 =>
 A.res (rcell (A.load true 4 a1 z6 kid) (rtmp (.int .i64 0) (rtmp (.int .i64 11) (some [])))) z6)
 (A.ret (s65 [x0.er1] z2) fun a7 z8 =>
 g49b111 x0 a1 a7 z8)
theorem g49nr : g49C [] = .seq (g49C [0]) (g49C [1]) := by kernel_rfl
theorem g49n1 : g49C [1] = .seq (g49C [1, 0]) (g49C [1, 1]) := by kernel_rfl
theorem g49n11 : g49C [1, 1] = .seq (g49C [1, 1, 0]) (g49C [1, 1, 1]) := by kernel_rfl
theorem g49er (env : Env) (st : St) : g49X (g49C []) g49kr env st = f49 (env 0) st := by
  rw [(g49seq g49nr (g49seq g49n1 (g49seq g49n11 (g49e111))))]
  kernel_rfl
theorem s49_eq (x0 : V) (st : St) : s49 [x0] st = fg (f49 x0 st) st := by
  have h : afn Try.prog g49mu g49T big (areg Try.prog g49mu g49T) 49 [x0] st = g49X (g49C []) g49kr (fun t => [x0].getD t (.tup [])) st := by kernel_rfl
  rw [s49, sealF_eq]
  show fg _ st = fg _ st
  refine congrArg (fun r => fg r st) ?_
  exact h.trans (g49er _ st)
/-! sinew/sinewref15.one -/
def g37mu : Nat → Bool := fun _ => false
noncomputable def g37T : Tbl := tget [(49, s49)]
theorem g37t : SimT Try.prog g37T := simT_cons sim49 (simT_nil)
noncomputable def s37 : Fn := sealF (fun args st => fg (afn Try.prog g37mu g37T big (areg Try.prog g37mu g37T) 37 args st) st)
theorem sim37 : Sim Try.prog 37 s37 := (afn_sim g37t (fun m => areg_sound g37t hmix m) 37 (by kernel_rfl)).fg.sealed
noncomputable def g37C (p : List Nat) : Code := sub (match Try.f37.body with | some c => c | none => .skip) p
noncomputable def g37X (c : Code) (K : Kon) : Env → St → Res := aexec Try.prog g37mu g37T big 22 (areg Try.prog g37mu g37T 22) c K
noncomputable def g37kr : Kon := aresK Try.prog Try.f37.results.toList
theorem g37reg {c : Code} {K : Kon} {G : Env → St → Res} {id : Nat} {ops : Array Oper} {l1 l2 : List Nat} (hc : c = .region id ops false) (hl : List.range ops.size = l1 ++ l2) (h : (fun env st => aops Try.prog g37mu g37T 22 ops l2 env st (K .normal)) = G) : g37X c K = fun env st => aops Try.prog g37mu g37T 22 ops l1 env st G := reg_cut hc hl h
theorem g37seq {c x y : Code} {K : Kon} {G : Env → St → Res} (hc : c = .seq x y) (hy : g37X y K = G) : g37X c K = g37X x (kSeq G K) := seq_cut hc hy
theorem g37blk {c x : Code} {K : Kon} {i : Nat} (hc : c = .block i x) : g37X c K = g37X x (kBlk i K) := blk_cut hc
theorem g37loop {c x : Code} {K : Kon} (hc : c = .loop x) : g37X c K = aloop (g37X x) K big := loop_cut hc
theorem g37cond {c x y : Code} {K : Kon} {v : Operand} {F G : Env → St → Res} (hc : c = .cond v x y) (hx : g37X x K = F) (hy : g37X y K = G) : g37X c K = condF v F G := cond_cut hc hx hy
noncomputable def g37b11 (x0 : V) (x2 : V) (x4 : V) (x5 : V) (x6 : V) (st : St) : Res :=
 A.load true 4 x4 st fun a1 z2 =>
 A.eql 2 false x6 (.int .i64 0) fun a3 =>
 A.guard a3 true
 (A.lenS x0 fun a4 =>
 A.eql 2 false x5 a4 fun a5 =>
 A.store 4 x2 a1 z2 fun z6 =>
 A.res (rcell (A.load true 4 x2 z6 kid) (rtmp a5 (some []))) z6)
 (A.store 4 x2 a1 z2 fun z7 =>
 A.res (rcell (A.load true 4 x2 z7 kid) (rtmp (.bool false) (some []))) z7)
theorem g37e11 : g37X (g37C [1, 1]) (g37kr) = fun env st => g37b11 (env 0) (env 2) (env 4) (env 5) (env 6) st := by
  refine Eq.trans (Eq.refl (g37X (g37C [1, 1]) (g37kr))) ?_
  funext env st
  kernel_rfl
noncomputable def f37 (x0 : V) (st : St) : Res :=
 A.box (.agg [(.int .i64 0), (.lst [] 1), (.lst [] 1), (.lst [] 1)]) st fun a1 z2 =>
 A.ret (s49 [x0.er1] z2) fun a3 z4 =>
 A.ext a3 0 fun a5 =>
 A.ext a3 1 fun a6 =>
 A.ext a3 2 fun a7 =>
 A.box (.agg [(.int .i64 0), (.lst [] 1), (.lst [] 1), (.lst [] 1)]) z4 fun a8 z9 =>
 A.store 4 a8 a5 z9 fun z10 =>
 g37b11 x0 a1 a8 a6 a7 z10
theorem g37nr : g37C [] = .seq (g37C [0]) (g37C [1]) := by kernel_rfl
theorem g37n1 : g37C [1] = .seq (g37C [1, 0]) (g37C [1, 1]) := by kernel_rfl
theorem g37er (env : Env) (st : St) : g37X (g37C []) g37kr env st = f37 (env 0) st := by
  rw [(g37seq g37nr (g37seq g37n1 (g37e11)))]
  kernel_rfl
theorem s37_eq (x0 : V) (st : St) : s37 [x0] st = fg (f37 x0 st) st := by
  have h : afn Try.prog g37mu g37T big (areg Try.prog g37mu g37T) 37 [x0] st = g37X (g37C []) g37kr (fun t => [x0].getD t (.tup [])) st := by kernel_rfl
  rw [s37, sealF_eq]
  show fg _ st = fg _ st
  refine congrArg (fun r => fg r st) ?_
  exact h.trans (g37er _ st)
/-! sinew/sinewref15.bare -/
def g38mu : Nat → Bool := fun _ => false
noncomputable def g38T : Tbl := tget [(33, s33)]
theorem g38t : SimT Try.prog g38T := simT_cons sim33 (simT_nil)
noncomputable def s38 : Fn := sealF (fun args st => fg (afn Try.prog g38mu g38T big (areg Try.prog g38mu g38T) 38 args st) st)
theorem sim38 : Sim Try.prog 38 s38 := (afn_sim g38t (fun m => areg_sound g38t hmix m) 38 (by kernel_rfl)).fg.sealed
noncomputable def f38 (x0 : V) (st : St) : Res :=
 A.box x0 st fun a1 z2 =>
 A.faddr 0 a1 fun a3 =>
 A.load false 1 a3 z2 fun a4 z5 =>
 A.faddr 1 a1 fun a6 =>
 A.load false 1 a6 z5 fun a7 z8 =>
 A.faddr 3 a1 fun a9 =>
 A.load false 1 a9 z8 fun a10 z11 =>
 A.bslice 1 (.int .i64 0) 3 [(0, a4), (1, a7), (2, a10)] fun a12 =>
 A.build [(.int .i64 0), (.lst [] 1), (.lst [] 1), (.lst [] 1)] [(0, 1, (.int .i64 2)), (1, 1, a12)] fun a13 =>
 A.ret (s33 [a13.er1] z11) fun a14 z15 =>
 A.ext a14 0 fun a16 =>
 A.ext a14 1 fun a17 =>
 some (.ret a16.er1, z15)
theorem s38_eq (x0 : V) (st : St) : s38 [x0] st = fg (f38 x0 st) st := by
  rw [s38, sealF_eq]
  show fg _ st = fg _ st
  refine congrArg (fun r => fg r st) ?_
  kernel_rfl
/-! sinew/sinewref15.Take -/
def g20mu : Nat → Bool := fun _ => false
noncomputable def g20T : Tbl := tget [(37, s37), (38, s38)]
theorem g20t : SimT Try.prog g20T := simT_cons sim37 ( simT_cons sim38 (simT_nil))
noncomputable def s20 : Fn := sealF (fun args st => fg (afn Try.prog g20mu g20T big (areg Try.prog g20mu g20T) 20 args st) st)
theorem sim20 : Sim Try.prog 20 s20 := (afn_sim g20t (fun m => areg_sound g20t hmix m) 20 (by kernel_rfl)).fg.sealed
noncomputable def g20C (p : List Nat) : Code := sub (match Try.f20.body with | some c => c | none => .skip) p
noncomputable def g20X (c : Code) (K : Kon) : Env → St → Res := aexec Try.prog g20mu g20T big 173 (areg Try.prog g20mu g20T 173) c K
noncomputable def g20kr : Kon := aresK Try.prog Try.f20.results.toList
theorem g20reg {c : Code} {K : Kon} {G : Env → St → Res} {id : Nat} {ops : Array Oper} {l1 l2 : List Nat} (hc : c = .region id ops false) (hl : List.range ops.size = l1 ++ l2) (h : (fun env st => aops Try.prog g20mu g20T 173 ops l2 env st (K .normal)) = G) : g20X c K = fun env st => aops Try.prog g20mu g20T 173 ops l1 env st G := reg_cut hc hl h
theorem g20regD {c : Code} {K : Kon} {G : Env → St → Res} {id : Nat} {ops : Array Oper} {l1 l2 : List Nat} (hc : c = .region id ops true) (hok : regOk Try.prog g20mu ops (befs ops.toList []) = true) (hq : quiet Try.prog g20mu ops = true) (hl : List.range ops.size = l1 ++ l2) (h : (fun env st => aops Try.prog g20mu g20T 173 ops l2 env st (K .normal)) = G) : g20X c K = fun env st => aops Try.prog g20mu g20T 173 ops l1 env st G := reg_cutD hc hok hq hl h
theorem g20seq {c x y : Code} {K : Kon} {G : Env → St → Res} (hc : c = .seq x y) (hy : g20X y K = G) : g20X c K = g20X x (kSeq G K) := seq_cut hc hy
theorem g20blk {c x : Code} {K : Kon} {i : Nat} (hc : c = .block i x) : g20X c K = g20X x (kBlk i K) := blk_cut hc
theorem g20loop {c x : Code} {K : Kon} (hc : c = .loop x) : g20X c K = aloop (g20X x) K big := loop_cut hc
theorem g20cond {c x y : Code} {K : Kon} {v : Operand} {F G : Env → St → Res} (hc : c = .cond v x y) (hx : g20X x K = F) (hy : g20X y K = G) : g20X c K = condF v F G := cond_cut hc hx hy
noncomputable def g20bzcn3 (x2 : V) (x4 : V) (x13 : V) (x15 : V) (st : St) : Res :=
 A.load true 5 x2 st fun a1 _ =>
 A.load true 5 x2 st fun a2 _ =>
 A.noP (A.ret (s38 [a2.er1] st) kid) fun a3 z4 =>
 A.chk (ldv true 5 x2 z4) a1
 (A.bslice 1 (.str []) 1 [(0, a3)] fun a5 =>
 A.noP (A.store 5 x4 a1 z4 fun s => kid (.tup []) s) fun a6 z7 =>
 A.res (rcell (A.load true 5 x4 z7 kid) (rtmp x15 (rtmp a5 (rtmp x13 (some []))))) z7)
theorem g20ezcn3 : g20X (g20C [1, 1, 1, 1, 1, 1, 1, 1, 1, 1, 1, 1, 1]) (g20kr) = fun env st => g20bzcn3 (env 2) (env 4) (env 13) (env 15) st := by
  refine Eq.trans (Eq.refl (g20X (g20C [1, 1, 1, 1, 1, 1, 1, 1, 1, 1, 1, 1, 1]) (g20kr))) ?_
  funext env st
  kernel_rfl
noncomputable def g20k0 : Kon := kSeq (fun env st => g20bzcn3 (env 2) (env 4) (env 13) (env 15) st) (g20kr)
noncomputable def g20bzpa5 (x2 : V) (x4 : V) (x10 : V) (x13 : V) (x15 : V) (x158 : V) (st : St) : Res :=
 A.cond x158
 (A.load true 4 x10 st fun a1 z2 =>
 A.bslice 4 (.agg [(.int .i64 0), (.lst [] 1), (.lst [] 1), (.lst [] 1)]) 1 [(0, a1)] fun a3 =>
 A.app 4 x15 (elemsOf 5 4 a3 z2) z2 fun a4 z5 =>
 A.faddr 3 x2 fun a6 =>
 A.load false 1 a6 z5 fun a7 z8 =>
 A.bin .add a7 (.int .i64 1) fun a9 =>
 A.faddr 3 x2 fun a10 =>
 A.store 1 a10 a9 z8 fun z11 =>
 g20bzcn3 x2 x4 x13 a4 z11)
 (g20bzcn3 x2 x4 x13 x15 st)
theorem g20ezpa5 : g20X (g20C [1, 1, 1, 1, 1, 1, 1, 1, 1, 1, 1, 1, 0, 1]) (g20k0) = fun env st => g20bzpa5 (env 2) (env 4) (env 10) (env 13) (env 15) (env 158) st := by
  refine Eq.trans (Eq.refl (g20X (g20C [1, 1, 1, 1, 1, 1, 1, 1, 1, 1, 1, 1, 0, 1]) (g20k0))) ?_
  funext env st
  kernel_rfl
noncomputable def g20bz1kv (x2 : V) (x4 : V) (x8 : V) (x10 : V) (x13 : V) (st : St) : Res :=
 A.faddr 0 x8 fun a1 =>
 A.load false 1 a1 st fun a2 z3 =>
 A.eql 2 false a2 (.int .i64 2) fun a4 =>
 A.cond a4
 (A.load true 5 x2 z3 fun a5 z6 =>
 A.store 5 x4 a5 z6 fun z7 =>
 A.res (rcell (A.load true 5 x4 z7 kid) (rtmp (.lst [] 1) (rtmp (.lst [] 1) (rtmp x13 (some []))))) z7)
 (A.faddr 1 x8 fun a8 =>
 A.load false 1 a8 z3 fun a9 _ =>
 A.iaddr 1 a9 (.int .i64 2) fun a10 =>
 A.load false 1 a10 z3 fun a11 _ =>
 A.faddr 3 x2 fun a12 =>
 A.load false 1 a12 z3 fun a13 _ =>
 A.eql 2 false a11 a13 fun a14 =>
 g20bzpa5 x2 x4 x10 x13 (.lst [] 1) a14 z3)
theorem g20nz1kv : g20C [1, 1, 1, 1, 1, 1, 1, 1, 1, 1] = .seq (g20C [1, 1, 1, 1, 1, 1, 1, 1, 1, 1, 0]) (g20C [1, 1, 1, 1, 1, 1, 1, 1, 1, 1, 1]) := by kernel_rfl
theorem g20nz35r : g20C [1, 1, 1, 1, 1, 1, 1, 1, 1, 1, 1] = .seq (g20C [1, 1, 1, 1, 1, 1, 1, 1, 1, 1, 1, 0]) (g20C [1, 1, 1, 1, 1, 1, 1, 1, 1, 1, 1, 1]) := by kernel_rfl
theorem g20nz6bj : g20C [1, 1, 1, 1, 1, 1, 1, 1, 1, 1, 1, 1] = .seq (g20C [1, 1, 1, 1, 1, 1, 1, 1, 1, 1, 1, 1, 0]) (g20C [1, 1, 1, 1, 1, 1, 1, 1, 1, 1, 1, 1, 1]) := by kernel_rfl
theorem g20nzcn2 : g20C [1, 1, 1, 1, 1, 1, 1, 1, 1, 1, 1, 1, 0] = .seq (g20C [1, 1, 1, 1, 1, 1, 1, 1, 1, 1, 1, 1, 0, 0]) (g20C [1, 1, 1, 1, 1, 1, 1, 1, 1, 1, 1, 1, 0, 1]) := by kernel_rfl
theorem g20ez1kv : g20X (g20C [1, 1, 1, 1, 1, 1, 1, 1, 1, 1]) (g20kr) = fun env st => g20bz1kv (env 2) (env 4) (env 8) (env 10) (env 13) st := by
  refine Eq.trans (g20seq g20nz1kv (g20seq g20nz35r ((g20seq g20nz6bj (g20ezcn3)).trans (g20seq g20nzcn2 (g20ezpa5))))) ?_
  funext env st
  kernel_rfl
noncomputable def g20k1 : Kon := kSeq (fun env st => g20bz1kv (env 2) (env 4) (env 8) (env 10) (env 13) st) (g20kr)
noncomputable def g20k2 : Kon := kBlk 0 (g20k1)
noncomputable def g20k3 (Lz35o : V → V → V → V → V → V → St → Res) : Kon := kSeq (fun env st => Lz35o (env 2) (env 4) (env 8) (env 10) (env 13) (env 14) st) (g20k2)
noncomputable def g20bzcmp (Lz35o : V → V → V → V → V → V → St → Res) (x2 : V) (x4 : V) (x8 : V) (x10 : V) (x13 : V) (x14 : V) (st : St) : Res :=
 A.faddr 4 x2 fun a1 =>
 A.load false 1 a1 st fun a2 z3 =>
 A.slice 1 a2 (some (.int .i64 1)) none none fun a4 =>
 A.faddr 4 x2 fun a5 =>
 A.store 1 a5 a4 z3 fun z6 =>
 A.faddr 2 x2 fun a7 =>
 A.load false 1 a7 z6 fun a8 z9 =>
 A.bin .add a8 (.int .i64 1) fun a10 =>
 A.faddr 2 x2 fun a11 =>
 A.store 1 a11 a10 z9 fun z12 =>
 Lz35o x2 x4 x8 x10 x13 x14 z12
theorem g20ezcmp (Lz35o : V → V → V → V → V → V → St → Res) : g20X (g20C [1, 1, 1, 1, 1, 1, 1, 1, 1, 0, 0, 0, 1]) (g20k3 Lz35o) = fun env st => g20bzcmp Lz35o (env 2) (env 4) (env 8) (env 10) (env 13) (env 14) st := by
  refine Eq.trans (Eq.refl (g20X (g20C [1, 1, 1, 1, 1, 1, 1, 1, 1, 0, 0, 0, 1]) (g20k3 Lz35o))) ?_
  funext env st
  kernel_rfl
noncomputable def g20bz35o : Nat → V → V → V → V → V → V → St → Res
| 0, _, _, _, _, _, _, _ => none
| n + 1, x2, x4, x8, x10, x13, x14, st =>
 A.faddr 4 x2 fun a1 =>
 A.load false 1 a1 st fun a2 z3 =>
 A.lenL a2 fun a4 =>
 A.bin .gtr a4 (.int .i64 0) fun a5 =>
 A.guard a5 true
 (A.faddr 2 x2 fun a6 =>
 A.load false 1 a6 z3 fun a7 z8 =>
 A.bin .lss a7 x14 fun a9 =>
 A.cond a9
 (g20bzcmp (g20bz35o n) x2 x4 x8 x10 x13 x14 z8)
 (g20bz1kv x2 x4 x8 x10 x13 z8))
 (g20bz1kv x2 x4 x8 x10 x13 z3)
theorem g20nz35o : g20C [1, 1, 1, 1, 1, 1, 1, 1, 1, 0, 0] = .loop (g20C [1, 1, 1, 1, 1, 1, 1, 1, 1, 0, 0, 0]) := by kernel_rfl
theorem g20nz6bc : g20C [1, 1, 1, 1, 1, 1, 1, 1, 1, 0, 0, 0] = .seq (g20C [1, 1, 1, 1, 1, 1, 1, 1, 1, 0, 0, 0, 0]) (g20C [1, 1, 1, 1, 1, 1, 1, 1, 1, 0, 0, 0, 1]) := by kernel_rfl
theorem g20ez35o : g20X (g20C [1, 1, 1, 1, 1, 1, 1, 1, 1, 0, 0]) (g20k2) = fun env st => g20bz35o big (env 2) (env 4) (env 8) (env 10) (env 13) (env 14) st := by
  have key : ∀ n, aloop (g20X (g20C [1, 1, 1, 1, 1, 1, 1, 1, 1, 0, 0, 0])) (g20k2) n = fun env st => g20bz35o n (env 2) (env 4) (env 8) (env 10) (env 13) (env 14) st := by
    intro n
    induction n with
    | zero => rfl
    | succ n ih =>
      have h : aloop (g20X (g20C [1, 1, 1, 1, 1, 1, 1, 1, 1, 0, 0, 0])) (g20k2) (n + 1) = g20X (g20C [1, 1, 1, 1, 1, 1, 1, 1, 1, 0, 0, 0]) (kSeq (aloop (g20X (g20C [1, 1, 1, 1, 1, 1, 1, 1, 1, 0, 0, 0])) (g20k2) n) (g20k2)) := rfl
      rw [h, ih]
      refine Eq.trans (g20seq g20nz6bc (g20ezcmp (g20bz35o n))) ?_
      funext env st
      kernel_rfl
  exact (g20loop g20nz35o).trans (key big)
noncomputable def g20bze7 (x2 : V) (x4 : V) (x8 : V) (x10 : V) (x13 : V) (st : St) : Res :=
 A.faddr 1 x8 fun a1 =>
 A.load false 1 a1 st fun a2 z3 =>
 A.faddr 1 x8 fun a4 =>
 A.load false 1 a4 z3 fun a5 z6 =>
 A.lenL a5 fun a7 =>
 A.bin .sub a7 (.int .i64 1) fun a8 =>
 A.iaddr 1 a2 a8 fun a9 =>
 A.load false 1 a9 z6 fun a10 z11 =>
 g20bz35o big x2 x4 x8 x10 x13 a10 z11
theorem g20nze7 : g20C [1, 1, 1, 1, 1, 1, 1, 1] = .seq (g20C [1, 1, 1, 1, 1, 1, 1, 1, 0]) (g20C [1, 1, 1, 1, 1, 1, 1, 1, 1]) := by kernel_rfl
theorem g20nzsf : g20C [1, 1, 1, 1, 1, 1, 1, 1, 1] = .seq (g20C [1, 1, 1, 1, 1, 1, 1, 1, 1, 0]) (g20C [1, 1, 1, 1, 1, 1, 1, 1, 1, 1]) := by kernel_rfl
theorem g20nz1ku : g20C [1, 1, 1, 1, 1, 1, 1, 1, 1, 0] = .block 0 (g20C [1, 1, 1, 1, 1, 1, 1, 1, 1, 0, 0]) := by kernel_rfl
theorem g20eze7 : g20X (g20C [1, 1, 1, 1, 1, 1, 1, 1]) (g20kr) = fun env st => g20bze7 (env 2) (env 4) (env 8) (env 10) (env 13) st := by
  refine Eq.trans (g20seq g20nze7 ((g20seq g20nzsf (g20ez1kv)).trans ((g20blk g20nz1ku).trans (g20ez35o)))) ?_
  funext env st
  kernel_rfl
noncomputable def g20bz73 (x2 : V) (x4 : V) (x8 : V) (x10 : V) (x13 : V) (st : St) : Res :=
 A.faddr 1 x8 fun a1 =>
 A.load false 1 a1 st fun a2 _ =>
 A.iaddr 1 a2 (.int .i64 1) fun a3 =>
 A.load false 1 a3 st fun a4 _ =>
 A.faddr 0 x2 fun a5 =>
 A.load false 1 a5 st fun a6 _ =>
 A.eql 2 true a4 a6 fun a7 =>
 A.cond a7
 (A.load true 5 x2 st fun a8 _ =>
 A.load true 5 x2 st fun a9 _ =>
 A.noP (A.ret (s38 [a9.er1] st) kid) fun a10 z11 =>
 A.chk (ldv true 5 x2 z11) a8
 (A.bslice 1 (.str []) 1 [(0, a10)] fun a12 =>
 A.noP (A.store 5 x4 a8 z11 fun s => kid (.tup []) s) fun a13 z14 =>
 A.res (rcell (A.load true 5 x4 z14 kid) (rtmp (.lst [] 1) (rtmp a12 (rtmp x13 (some []))))) z14))
 (g20bze7 x2 x4 x8 x10 x13 st)
theorem g20nz73 : g20C [1, 1, 1, 1, 1, 1, 1] = .seq (g20C [1, 1, 1, 1, 1, 1, 1, 0]) (g20C [1, 1, 1, 1, 1, 1, 1, 1]) := by kernel_rfl
theorem g20ez73 : g20X (g20C [1, 1, 1, 1, 1, 1, 1]) (g20kr) = fun env st => g20bz73 (env 2) (env 4) (env 8) (env 10) (env 13) st := by
  refine Eq.trans (g20seq g20nz73 (g20eze7)) ?_
  funext env st
  kernel_rfl
noncomputable def g20k4 : Kon := kSeq (fun env st => g20bz73 (env 2) (env 4) (env 8) (env 10) (env 13) st) (g20kr)
noncomputable def g20bz1kl (x2 : V) (x4 : V) (x8 : V) (x10 : V) (x13 : V) (st : St) : Res :=
 A.faddr 1 x8 fun a1 =>
 A.load false 1 a1 st fun a2 z3 =>
 A.iaddr 1 a2 (.int .i64 0) fun a4 =>
 A.load false 1 a4 z3 fun a5 z6 =>
 A.faddr 1 x2 fun a7 =>
 A.store 1 a7 a5 z6 fun z8 =>
 A.faddr 3 x2 fun a9 =>
 A.store 1 a9 (.int .i64 1) z8 fun z10 =>
 A.cond x13
 (A.faddr 4 x2 fun a11 =>
 A.store 1 a11 (.lst [] 1) z10 fun z12 =>
 A.faddr 2 x2 fun a13 =>
 A.store 1 a13 (.int .i64 1) z12 fun z14 =>
 g20bz73 x2 x4 x8 x10 x13 z14)
 (g20bz73 x2 x4 x8 x10 x13 z10)
theorem g20ez1kl : g20X (g20C [1, 1, 1, 1, 1, 1, 0, 1, 0, 1]) (g20k4) = fun env st => g20bz1kl (env 2) (env 4) (env 8) (env 10) (env 13) st := by
  refine Eq.trans (Eq.refl (g20X (g20C [1, 1, 1, 1, 1, 1, 0, 1, 0, 1]) (g20k4))) ?_
  funext env st
  kernel_rfl
noncomputable def g20b11111 (x2 : V) (x4 : V) (x8 : V) (x10 : V) (st : St) : Res :=
 A.faddr 1 x8 fun a1 =>
 A.load false 1 a1 st fun a2 _ =>
 A.iaddr 1 a2 (.int .i64 0) fun a3 =>
 A.load false 1 a3 st fun a4 _ =>
 A.faddr 1 x2 fun a5 =>
 A.load false 1 a5 st fun a6 _ =>
 A.bin .gtr a4 a6 fun a7 =>
 A.cond a7
 (A.faddr 1 x2 fun a8 =>
 A.load false 1 a8 st fun a9 z10 =>
 A.bin .gtr a9 (.int .i64 0) fun a11 =>
 g20bz1kl x2 x4 x8 x10 a11 z10)
 (g20bz73 x2 x4 x8 x10 (.bool false) st)
theorem g20n11111 : g20C [1, 1, 1, 1, 1] = .seq (g20C [1, 1, 1, 1, 1, 0]) (g20C [1, 1, 1, 1, 1, 1]) := by kernel_rfl
theorem g20nz3j : g20C [1, 1, 1, 1, 1, 1] = .seq (g20C [1, 1, 1, 1, 1, 1, 0]) (g20C [1, 1, 1, 1, 1, 1, 1]) := by kernel_rfl
theorem g20nz72 : g20C [1, 1, 1, 1, 1, 1, 0] = .seq (g20C [1, 1, 1, 1, 1, 1, 0, 0]) (g20C [1, 1, 1, 1, 1, 1, 0, 1]) := by kernel_rfl
theorem g20nze5 : g20C [1, 1, 1, 1, 1, 1, 0, 1] = .cond (.tmp 96) (g20C [1, 1, 1, 1, 1, 1, 0, 1, 0]) (g20C [1, 1, 1, 1, 1, 1, 0, 1, 1]) := by kernel_rfl
theorem g20nzsa : g20C [1, 1, 1, 1, 1, 1, 0, 1, 0] = .seq (g20C [1, 1, 1, 1, 1, 1, 0, 1, 0, 0]) (g20C [1, 1, 1, 1, 1, 1, 0, 1, 0, 1]) := by kernel_rfl
theorem g20e11111 : g20X (g20C [1, 1, 1, 1, 1]) (g20kr) = fun env st => g20b11111 (env 2) (env 4) (env 8) (env 10) st := by
  refine Eq.trans (g20seq g20n11111 ((g20seq g20nz3j (g20ez73)).trans (g20seq g20nz72 (g20cond g20nze5 (g20seq g20nzsa (g20ez1kl)) rfl)))) ?_
  funext env st
  kernel_rfl
noncomputable def g20k5 : Kon := kSeq (fun env st => g20b11111 (env 2) (env 4) (env 8) (env 10) st) (g20kr)
noncomputable def g20bzdx (x2 : V) (x4 : V) (x8 : V) (x10 : V) (x11 : V) (x12 : V) (st : St) : Res :=
 A.un .not x12 fun a1 =>
 A.cond a1
 (A.load true 5 x2 st fun a2 z3 =>
 A.store 5 x4 a2 z3 fun z4 =>
 A.res (rcell (A.load true 5 x4 z4 kid) (rtmp (.lst [] 1) (rtmp (.lst [] 1) (rtmp (.bool false) (some []))))) z4)
 (A.load true 4 x11 st fun a5 z6 =>
 A.store 4 x10 a5 z6 fun z7 =>
 g20b11111 x2 x4 x8 x10 z7)
theorem g20ezdx : g20X (g20C [1, 1, 1, 1, 0, 1, 0, 1]) (g20k5) = fun env st => g20bzdx (env 2) (env 4) (env 8) (env 10) (env 11) (env 12) st := by
  refine Eq.trans (Eq.refl (g20X (g20C [1, 1, 1, 1, 0, 1, 0, 1]) (g20k5))) ?_
  funext env st
  kernel_rfl
noncomputable def g20bz3h (x2 : V) (x4 : V) (x8 : V) (x10 : V) (x77 : V) (st : St) : Res :=
 A.cond x77
 (A.faddr 2 x8 fun a1 =>
 A.load false 1 a1 st fun a2 z3 =>
 A.iaddr 1 a2 (.int .i64 0) fun a4 =>
 A.load false 1 a4 z3 fun a5 z6 =>
 A.ret (s37 [a5.er1] z6) fun a7 z8 =>
 A.ext a7 0 fun a9 =>
 A.ext a7 1 fun a10 =>
 A.box (.agg [(.int .i64 0), (.lst [] 1), (.lst [] 1), (.lst [] 1)]) z8 fun a11 z12 =>
 A.store 4 a11 a9 z12 fun z13 =>
 g20bzdx x2 x4 x8 x10 a11 a10 z13)
 (g20b11111 x2 x4 x8 x10 st)
theorem g20nz3h : g20C [1, 1, 1, 1, 0, 1] = .cond (.tmp 77) (g20C [1, 1, 1, 1, 0, 1, 0]) (g20C [1, 1, 1, 1, 0, 1, 1]) := by kernel_rfl
theorem g20nz6y : g20C [1, 1, 1, 1, 0, 1, 0] = .seq (g20C [1, 1, 1, 1, 0, 1, 0, 0]) (g20C [1, 1, 1, 1, 0, 1, 0, 1]) := by kernel_rfl
theorem g20ez3h : g20X (g20C [1, 1, 1, 1, 0, 1]) (g20k5) = fun env st => g20bz3h (env 2) (env 4) (env 8) (env 10) (env 77) st := by
  refine Eq.trans (g20cond g20nz3h (g20seq g20nz6y (g20ezdx)) rfl) ?_
  funext env st
  kernel_rfl
noncomputable def g20b111 (x2 : V) (x4 : V) (x8 : V) (st : St) : Res :=
 A.build [(.int .i64 0), (.lst [] 1), (.lst [] 1), (.lst [] 1)] [] fun a1 =>
 A.box (.agg [(.int .i64 0), (.lst [] 1), (.lst [] 1), (.lst [] 1)]) st fun a2 z3 =>
 A.store 4 a2 a1 z3 fun z4 =>
 A.faddr 0 x8 fun a5 =>
 A.load false 1 a5 z4 fun a6 z7 =>
 A.eql 2 false a6 (.int .i64 1) fun a8 =>
 g20bz3h x2 x4 x8 a2 a8 z7
theorem g20n111 : g20C [1, 1, 1] = .seq (g20C [1, 1, 1, 0]) (g20C [1, 1, 1, 1]) := by kernel_rfl
theorem g20n1111 : g20C [1, 1, 1, 1] = .seq (g20C [1, 1, 1, 1, 0]) (g20C [1, 1, 1, 1, 1]) := by kernel_rfl
theorem g20n11110 : g20C [1, 1, 1, 1, 0] = .seq (g20C [1, 1, 1, 1, 0, 0]) (g20C [1, 1, 1, 1, 0, 1]) := by kernel_rfl
theorem g20e111 : g20X (g20C [1, 1, 1]) (g20kr) = fun env st => g20b111 (env 2) (env 4) (env 8) st := by
  refine Eq.trans (g20seq g20n111 ((g20seq g20n1111 (g20e11111)).trans (g20seq g20n11110 (g20ez3h)))) ?_
  funext env st
  kernel_rfl
noncomputable def g20k6 : Kon := kSeq (fun env st => g20b111 (env 2) (env 4) (env 8) st) (g20kr)
noncomputable def g20b1101 (x2 : V) (x4 : V) (x8 : V) (x72 : V) (st : St) : Res :=
 A.cond x72
 (A.load true 5 x2 st fun a1 z2 =>
 A.store 5 x4 a1 z2 fun z3 =>
 A.res (rcell (A.load true 5 x4 z3 kid) (rtmp (.lst [] 1) (rtmp (.lst [] 1) (rtmp (.bool false) (some []))))) z3)
 (g20b111 x2 x4 x8 st)
theorem g20e1101 : g20X (g20C [1, 1, 0, 1]) (g20k6) = fun env st => g20b1101 (env 2) (env 4) (env 8) (env 72) st := by
  refine Eq.trans (Eq.refl (g20X (g20C [1, 1, 0, 1]) (g20k6))) ?_
  funext env st
  kernel_rfl
noncomputable def g20k7 : Kon := kSeq (fun env st => g20b1101 (env 2) (env 4) (env 8) (env 72) st) (g20k6)
noncomputable def g20b1100_44 (x2 : V) (x4 : V) (x8 : V) (x64 : V) (st : St) : Res :=
 A.guard x64 false
 (A.faddr 1 x8 fun a1 =>
 A.load false 1 a1 st fun a2 z3 =>
 A.iaddr 1 a2 (.int .i64 0) fun a4 =>
 A.load false 1 a4 z3 fun a5 z6 =>
 A.faddr 1 x2 fun a7 =>
 A.load false 1 a7 z6 fun a8 z9 =>
 A.bin .lss a5 a8 fun a10 =>
 g20b1101 x2 x4 x8 a10 z9)
 (g20b1101 x2 x4 x8 (.bool true) st)
theorem g20e1100_44 : (fun env st => aops Try.prog g20mu g20T 173 (rops (g20C [1, 1, 0, 0])) [44, 45, 46, 47, 48, 49, 50, 51] env st ((g20k7) .normal)) = fun env st => g20b1100_44 (env 2) (env 4) (env 8) (env 64) st := by
  refine Eq.trans (Eq.refl _) ?_
  funext env st
  kernel_rfl
noncomputable def g20b1100_37 (x2 : V) (x4 : V) (x8 : V) (x57 : V) (st : St) : Res :=
 A.guard x57 false
 (A.faddr 1 x8 fun a1 =>
 A.load false 1 a1 st fun a2 z3 =>
 A.iaddr 1 a2 (.int .i64 0) fun a4 =>
 A.load false 1 a4 z3 fun a5 z6 =>
 A.eql 2 false a5 (.int .i64 0) fun a7 =>
 g20b1100_44 x2 x4 x8 a7 z6)
 (g20b1100_44 x2 x4 x8 (.bool true) st)
theorem g20e1100_37 : (fun env st => aops Try.prog g20mu g20T 173 (rops (g20C [1, 1, 0, 0])) [37, 38, 39, 40, 41, 42, 43, 44, 45, 46, 47, 48, 49, 50, 51] env st ((g20k7) .normal)) = fun env st => g20b1100_37 (env 2) (env 4) (env 8) (env 57) st := by
  refine Eq.trans (ops_cut (l1 := [37, 38, 39, 40, 41, 42, 43]) (l2 := [44, 45, 46, 47, 48, 49, 50, 51]) (g20e1100_44)) ?_
  funext env st
  kernel_rfl
noncomputable def g20b1100_28 (x2 : V) (x4 : V) (x8 : V) (x48 : V) (st : St) : Res :=
 A.guard x48 false
 (A.faddr 2 x8 fun a1 =>
 A.load false 1 a1 st fun a2 z3 =>
 A.lenL a2 fun a4 =>
 A.faddr 0 x8 fun a5 =>
 A.load false 1 a5 z3 fun a6 z7 =>
 A.bin .sub (.int .i64 2) a6 fun a8 =>
 A.eql 2 true a4 a8 fun a9 =>
 g20b1100_37 x2 x4 x8 a9 z7)
 (g20b1100_37 x2 x4 x8 (.bool true) st)
theorem g20e1100_28 : (fun env st => aops Try.prog g20mu g20T 173 (rops (g20C [1, 1, 0, 0])) [28, 29, 30, 31, 32, 33, 34, 35, 36, 37, 38, 39, 40, 41, 42, 43, 44, 45, 46, 47, 48, 49, 50, 51] env st ((g20k7) .normal)) = fun env st => g20b1100_28 (env 2) (env 4) (env 8) (env 48) st := by
  refine Eq.trans (ops_cut (l1 := [28, 29, 30, 31, 32, 33, 34, 35, 36]) (l2 := [37, 38, 39, 40, 41, 42, 43, 44, 45, 46, 47, 48, 49, 50, 51]) (g20e1100_37)) ?_
  funext env st
  kernel_rfl
noncomputable def g20b1100_19 (x2 : V) (x4 : V) (x8 : V) (x39 : V) (st : St) : Res :=
 A.guard x39 false
 (A.faddr 1 x8 fun a1 =>
 A.load false 1 a1 st fun a2 z3 =>
 A.lenL a2 fun a4 =>
 A.faddr 0 x8 fun a5 =>
 A.load false 1 a5 z3 fun a6 z7 =>
 A.bin .sub (.int .i64 5) a6 fun a8 =>
 A.eql 2 true a4 a8 fun a9 =>
 g20b1100_28 x2 x4 x8 a9 z7)
 (g20b1100_28 x2 x4 x8 (.bool true) st)
theorem g20e1100_19 : (fun env st => aops Try.prog g20mu g20T 173 (rops (g20C [1, 1, 0, 0])) [19, 20, 21, 22, 23, 24, 25, 26, 27, 28, 29, 30, 31, 32, 33, 34, 35, 36, 37, 38, 39, 40, 41, 42, 43, 44, 45, 46, 47, 48, 49, 50, 51] env st ((g20k7) .normal)) = fun env st => g20b1100_19 (env 2) (env 4) (env 8) (env 39) st := by
  refine Eq.trans (ops_cut (l1 := [19, 20, 21, 22, 23, 24, 25, 26, 27]) (l2 := [28, 29, 30, 31, 32, 33, 34, 35, 36, 37, 38, 39, 40, 41, 42, 43, 44, 45, 46, 47, 48, 49, 50, 51]) (g20e1100_28)) ?_
  funext env st
  kernel_rfl
noncomputable def g20b1100_9 (x2 : V) (x4 : V) (x8 : V) (x29 : V) (st : St) : Res :=
 A.guard x29 false
 (A.faddr 0 x8 fun a1 =>
 A.load false 1 a1 st fun a2 z3 =>
 A.bin .lss a2 (.int .i64 1) fun a4 =>
 A.guard a4 false
 (A.faddr 0 x8 fun a5 =>
 A.load false 1 a5 z3 fun a6 z7 =>
 A.bin .gtr a6 (.int .i64 2) fun a8 =>
 g20b1100_19 x2 x4 x8 a8 z7)
 (g20b1100_19 x2 x4 x8 (.bool true) z3))
 (g20b1100_19 x2 x4 x8 (.bool true) st)
theorem g20e1100_9 : (fun env st => aops Try.prog g20mu g20T 173 (rops (g20C [1, 1, 0, 0])) [9, 10, 11, 12, 13, 14, 15, 16, 17, 18, 19, 20, 21, 22, 23, 24, 25, 26, 27, 28, 29, 30, 31, 32, 33, 34, 35, 36, 37, 38, 39, 40, 41, 42, 43, 44, 45, 46, 47, 48, 49, 50, 51] env st ((g20k7) .normal)) = fun env st => g20b1100_9 (env 2) (env 4) (env 8) (env 29) st := by
  refine Eq.trans (ops_cut (l1 := [9, 10, 11, 12, 13, 14, 15, 16, 17, 18]) (l2 := [19, 20, 21, 22, 23, 24, 25, 26, 27, 28, 29, 30, 31, 32, 33, 34, 35, 36, 37, 38, 39, 40, 41, 42, 43, 44, 45, 46, 47, 48, 49, 50, 51]) (g20e1100_19)) ?_
  funext env st
  kernel_rfl
noncomputable def g20b11 (x2 : V) (x4 : V) (x8 : V) (x9 : V) (st : St) : Res :=
 A.un .not x9 fun a1 =>
 A.guard a1 false
 (A.faddr 3 x8 fun a2 =>
 A.load false 1 a2 st fun a3 z4 =>
 A.lenL a3 fun a5 =>
 A.bin .gtr a5 (.int .i64 0) fun a6 =>
 g20b1100_9 x2 x4 x8 a6 z4)
 (g20b1100_9 x2 x4 x8 (.bool true) st)
theorem g20n11 : g20C [1, 1] = .seq (g20C [1, 1, 0]) (g20C [1, 1, 1]) := by kernel_rfl
theorem g20n110 : g20C [1, 1, 0] = .seq (g20C [1, 1, 0, 0]) (g20C [1, 1, 0, 1]) := by kernel_rfl
theorem g20rg1100 : g20C [1, 1, 0, 0] = .region 2 (rops (g20C [1, 1, 0, 0])) true := by kernel_rfl
theorem g20rg1100o : regOk Try.prog g20mu (rops (g20C [1, 1, 0, 0])) (befs (rops (g20C [1, 1, 0, 0])).toList []) = true := by kernel_rfl
theorem g20rg1100q : quiet Try.prog g20mu (rops (g20C [1, 1, 0, 0])) = true := by kernel_rfl
theorem g20rg1100l : List.range (rops (g20C [1, 1, 0, 0])).size = [0, 1, 2, 3, 4, 5, 6, 7, 8] ++ [9, 10, 11, 12, 13, 14, 15, 16, 17, 18, 19, 20, 21, 22, 23, 24, 25, 26, 27, 28, 29, 30, 31, 32, 33, 34, 35, 36, 37, 38, 39, 40, 41, 42, 43, 44, 45, 46, 47, 48, 49, 50, 51] := by kernel_rfl
theorem g20e11 : g20X (g20C [1, 1]) (g20kr) = fun env st => g20b11 (env 2) (env 4) (env 8) (env 9) st := by
  refine Eq.trans ((g20seq g20n11 (g20e111)).trans ((g20seq g20n110 (g20e1101)).trans (g20regD g20rg1100 g20rg1100o g20rg1100q g20rg1100l (g20e1100_9)))) ?_
  funext env st
  kernel_rfl
noncomputable def f20 (x0 : V) (x1 : V) (st : St) : Res :=
 A.box x0 st fun a1 z2 =>
 A.box (.agg [(.int .i64 0), (.int .i64 0), (.int .i64 0), (.int .i64 0), (.lst [] 1)]) z2 fun a3 z4 =>
 A.ret (s37 [x1.er1] z4) fun a5 z6 =>
 A.ext a5 0 fun a7 =>
 A.ext a5 1 fun a8 =>
 A.box (.agg [(.int .i64 0), (.lst [] 1), (.lst [] 1), (.lst [] 1)]) z6 fun a9 z10 =>
 A.store 4 a9 a7 z10 fun z11 =>
 g20b11 a1 a3 a9 a8 z11
theorem g20nr : g20C [] = .seq (g20C [0]) (g20C [1]) := by kernel_rfl
theorem g20n1 : g20C [1] = .seq (g20C [1, 0]) (g20C [1, 1]) := by kernel_rfl
theorem g20er (env : Env) (st : St) : g20X (g20C []) g20kr env st = f20 (env 0) (env 1) st := by
  rw [(g20seq g20nr (g20seq g20n1 (g20e11)))]
  kernel_rfl
theorem s20_eq (x0 : V) (x1 : V) (st : St) : s20 [x0, x1] st = fg (f20 x0 x1 st) st := by
  have h : afn Try.prog g20mu g20T big (areg Try.prog g20mu g20T) 20 [x0, x1] st = g20X (g20C []) g20kr (fun t => [x0, x1].getD t (.tup [])) st := by kernel_rfl
  rw [s20, sealF_eq]
  show fg _ st = fg _ st
  refine congrArg (fun r => fg r st) ?_
  exact h.trans (g20er _ st)
/-! sinew/sinewref03.SameRows -/
def g50mu : Nat → Bool := fun _ => false
noncomputable def g50T : Tbl := tget [(15, s15)]
theorem g50t : SimT Try.prog g50T := simT_cons sim15 (simT_nil)
noncomputable def s50 : Fn := sealF (afn Try.prog g50mu g50T big (areg Try.prog g50mu g50T) 50)
theorem sim50 : Sim Try.prog 50 s50 := (afn_sim g50t (fun m => areg_sound g50t hmix m) 50 (by kernel_rfl)).sealed
noncomputable def g50C (p : List Nat) : Code := sub (match Try.f50.body with | some c => c | none => .skip) p
noncomputable def g50X (c : Code) (K : Kon) : Env → St → Res := aexec Try.prog g50mu g50T big 27 (areg Try.prog g50mu g50T 27) c K
noncomputable def g50kr : Kon := aresK Try.prog Try.f50.results.toList
theorem g50reg {c : Code} {K : Kon} {G : Env → St → Res} {id : Nat} {ops : Array Oper} {l1 l2 : List Nat} (hc : c = .region id ops false) (hl : List.range ops.size = l1 ++ l2) (h : (fun env st => aops Try.prog g50mu g50T 27 ops l2 env st (K .normal)) = G) : g50X c K = fun env st => aops Try.prog g50mu g50T 27 ops l1 env st G := reg_cut hc hl h
theorem g50seq {c x y : Code} {K : Kon} {G : Env → St → Res} (hc : c = .seq x y) (hy : g50X y K = G) : g50X c K = g50X x (kSeq G K) := seq_cut hc hy
theorem g50blk {c x : Code} {K : Kon} {i : Nat} (hc : c = .block i x) : g50X c K = g50X x (kBlk i K) := blk_cut hc
theorem g50loop {c x : Code} {K : Kon} (hc : c = .loop x) : g50X c K = aloop (g50X x) K big := loop_cut hc
theorem g50cond {c x y : Code} {K : Kon} {v : Operand} {F G : Env → St → Res} (hc : c = .cond v x y) (hx : g50X x K = F) (hy : g50X y K = G) : g50X c K = condF v F G := cond_cut hc hx hy
noncomputable def g50k0 : Kon := kSeq (g50X (g50C [1, 1, 1]) (g50kr)) (g50kr)
noncomputable def g50k1 : Kon := kBlk 0 (g50k0)
noncomputable def g50b11010 : Nat → V → V → V → St → Res
| 0, _, _, _, _ => none
| n + 1, x0, x1, x5, st =>
 A.lenL x0 fun a1 =>
 A.bin .lss x5 a1 fun a2 =>
 A.cond a2
 (A.iaddr 1 x0 x5 fun a3 =>
 A.load false 1 a3 st fun a4 _ =>
 A.iaddr 1 x1 x5 fun a5 =>
 A.load false 1 a5 st fun a6 _ =>
 A.noP (A.ret (s15 [a4.er1, a6.er1] st) kid) fun a7 z8 =>
 A.un .not a7 fun a9 =>
 A.cond a9
 (some (.ret ((.bool false) : V).er1, z8))
 (A.bin .add x5 (.int .i64 1) fun a10 =>
 (g50b11010 n) x0 x1 a10 z8))
 (some (.ret ((.bool true) : V).er1, st))
theorem g50n11010 : g50C [1, 1, 0, 1, 0] = .loop (g50C [1, 1, 0, 1, 0, 0]) := by kernel_rfl
noncomputable def g50k2 (L11010 : V → V → V → St → Res) : Kon := kSeq (fun env st => L11010 (env 0) (env 1) (env 5) st) (g50k1)
theorem g50e11010 : g50X (g50C [1, 1, 0, 1, 0]) (g50k1) = fun env st => g50b11010 big (env 0) (env 1) (env 5) st := by
  have key : ∀ n, aloop (g50X (g50C [1, 1, 0, 1, 0, 0])) (g50k1) n = fun env st => g50b11010 n (env 0) (env 1) (env 5) st := by
    intro n
    induction n with
    | zero => rfl
    | succ n ih =>
      have h : aloop (g50X (g50C [1, 1, 0, 1, 0, 0])) (g50k1) (n + 1) = g50X (g50C [1, 1, 0, 1, 0, 0]) (kSeq (aloop (g50X (g50C [1, 1, 0, 1, 0, 0])) (g50k1) n) (g50k1)) := rfl
      rw [h, ih]
      refine Eq.trans (Eq.refl _) ?_
      funext env st
      kernel_rfl
  exact (g50loop g50n11010).trans (key big)
noncomputable def f50 (x0 : V) (x1 : V) (st : St) : Res :=
 A.lenL x0 fun a1 =>
 A.lenL x1 fun a2 =>
 A.eql 2 true a1 a2 fun a3 =>
 A.cond a3
 (some (.ret ((.bool false) : V).er1, st))
 (g50b11010 big x0 x1 (.int .i64 0) st)
theorem g50nr : g50C [] = .seq (g50C [0]) (g50C [1]) := by kernel_rfl
theorem g50n1 : g50C [1] = .seq (g50C [1, 0]) (g50C [1, 1]) := by kernel_rfl
theorem g50n11 : g50C [1, 1] = .seq (g50C [1, 1, 0]) (g50C [1, 1, 1]) := by kernel_rfl
theorem g50n110 : g50C [1, 1, 0] = .seq (g50C [1, 1, 0, 0]) (g50C [1, 1, 0, 1]) := by kernel_rfl
theorem g50n1101 : g50C [1, 1, 0, 1] = .block 0 (g50C [1, 1, 0, 1, 0]) := by kernel_rfl
theorem g50er (env : Env) (st : St) : g50X (g50C []) g50kr env st = f50 (env 0) (env 1) st := by
  rw [(g50seq g50nr (g50seq g50n1 ((g50seq g50n11 rfl).trans (g50seq g50n110 ((g50blk g50n1101).trans (g50e11010))))))]
  kernel_rfl
theorem s50_eq (x0 : V) (x1 : V) (st : St) : s50 [x0, x1] st = f50 x0 x1 st := by
  have h : afn Try.prog g50mu g50T big (areg Try.prog g50mu g50T) 50 [x0, x1] st = g50X (g50C []) g50kr (fun t => [x0, x1].getD t (.tup [])) st := by kernel_rfl
  rw [s50, sealF_eq]
  exact h.trans (g50er _ st)
/-! sinew/sinewref03.Same -/
def g39mu : Nat → Bool := fun _ => false
noncomputable def g39T : Tbl := tget [(15, s15), (50, s50)]
theorem g39t : SimT Try.prog g39T := simT_cons sim15 ( simT_cons sim50 (simT_nil))
noncomputable def s39 : Fn := sealF (fun args st => fg (afn Try.prog g39mu g39T big (areg Try.prog g39mu g39T) 39 args st) st)
theorem sim39 : Sim Try.prog 39 s39 := (afn_sim g39t (fun m => areg_sound g39t hmix m) 39 (by kernel_rfl)).fg.sealed
noncomputable def g39C (p : List Nat) : Code := sub (match Try.f39.body with | some c => c | none => .skip) p
noncomputable def g39X (c : Code) (K : Kon) : Env → St → Res := aexec Try.prog g39mu g39T big 50 (areg Try.prog g39mu g39T 50) c K
noncomputable def g39kr : Kon := aresK Try.prog Try.f39.results.toList
theorem g39reg {c : Code} {K : Kon} {G : Env → St → Res} {id : Nat} {ops : Array Oper} {l1 l2 : List Nat} (hc : c = .region id ops false) (hl : List.range ops.size = l1 ++ l2) (h : (fun env st => aops Try.prog g39mu g39T 50 ops l2 env st (K .normal)) = G) : g39X c K = fun env st => aops Try.prog g39mu g39T 50 ops l1 env st G := reg_cut hc hl h
theorem g39seq {c x y : Code} {K : Kon} {G : Env → St → Res} (hc : c = .seq x y) (hy : g39X y K = G) : g39X c K = g39X x (kSeq G K) := seq_cut hc hy
theorem g39blk {c x : Code} {K : Kon} {i : Nat} (hc : c = .block i x) : g39X c K = g39X x (kBlk i K) := blk_cut hc
theorem g39loop {c x : Code} {K : Kon} (hc : c = .loop x) : g39X c K = aloop (g39X x) K big := loop_cut hc
theorem g39cond {c x y : Code} {K : Kon} {v : Operand} {F G : Env → St → Res} (hc : c = .cond v x y) (hx : g39X x K = F) (hy : g39X y K = G) : g39X c K = condF v F G := cond_cut hc hx hy
noncomputable def g39k0 : Kon := kSeq (g39X (g39C [1, 1, 1]) (g39kr)) (g39kr)
noncomputable def g39k1 : Kon := kBlk 0 (g39k0)
noncomputable def g39b11010 : Nat → V → V → V → St → Res
| 0, _, _, _, _ => none
| n + 1, x2, x3, x5, st =>
 A.faddr 1 x2 fun a1 =>
 A.load false 1 a1 st fun a2 z3 =>
 A.lenL a2 fun a4 =>
 A.bin .lss x5 a4 fun a5 =>
 A.cond a5
 (A.faddr 1 x2 fun a6 =>
 A.load false 1 a6 z3 fun a7 _ =>
 A.iaddr 1 a7 x5 fun a8 =>
 A.load false 1 a8 z3 fun a9 _ =>
 A.faddr 1 x3 fun a10 =>
 A.load false 1 a10 z3 fun a11 _ =>
 A.iaddr 1 a11 x5 fun a12 =>
 A.load false 1 a12 z3 fun a13 _ =>
 A.eql 2 true a9 a13 fun a14 =>
 A.cond a14
 (some (.ret ((.bool false) : V).er1, z3))
 (A.bin .add x5 (.int .i64 1) fun a15 =>
 (g39b11010 n) x2 x3 a15 z3))
 (A.faddr 2 x2 fun a16 =>
 A.load false 1 a16 z3 fun a17 z18 =>
 A.faddr 2 x3 fun a19 =>
 A.load false 1 a19 z18 fun a20 z21 =>
 A.ret (s15 [a17.er1, a20.er1] z21) fun a22 z23 =>
 A.guard a22 true
 (A.faddr 3 x2 fun a24 =>
 A.load false 1 a24 z23 fun a25 z26 =>
 A.faddr 3 x3 fun a27 =>
 A.load false 1 a27 z26 fun a28 z29 =>
 A.ret (s50 [a25.er1, a28.er1] z29) fun a30 z31 =>
 some (.ret a30.er1, z31))
 (some (.ret ((.bool false) : V).er1, z23)))
theorem g39n11010 : g39C [1, 1, 0, 1, 0] = .loop (g39C [1, 1, 0, 1, 0, 0]) := by kernel_rfl
noncomputable def g39k2 (L11010 : V → V → V → St → Res) : Kon := kSeq (fun env st => L11010 (env 2) (env 3) (env 5) st) (g39k1)
theorem g39e11010 : g39X (g39C [1, 1, 0, 1, 0]) (g39k1) = fun env st => g39b11010 big (env 2) (env 3) (env 5) st := by
  have key : ∀ n, aloop (g39X (g39C [1, 1, 0, 1, 0, 0])) (g39k1) n = fun env st => g39b11010 n (env 2) (env 3) (env 5) st := by
    intro n
    induction n with
    | zero => rfl
    | succ n ih =>
      have h : aloop (g39X (g39C [1, 1, 0, 1, 0, 0])) (g39k1) (n + 1) = g39X (g39C [1, 1, 0, 1, 0, 0]) (kSeq (aloop (g39X (g39C [1, 1, 0, 1, 0, 0])) (g39k1) n) (g39k1)) := rfl
      rw [h, ih]
      refine Eq.trans (Eq.refl _) ?_
      funext env st
      kernel_rfl
  exact (g39loop g39n11010).trans (key big)
noncomputable def g39b11 (x2 : V) (x3 : V) (st : St) : Res :=
 g39b11010 big x2 x3 (.int .i64 0) st
theorem g39n11 : g39C [1, 1] = .seq (g39C [1, 1, 0]) (g39C [1, 1, 1]) := by kernel_rfl
theorem g39n110 : g39C [1, 1, 0] = .seq (g39C [1, 1, 0, 0]) (g39C [1, 1, 0, 1]) := by kernel_rfl
theorem g39n1101 : g39C [1, 1, 0, 1] = .block 0 (g39C [1, 1, 0, 1, 0]) := by kernel_rfl
theorem g39e11 : g39X (g39C [1, 1]) (g39kr) = fun env st => g39b11 (env 2) (env 3) st := by
  refine Eq.trans ((g39seq g39n11 rfl).trans (g39seq g39n110 ((g39blk g39n1101).trans (g39e11010)))) ?_
  funext env st
  kernel_rfl
noncomputable def f39 (x0 : V) (x1 : V) (st : St) : Res :=
 A.box x0 st fun a1 z2 =>
 A.box x1 z2 fun a3 z4 =>
 A.faddr 0 a1 fun a5 =>
 A.load false 1 a5 z4 fun a6 z7 =>
 A.faddr 0 a3 fun a8 =>
 A.load false 1 a8 z7 fun a9 z10 =>
 A.eql 2 true a6 a9 fun a11 =>
 A.guard a11 false
 (A.faddr 1 a1 fun a12 =>
 A.load false 1 a12 z10 fun a13 z14 =>
 A.lenL a13 fun a15 =>
 A.faddr 1 a3 fun a16 =>
 A.load false 1 a16 z14 fun a17 z18 =>
 A.lenL a17 fun a19 =>
 A.eql 2 true a15 a19 fun a20 =>
 A.cond a20
 (some (.ret ((.bool false) : V).er1, z18))
 (g39b11 a1 a3 z18))
 (some (.ret ((.bool false) : V).er1, z10))
theorem g39nr : g39C [] = .seq (g39C [0]) (g39C [1]) := by kernel_rfl
theorem g39n1 : g39C [1] = .seq (g39C [1, 0]) (g39C [1, 1]) := by kernel_rfl
theorem g39er (env : Env) (st : St) : g39X (g39C []) g39kr env st = f39 (env 0) (env 1) st := by
  rw [(g39seq g39nr (g39seq g39n1 (g39e11)))]
  kernel_rfl
theorem s39_eq (x0 : V) (x1 : V) (st : St) : s39 [x0, x1] st = fg (f39 x0 x1 st) st := by
  have h : afn Try.prog g39mu g39T big (areg Try.prog g39mu g39T) 39 [x0, x1] st = g39X (g39C []) g39kr (fun t => [x0, x1].getD t (.tup [])) st := by kernel_rfl
  rw [s39, sealF_eq]
  show fg _ st = fg _ st
  refine congrArg (fun r => fg r st) ?_
  exact h.trans (g39er _ st)
/-! sinew/sinewref03.SameAll -/
def g21mu : Nat → Bool := fun _ => false
noncomputable def g21T : Tbl := tget [(39, s39)]
theorem g21t : SimT Try.prog g21T := simT_cons sim39 (simT_nil)
noncomputable def s21 : Fn := sealF (afn Try.prog g21mu g21T big (areg Try.prog g21mu g21T) 21)
theorem sim21 : Sim Try.prog 21 s21 := (afn_sim g21t (fun m => areg_sound g21t hmix m) 21 (by kernel_rfl)).sealed
noncomputable def g21C (p : List Nat) : Code := sub (match Try.f21.body with | some c => c | none => .skip) p
noncomputable def g21X (c : Code) (K : Kon) : Env → St → Res := aexec Try.prog g21mu g21T big 27 (areg Try.prog g21mu g21T 27) c K
noncomputable def g21kr : Kon := aresK Try.prog Try.f21.results.toList
theorem g21reg {c : Code} {K : Kon} {G : Env → St → Res} {id : Nat} {ops : Array Oper} {l1 l2 : List Nat} (hc : c = .region id ops false) (hl : List.range ops.size = l1 ++ l2) (h : (fun env st => aops Try.prog g21mu g21T 27 ops l2 env st (K .normal)) = G) : g21X c K = fun env st => aops Try.prog g21mu g21T 27 ops l1 env st G := reg_cut hc hl h
theorem g21seq {c x y : Code} {K : Kon} {G : Env → St → Res} (hc : c = .seq x y) (hy : g21X y K = G) : g21X c K = g21X x (kSeq G K) := seq_cut hc hy
theorem g21blk {c x : Code} {K : Kon} {i : Nat} (hc : c = .block i x) : g21X c K = g21X x (kBlk i K) := blk_cut hc
theorem g21loop {c x : Code} {K : Kon} (hc : c = .loop x) : g21X c K = aloop (g21X x) K big := loop_cut hc
theorem g21cond {c x y : Code} {K : Kon} {v : Operand} {F G : Env → St → Res} (hc : c = .cond v x y) (hx : g21X x K = F) (hy : g21X y K = G) : g21X c K = condF v F G := cond_cut hc hx hy
noncomputable def g21k0 : Kon := kSeq (g21X (g21C [1, 1, 1]) (g21kr)) (g21kr)
noncomputable def g21k1 : Kon := kBlk 0 (g21k0)
noncomputable def g21b11010 : Nat → V → V → V → St → Res
| 0, _, _, _, _ => none
| n + 1, x0, x1, x5, st =>
 A.lenL x0 fun a1 =>
 A.bin .lss x5 a1 fun a2 =>
 A.cond a2
 (A.iaddr 4 x0 x5 fun a3 =>
 A.load true 4 a3 st fun a4 _ =>
 A.iaddr 4 x1 x5 fun a5 =>
 A.load true 4 a5 st fun a6 _ =>
 A.noP (A.ret (s39 [a4.er1, a6.er1] st) kid) fun a7 z8 =>
 A.un .not a7 fun a9 =>
 A.cond a9
 (some (.ret ((.bool false) : V).er1, z8))
 (A.bin .add x5 (.int .i64 1) fun a10 =>
 (g21b11010 n) x0 x1 a10 z8))
 (some (.ret ((.bool true) : V).er1, st))
theorem g21n11010 : g21C [1, 1, 0, 1, 0] = .loop (g21C [1, 1, 0, 1, 0, 0]) := by kernel_rfl
noncomputable def g21k2 (L11010 : V → V → V → St → Res) : Kon := kSeq (fun env st => L11010 (env 0) (env 1) (env 5) st) (g21k1)
theorem g21e11010 : g21X (g21C [1, 1, 0, 1, 0]) (g21k1) = fun env st => g21b11010 big (env 0) (env 1) (env 5) st := by
  have key : ∀ n, aloop (g21X (g21C [1, 1, 0, 1, 0, 0])) (g21k1) n = fun env st => g21b11010 n (env 0) (env 1) (env 5) st := by
    intro n
    induction n with
    | zero => rfl
    | succ n ih =>
      have h : aloop (g21X (g21C [1, 1, 0, 1, 0, 0])) (g21k1) (n + 1) = g21X (g21C [1, 1, 0, 1, 0, 0]) (kSeq (aloop (g21X (g21C [1, 1, 0, 1, 0, 0])) (g21k1) n) (g21k1)) := rfl
      rw [h, ih]
      refine Eq.trans (Eq.refl _) ?_
      funext env st
      kernel_rfl
  exact (g21loop g21n11010).trans (key big)
noncomputable def f21 (x0 : V) (x1 : V) (st : St) : Res :=
 A.lenL x0 fun a1 =>
 A.lenL x1 fun a2 =>
 A.eql 2 true a1 a2 fun a3 =>
 A.cond a3
 (some (.ret ((.bool false) : V).er1, st))
 (g21b11010 big x0 x1 (.int .i64 0) st)
theorem g21nr : g21C [] = .seq (g21C [0]) (g21C [1]) := by kernel_rfl
theorem g21n1 : g21C [1] = .seq (g21C [1, 0]) (g21C [1, 1]) := by kernel_rfl
theorem g21n11 : g21C [1, 1] = .seq (g21C [1, 1, 0]) (g21C [1, 1, 1]) := by kernel_rfl
theorem g21n110 : g21C [1, 1, 0] = .seq (g21C [1, 1, 0, 0]) (g21C [1, 1, 0, 1]) := by kernel_rfl
theorem g21n1101 : g21C [1, 1, 0, 1] = .block 0 (g21C [1, 1, 0, 1, 0]) := by kernel_rfl
theorem g21er (env : Env) (st : St) : g21X (g21C []) g21kr env st = f21 (env 0) (env 1) st := by
  rw [(g21seq g21nr (g21seq g21n1 ((g21seq g21n11 rfl).trans (g21seq g21n110 ((g21blk g21n1101).trans (g21e11010))))))]
  kernel_rfl
theorem s21_eq (x0 : V) (x1 : V) (st : St) : s21 [x0, x1] st = f21 x0 x1 st := by
  have h : afn Try.prog g21mu g21T big (areg Try.prog g21mu g21T) 21 [x0, x1] st = g21X (g21C []) g21kr (fun t => [x0, x1].getD t (.tup [])) st := by kernel_rfl
  rw [s21, sealF_eq]
  exact h.trans (g21er _ st)
/-! sinew/sinewlaw15.LinkPlays -/
def g3mu : Nat → Bool := fun _ => false
noncomputable def g3T : Tbl := tget [(9, s9), (10, s10), (11, s11), (12, s12), (13, s13), (14, s14), (15, s15), (16, s16), (17, s17), (18, s18), (19, s19), (20, s20), (21, s21), (22, s22), (23, s23)]
theorem g3t : SimT Try.prog g3T := simT_cons sim9 ( simT_cons sim10 ( simT_cons sim11 ( simT_cons sim12 ( simT_cons sim13 ( simT_cons sim14 ( simT_cons sim15 ( simT_cons sim16 ( simT_cons sim17 ( simT_cons sim18 ( simT_cons sim19 ( simT_cons sim20 ( simT_cons sim21 ( simT_cons sim22 ( simT_cons sim23 (simT_nil)))))))))))))))
noncomputable def s3 : Fn := sealF (afn Try.prog g3mu g3T big (areg Try.prog g3mu g3T) 3)
theorem sim3 : Sim Try.prog 3 s3 := (afn_sim g3t (fun m => areg_sound g3t hmix m) 3 (by kernel_rfl)).sealed
noncomputable def g3C (p : List Nat) : Code := sub (match Try.f3.body with | some c => c | none => .skip) p
noncomputable def g3X (c : Code) (K : Kon) : Env → St → Res := aexec Try.prog g3mu g3T big 158 (areg Try.prog g3mu g3T 158) c K
noncomputable def g3kr : Kon := aresK Try.prog Try.f3.results.toList
theorem g3reg {c : Code} {K : Kon} {G : Env → St → Res} {id : Nat} {ops : Array Oper} {l1 l2 : List Nat} (hc : c = .region id ops false) (hl : List.range ops.size = l1 ++ l2) (h : (fun env st => aops Try.prog g3mu g3T 158 ops l2 env st (K .normal)) = G) : g3X c K = fun env st => aops Try.prog g3mu g3T 158 ops l1 env st G := reg_cut hc hl h
theorem g3seq {c x y : Code} {K : Kon} {G : Env → St → Res} (hc : c = .seq x y) (hy : g3X y K = G) : g3X c K = g3X x (kSeq G K) := seq_cut hc hy
theorem g3blk {c x : Code} {K : Kon} {i : Nat} (hc : c = .block i x) : g3X c K = g3X x (kBlk i K) := blk_cut hc
theorem g3loop {c x : Code} {K : Kon} (hc : c = .loop x) : g3X c K = aloop (g3X x) K big := loop_cut hc
theorem g3cond {c x y : Code} {K : Kon} {v : Operand} {F G : Env → St → Res} (hc : c = .cond v x y) (hx : g3X x K = F) (hy : g3X y K = G) : g3X c K = condF v F G := cond_cut hc hx hy
noncomputable def g3k0 : Kon := kSeq (g3X (g3C [1, 1, 1, 1, 1, 1]) (g3kr)) (g3kr)
noncomputable def g3k1 : Kon := kBlk 0 (g3k0)
noncomputable def g3k2 (Lze2 : V → V → V → V → St → Res) : Kon := kSeq (fun env st => Lze2 (env 1) (env 5) (env 7) (env 9) st) (g3k1)
noncomputable def g3k3 (Lze2 : V → V → V → V → St → Res) : Kon := kSeq (g3X (g3C [1, 1, 1, 1, 1, 0, 1, 0, 0, 1, 1]) (g3k2 Lze2)) (g3k2 Lze2)
noncomputable def g3k4 (Lze2 : V → V → V → V → St → Res) : Kon := kBlk 1 (g3k3 Lze2)
noncomputable def g3bz1e07 (Lze2 : V → V → V → V → St → Res) (x1 : V) (x5 : V) (x7 : V) (x9 : V) (st : St) : Res :=
 A.noP (A.ret (s22 [x5.er1] st) kid) fun a1 z2 =>
 A.faddr 4 x7 fun a3 =>
 A.load false 1 a3 z2 fun a4 _ =>
 A.chk (ldv false 1 a3 st) a4
 (A.lenL a4 fun a5 =>
 A.eql 2 true a1 a5 fun a6 =>
 A.guard a6 false
 (A.noP (A.ret (s23 [x5.er1] z2) kid) fun a7 z8 =>
 A.faddr 1 x7 fun a9 =>
 A.load false 1 a9 z8 fun a10 _ =>
 A.chk (ldv false 1 a9 z2) a10
 (A.eql 2 true a7 a10 fun a11 =>
 A.cond a11
 (some (.ret ((.bool false) : V).er1, z8))
 (A.bin .add x9 (.int .i64 1) fun a12 =>
 Lze2 x1 x5 x7 a12 z8)))
 (some (.ret ((.bool false) : V).er1, z2)))
theorem g3ez1e07 (Lze2 : V → V → V → V → St → Res) : g3X (g3C [1, 1, 1, 1, 1, 0, 1, 0, 0, 1, 0, 0, 1, 1, 1]) (g3k4 Lze2) = fun env st => g3bz1e07 Lze2 (env 1) (env 5) (env 7) (env 9) st := by
  refine Eq.trans (Eq.refl (g3X (g3C [1, 1, 1, 1, 1, 0, 1, 0, 0, 1, 0, 0, 1, 1, 1]) (g3k4 Lze2))) ?_
  funext env st
  kernel_rfl
noncomputable def g3k5 (Lze2 : V → V → V → V → St → Res) : Kon := kSeq (fun env st => g3bz1e07 Lze2 (env 1) (env 5) (env 7) (env 9) st) (g3k4 Lze2)
noncomputable def g3k6 (Lze2 : V → V → V → V → St → Res) : Kon := kBlk 2 (g3k5 Lze2)
noncomputable def g3bz2gwbv (Lze2 : V → V → V → V → St → Res) (x1 : V) (x5 : V) (x7 : V) (x9 : V) (x11 : V) (x12 : V) (x13 : V) (x14 : V) (x15 : V) (st : St) : Res :=
 A.ret (s15 [x11.er1, x14.er1] st) fun a1 z2 =>
 A.un .not a1 fun a3 =>
 A.guard a3 false
 (A.eql 2 true x12 x15 fun a4 =>
 A.cond a4
 (some (.ret ((.bool false) : V).er1, z2))
 (A.load true 5 x13 z2 fun a5 z6 =>
 A.store 5 x7 a5 z6 fun z7 =>
 g3bz1e07 Lze2 x1 x5 x7 x9 z7))
 (some (.ret ((.bool false) : V).er1, z2))
theorem g3ez2gwbv (Lze2 : V → V → V → V → St → Res) : g3X (g3C [1, 1, 1, 1, 1, 0, 1, 0, 0, 1, 0, 0, 1, 1, 0, 1, 0, 1, 0, 1, 1]) (g3k6 Lze2) = fun env st => g3bz2gwbv Lze2 (env 1) (env 5) (env 7) (env 9) (env 11) (env 12) (env 13) (env 14) (env 15) st := by
  refine Eq.trans (Eq.refl (g3X (g3C [1, 1, 1, 1, 1, 0, 1, 0, 0, 1, 0, 0, 1, 1, 0, 1, 0, 1, 0, 1, 1]) (g3k6 Lze2))) ?_
  funext env st
  kernel_rfl
noncomputable def g3bz18g5x (Lze2 : V → V → V → V → St → Res) (x1 : V) (x5 : V) (x7 : V) (x9 : V) (x10 : V) (x11 : V) (x12 : V) (st : St) : Res :=
 A.load true 5 x7 st fun a1 z2 =>
 A.faddr 1 x10 fun a3 =>
 A.load true 4 a3 z2 fun a4 z5 =>
 A.ret (s14 [a1.er1, a4.er1] z5) fun a6 z7 =>
 A.ext a6 0 fun a8 =>
 A.ext a6 1 fun a9 =>
 A.ext a6 2 fun a10 =>
 A.box (.agg [(.int .i64 0), (.int .i64 0), (.int .i64 0), (.int .i64 0), (.lst [] 1)]) z7 fun a11 z12 =>
 A.store 5 a11 a8 z12 fun z13 =>
 g3bz2gwbv Lze2 x1 x5 x7 x9 x11 x12 a11 a9 a10 z13
theorem g3nz18g5x : g3C [1, 1, 1, 1, 1, 0, 1, 0, 0, 1, 0, 0, 1, 1, 0, 1, 0, 1, 0, 1] = .seq (g3C [1, 1, 1, 1, 1, 0, 1, 0, 0, 1, 0, 0, 1, 1, 0, 1, 0, 1, 0, 1, 0]) (g3C [1, 1, 1, 1, 1, 0, 1, 0, 0, 1, 0, 0, 1, 1, 0, 1, 0, 1, 0, 1, 1]) := by kernel_rfl
theorem g3ez18g5x (Lze2 : V → V → V → V → St → Res) : g3X (g3C [1, 1, 1, 1, 1, 0, 1, 0, 0, 1, 0, 0, 1, 1, 0, 1, 0, 1, 0, 1]) (g3k6 Lze2) = fun env st => g3bz18g5x Lze2 (env 1) (env 5) (env 7) (env 9) (env 10) (env 11) (env 12) st := by
  refine Eq.trans (g3seq g3nz18g5x (g3ez2gwbv Lze2)) ?_
  funext env st
  kernel_rfl
noncomputable def g3k7 (Lze2 : V → V → V → V → St → Res) : Kon := kSeq (g3X (g3C [1, 1, 1, 1, 1, 0, 1, 0, 0, 1, 0, 0, 1, 1, 0, 1, 0, 1, 1, 1, 1, 1, 1, 1, 1, 1]) (g3k6 Lze2)) (g3k6 Lze2)
noncomputable def g3k8 (Lze2 : V → V → V → V → St → Res) : Kon := kSeq (g3X (g3C [1, 1, 1, 1, 1, 0, 1, 0, 0, 1, 0, 0, 1, 1, 0, 1, 0, 1, 1, 1, 1, 1, 1, 1, 1, 0, 1]) (g3k7 Lze2)) (g3k7 Lze2)
noncomputable def g3bz4e1hbw_13 (Lze2 : V → V → V → V → St → Res) (x1 : V) (x5 : V) (x7 : V) (x9 : V) (x17 : V) (x18 : V) (x21 : V) (x102 : V) (st : St) : Res :=
 A.guard x102 false
 (A.faddr 2 x17 fun a1 =>
 A.load false 1 a1 st fun a2 z3 =>
 A.eql 1 true a2 x21 fun a4 =>
 A.cond a4
 (some (.ret ((.bool false) : V).er1, z3))
 (A.load true 5 x18 z3 fun a5 z6 =>
 A.store 5 x7 a5 z6 fun z7 =>
 g3bz1e07 Lze2 x1 x5 x7 x9 z7))
 (some (.ret ((.bool false) : V).er1, st))
theorem g3ez4e1hbw_13 (Lze2 : V → V → V → V → St → Res) : (fun env st => aops Try.prog g3mu g3T 158 (rops (g3C [1, 1, 1, 1, 1, 0, 1, 0, 0, 1, 0, 0, 1, 1, 0, 1, 0, 1, 1, 1, 1, 1, 1, 1, 1, 0, 0])) [13, 14, 15, 16, 17] env st ((g3k8 Lze2) .normal)) = fun env st => g3bz4e1hbw_13 Lze2 (env 1) (env 5) (env 7) (env 9) (env 17) (env 18) (env 21) (env 102) st := by
  refine Eq.trans (Eq.refl _) ?_
  funext env st
  kernel_rfl
noncomputable def g3bz4e1hbw_6 (Lze2 : V → V → V → V → St → Res) (x1 : V) (x5 : V) (x7 : V) (x9 : V) (x17 : V) (x18 : V) (x20 : V) (x21 : V) (x95 : V) (st : St) : Res :=
 A.guard x95 false
 (A.faddr 1 x17 fun a1 =>
 A.load false 1 a1 st fun a2 z3 =>
 A.ret (s15 [a2.er1, x20.er1] z3) fun a4 z5 =>
 A.un .not a4 fun a6 =>
 g3bz4e1hbw_13 Lze2 x1 x5 x7 x9 x17 x18 x21 a6 z5)
 (g3bz4e1hbw_13 Lze2 x1 x5 x7 x9 x17 x18 x21 (.bool true) st)
theorem g3ez4e1hbw_6 (Lze2 : V → V → V → V → St → Res) : (fun env st => aops Try.prog g3mu g3T 158 (rops (g3C [1, 1, 1, 1, 1, 0, 1, 0, 0, 1, 0, 0, 1, 1, 0, 1, 0, 1, 1, 1, 1, 1, 1, 1, 1, 0, 0])) [6, 7, 8, 9, 10, 11, 12, 13, 14, 15, 16, 17] env st ((g3k8 Lze2) .normal)) = fun env st => g3bz4e1hbw_6 Lze2 (env 1) (env 5) (env 7) (env 9) (env 17) (env 18) (env 20) (env 21) (env 95) st := by
  refine Eq.trans (ops_cut (l1 := [6, 7, 8, 9, 10, 11, 12]) (l2 := [13, 14, 15, 16, 17]) (g3ez4e1hbw_13 Lze2)) ?_
  funext env st
  kernel_rfl
noncomputable def g3bz13idbz (Lze2 : V → V → V → V → St → Res) (x1 : V) (x5 : V) (x7 : V) (x9 : V) (x17 : V) (x18 : V) (x19 : V) (x20 : V) (x21 : V) (st : St) : Res :=
 A.faddr 0 x17 fun a1 =>
 A.load false 1 a1 st fun a2 z3 =>
 A.ret (s21 [a2.er1, x19.er1] z3) fun a4 z5 =>
 A.un .not a4 fun a6 =>
 g3bz4e1hbw_6 Lze2 x1 x5 x7 x9 x17 x18 x20 x21 a6 z5
theorem g3nz13idbz : g3C [1, 1, 1, 1, 1, 0, 1, 0, 0, 1, 0, 0, 1, 1, 0, 1, 0, 1, 1, 1, 1, 1, 1, 1, 1] = .seq (g3C [1, 1, 1, 1, 1, 0, 1, 0, 0, 1, 0, 0, 1, 1, 0, 1, 0, 1, 1, 1, 1, 1, 1, 1, 1, 0]) (g3C [1, 1, 1, 1, 1, 0, 1, 0, 0, 1, 0, 0, 1, 1, 0, 1, 0, 1, 1, 1, 1, 1, 1, 1, 1, 1]) := by kernel_rfl
theorem g3nz270qny : g3C [1, 1, 1, 1, 1, 0, 1, 0, 0, 1, 0, 0, 1, 1, 0, 1, 0, 1, 1, 1, 1, 1, 1, 1, 1, 0] = .seq (g3C [1, 1, 1, 1, 1, 0, 1, 0, 0, 1, 0, 0, 1, 1, 0, 1, 0, 1, 1, 1, 1, 1, 1, 1, 1, 0, 0]) (g3C [1, 1, 1, 1, 1, 0, 1, 0, 0, 1, 0, 0, 1, 1, 0, 1, 0, 1, 1, 1, 1, 1, 1, 1, 1, 0, 1]) := by kernel_rfl
theorem g3rgz4e1hbw : g3C [1, 1, 1, 1, 1, 0, 1, 0, 0, 1, 0, 0, 1, 1, 0, 1, 0, 1, 1, 1, 1, 1, 1, 1, 1, 0, 0] = .region 19 (rops (g3C [1, 1, 1, 1, 1, 0, 1, 0, 0, 1, 0, 0, 1, 1, 0, 1, 0, 1, 1, 1, 1, 1, 1, 1, 1, 0, 0])) false := by kernel_rfl
theorem g3rgz4e1hbwl : List.range (rops (g3C [1, 1, 1, 1, 1, 0, 1, 0, 0, 1, 0, 0, 1, 1, 0, 1, 0, 1, 1, 1, 1, 1, 1, 1, 1, 0, 0])).size = [0, 1, 2, 3, 4, 5] ++ [6, 7, 8, 9, 10, 11, 12, 13, 14, 15, 16, 17] := by kernel_rfl
theorem g3ez13idbz (Lze2 : V → V → V → V → St → Res) : g3X (g3C [1, 1, 1, 1, 1, 0, 1, 0, 0, 1, 0, 0, 1, 1, 0, 1, 0, 1, 1, 1, 1, 1, 1, 1, 1]) (g3k6 Lze2) = fun env st => g3bz13idbz Lze2 (env 1) (env 5) (env 7) (env 9) (env 17) (env 18) (env 19) (env 20) (env 21) st := by
  refine Eq.trans ((g3seq g3nz13idbz rfl).trans ((g3seq g3nz270qny rfl).trans (g3reg g3rgz4e1hbw g3rgz4e1hbwl (g3ez4e1hbw_6 Lze2)))) ?_
  funext env st
  kernel_rfl
noncomputable def g3bz9vlbz (Lze2 : V → V → V → V → St → Res) (x1 : V) (x5 : V) (x7 : V) (x9 : V) (x16 : V) (st : St) : Res :=
 A.ret (s19 [x5.er1, x16.er1] st) fun a1 z2 =>
 A.box (.agg [(.lst [] 1), (.lst [] 1), (.bool false)]) z2 fun a3 z4 =>
 A.store 3 a3 a1 z4 fun z5 =>
 A.load true 5 x7 z5 fun a6 z7 =>
 A.ret (s20 [a6.er1, x16.er1] z7) fun a8 z9 =>
 A.ext a8 0 fun a10 =>
 A.ext a8 1 fun a11 =>
 A.ext a8 2 fun a12 =>
 A.ext a8 3 fun a13 =>
 A.box (.agg [(.int .i64 0), (.int .i64 0), (.int .i64 0), (.int .i64 0), (.lst [] 1)]) z9 fun a14 z15 =>
 A.store 5 a14 a10 z15 fun z16 =>
 g3bz13idbz Lze2 x1 x5 x7 x9 a3 a14 a11 a12 a13 z16
theorem g3nz9vlbz : g3C [1, 1, 1, 1, 1, 0, 1, 0, 0, 1, 0, 0, 1, 1, 0, 1, 0, 1, 1, 1, 1, 1, 1] = .seq (g3C [1, 1, 1, 1, 1, 0, 1, 0, 0, 1, 0, 0, 1, 1, 0, 1, 0, 1, 1, 1, 1, 1, 1, 0]) (g3C [1, 1, 1, 1, 1, 0, 1, 0, 0, 1, 0, 0, 1, 1, 0, 1, 0, 1, 1, 1, 1, 1, 1, 1]) := by kernel_rfl
theorem g3nzjr6nz : g3C [1, 1, 1, 1, 1, 0, 1, 0, 0, 1, 0, 0, 1, 1, 0, 1, 0, 1, 1, 1, 1, 1, 1, 1] = .seq (g3C [1, 1, 1, 1, 1, 0, 1, 0, 0, 1, 0, 0, 1, 1, 0, 1, 0, 1, 1, 1, 1, 1, 1, 1, 0]) (g3C [1, 1, 1, 1, 1, 0, 1, 0, 0, 1, 0, 0, 1, 1, 0, 1, 0, 1, 1, 1, 1, 1, 1, 1, 1]) := by kernel_rfl
theorem g3ez9vlbz (Lze2 : V → V → V → V → St → Res) : g3X (g3C [1, 1, 1, 1, 1, 0, 1, 0, 0, 1, 0, 0, 1, 1, 0, 1, 0, 1, 1, 1, 1, 1, 1]) (g3k6 Lze2) = fun env st => g3bz9vlbz Lze2 (env 1) (env 5) (env 7) (env 9) (env 16) st := by
  refine Eq.trans (g3seq g3nz9vlbz (g3seq g3nzjr6nz (g3ez13idbz Lze2))) ?_
  funext env st
  kernel_rfl
noncomputable def g3bzp03 (Lze2 : V → V → V → V → St → Res) (x1 : V) (x5 : V) (x7 : V) (x9 : V) (x10 : V) (st : St) : Res :=
 A.faddr 0 x10 fun a1 =>
 A.load false 1 a1 st fun a2 z3 =>
 A.eql 2 false a2 (.int .i64 1) fun a4 =>
 A.cond a4
 (A.faddr 1 x10 fun a5 =>
 A.load true 4 a5 z3 fun a6 z7 =>
 A.ret (s13 [x5.er1, a6.er1] z7) fun a8 z9 =>
 A.ext a8 0 fun a10 =>
 A.ext a8 1 fun a11 =>
 g3bz18g5x Lze2 x1 x5 x7 x9 x10 a10 a11 z9)
 (A.eql 2 false a2 (.int .i64 2) fun a12 =>
 A.cond a12
 (A.noP (A.ret (s16 [x5.er1] z3) kid) fun a13 z14 =>
 A.load true 5 x7 z14 fun a15 _ =>
 A.chk (ldv true 5 x7 z3) a15
 (A.noP (A.ret (s17 [a15.er1] z14) kid) fun a16 z17 =>
 A.noP (A.ret (s15 [a13.er1, a16.er1] z17) kid) fun a18 z19 =>
 A.un .not a18 fun a20 =>
 A.cond a20
 (some (.ret ((.bool false) : V).er1, z19))
 (g3bz1e07 Lze2 x1 x5 x7 x9 z19)))
 (A.faddr 5 x10 fun a21 =>
 A.load false 1 a21 z3 fun a22 z23 =>
 A.faddr 0 x10 fun a24 =>
 A.load false 1 a24 z23 fun a25 z26 =>
 A.eql 2 false a25 (.int .i64 4) fun a27 =>
 A.cond a27
 (A.load true 8 x10 z26 fun a28 z29 =>
 A.ret (s18 [a28.er1] z29) fun a30 z31 =>
 g3bz9vlbz Lze2 x1 x5 x7 x9 a30 z31)
 (g3bz9vlbz Lze2 x1 x5 x7 x9 a22 z26)))
theorem g3nzp03 : g3C [1, 1, 1, 1, 1, 0, 1, 0, 0, 1, 0, 0, 1, 1] = .seq (g3C [1, 1, 1, 1, 1, 0, 1, 0, 0, 1, 0, 0, 1, 1, 0]) (g3C [1, 1, 1, 1, 1, 0, 1, 0, 0, 1, 0, 0, 1, 1, 1]) := by kernel_rfl
theorem g3nz1e06 : g3C [1, 1, 1, 1, 1, 0, 1, 0, 0, 1, 0, 0, 1, 1, 0] = .seq (g3C [1, 1, 1, 1, 1, 0, 1, 0, 0, 1, 0, 0, 1, 1, 0, 0]) (g3C [1, 1, 1, 1, 1, 0, 1, 0, 0, 1, 0, 0, 1, 1, 0, 1]) := by kernel_rfl
theorem g3nz2s0d : g3C [1, 1, 1, 1, 1, 0, 1, 0, 0, 1, 0, 0, 1, 1, 0, 1] = .block 2 (g3C [1, 1, 1, 1, 1, 0, 1, 0, 0, 1, 0, 0, 1, 1, 0, 1, 0]) := by kernel_rfl
theorem g3nz5k0q : g3C [1, 1, 1, 1, 1, 0, 1, 0, 0, 1, 0, 0, 1, 1, 0, 1, 0] = .seq (g3C [1, 1, 1, 1, 1, 0, 1, 0, 0, 1, 0, 0, 1, 1, 0, 1, 0, 0]) (g3C [1, 1, 1, 1, 1, 0, 1, 0, 0, 1, 0, 0, 1, 1, 0, 1, 0, 1]) := by kernel_rfl
theorem g3nzb41h : g3C [1, 1, 1, 1, 1, 0, 1, 0, 0, 1, 0, 0, 1, 1, 0, 1, 0, 1] = .cond (.tmp 109) (g3C [1, 1, 1, 1, 1, 0, 1, 0, 0, 1, 0, 0, 1, 1, 0, 1, 0, 1, 0]) (g3C [1, 1, 1, 1, 1, 0, 1, 0, 0, 1, 0, 0, 1, 1, 0, 1, 0, 1, 1]) := by kernel_rfl
theorem g3nzm82y : g3C [1, 1, 1, 1, 1, 0, 1, 0, 0, 1, 0, 0, 1, 1, 0, 1, 0, 1, 0] = .seq (g3C [1, 1, 1, 1, 1, 0, 1, 0, 0, 1, 0, 0, 1, 1, 0, 1, 0, 1, 0, 0]) (g3C [1, 1, 1, 1, 1, 0, 1, 0, 0, 1, 0, 0, 1, 1, 0, 1, 0, 1, 0, 1]) := by kernel_rfl
theorem g3nzm82z : g3C [1, 1, 1, 1, 1, 0, 1, 0, 0, 1, 0, 0, 1, 1, 0, 1, 0, 1, 1] = .seq (g3C [1, 1, 1, 1, 1, 0, 1, 0, 0, 1, 0, 0, 1, 1, 0, 1, 0, 1, 1, 0]) (g3C [1, 1, 1, 1, 1, 0, 1, 0, 0, 1, 0, 0, 1, 1, 0, 1, 0, 1, 1, 1]) := by kernel_rfl
theorem g3nz18g5z : g3C [1, 1, 1, 1, 1, 0, 1, 0, 0, 1, 0, 0, 1, 1, 0, 1, 0, 1, 1, 1] = .cond (.tmp 136) (g3C [1, 1, 1, 1, 1, 0, 1, 0, 0, 1, 0, 0, 1, 1, 0, 1, 0, 1, 1, 1, 0]) (g3C [1, 1, 1, 1, 1, 0, 1, 0, 0, 1, 0, 0, 1, 1, 0, 1, 0, 1, 1, 1, 1]) := by kernel_rfl
theorem g3nz2gwbz : g3C [1, 1, 1, 1, 1, 0, 1, 0, 0, 1, 0, 0, 1, 1, 0, 1, 0, 1, 1, 1, 1] = .seq (g3C [1, 1, 1, 1, 1, 0, 1, 0, 0, 1, 0, 0, 1, 1, 0, 1, 0, 1, 1, 1, 1, 0]) (g3C [1, 1, 1, 1, 1, 0, 1, 0, 0, 1, 0, 0, 1, 1, 0, 1, 0, 1, 1, 1, 1, 1]) := by kernel_rfl
theorem g3nz4xsnz : g3C [1, 1, 1, 1, 1, 0, 1, 0, 0, 1, 0, 0, 1, 1, 0, 1, 0, 1, 1, 1, 1, 1] = .seq (g3C [1, 1, 1, 1, 1, 0, 1, 0, 0, 1, 0, 0, 1, 1, 0, 1, 0, 1, 1, 1, 1, 1, 0]) (g3C [1, 1, 1, 1, 1, 0, 1, 0, 0, 1, 0, 0, 1, 1, 0, 1, 0, 1, 1, 1, 1, 1, 1]) := by kernel_rfl
theorem g3ezp03 (Lze2 : V → V → V → V → St → Res) : g3X (g3C [1, 1, 1, 1, 1, 0, 1, 0, 0, 1, 0, 0, 1, 1]) (g3k4 Lze2) = fun env st => g3bzp03 Lze2 (env 1) (env 5) (env 7) (env 9) (env 10) st := by
  refine Eq.trans ((g3seq g3nzp03 (g3ez1e07 Lze2)).trans (g3seq g3nz1e06 ((g3blk g3nz2s0d).trans (g3seq g3nz5k0q (g3cond g3nzb41h (g3seq g3nzm82y (g3ez18g5x Lze2)) (g3seq g3nzm82z (g3cond g3nz18g5z rfl (g3seq g3nz2gwbz (g3seq g3nz4xsnz (g3ez9vlbz Lze2)))))))))) ?_
  funext env st
  kernel_rfl
noncomputable def g3bz1k9 (Lze2 : V → V → V → V → St → Res) (x1 : V) (x5 : V) (x7 : V) (x9 : V) (st : St) : Res :=
 A.iaddr 8 x1 x9 fun a1 =>
 A.load true 8 a1 st fun a2 z3 =>
 A.box (.agg [(.int .i64 0), (.int .i64 0), (.lst [] 1), (.lst [] 1), (.lst [] 1), (.str []), (.lst [] 1), (.int .i64 0)]) z3 fun a4 z5 =>
 A.store 8 a4 a2 z5 fun z6 =>
 A.faddr 1 a4 fun a7 =>
 A.load true 4 a7 z6 fun a8 z9 =>
 A.ret (s12 [a8.er1] z9) fun a10 z11 =>
 A.un .not a10 fun a12 =>
 A.guard a12 false
 (A.faddr 5 a4 fun a13 =>
 A.load false 1 a13 z11 fun a14 z15 =>
 A.lenS a14 fun a16 =>
 A.bin .gtr a16 (.int .i64 4096) fun a17 =>
 A.cond a17
 (A.ret (s11 [] z15) fun a18 z19 =>
 some (.ret a18.er1, z19))
 (g3bzp03 Lze2 x1 x5 x7 x9 a4 z15))
 (A.ret (s11 [] z11) fun a20 z21 =>
 some (.ret a20.er1, z21))
theorem g3nz1k9 : g3C [1, 1, 1, 1, 1, 0, 1, 0, 0, 1] = .seq (g3C [1, 1, 1, 1, 1, 0, 1, 0, 0, 1, 0]) (g3C [1, 1, 1, 1, 1, 0, 1, 0, 0, 1, 1]) := by kernel_rfl
theorem g3nz34i : g3C [1, 1, 1, 1, 1, 0, 1, 0, 0, 1, 0] = .block 1 (g3C [1, 1, 1, 1, 1, 0, 1, 0, 0, 1, 0, 0]) := by kernel_rfl
theorem g3nz690 : g3C [1, 1, 1, 1, 1, 0, 1, 0, 0, 1, 0, 0] = .seq (g3C [1, 1, 1, 1, 1, 0, 1, 0, 0, 1, 0, 0, 0]) (g3C [1, 1, 1, 1, 1, 0, 1, 0, 0, 1, 0, 0, 1]) := by kernel_rfl
theorem g3nzci1 : g3C [1, 1, 1, 1, 1, 0, 1, 0, 0, 1, 0, 0, 1] = .seq (g3C [1, 1, 1, 1, 1, 0, 1, 0, 0, 1, 0, 0, 1, 0]) (g3C [1, 1, 1, 1, 1, 0, 1, 0, 0, 1, 0, 0, 1, 1]) := by kernel_rfl
theorem g3ez1k9 (Lze2 : V → V → V → V → St → Res) : g3X (g3C [1, 1, 1, 1, 1, 0, 1, 0, 0, 1]) (g3k2 Lze2) = fun env st => g3bz1k9 Lze2 (env 1) (env 5) (env 7) (env 9) st := by
  refine Eq.trans ((g3seq g3nz1k9 rfl).trans ((g3blk g3nz34i).trans (g3seq g3nz690 (g3seq g3nzci1 (g3ezp03 Lze2))))) ?_
  funext env st
  kernel_rfl
noncomputable def g3bze2 : Nat → V → V → V → V → St → Res
| 0, _, _, _, _, _ => none
| n + 1, x1, x5, x7, x9, st =>
 A.lenL x1 fun a1 =>
 A.bin .lss x9 a1 fun a2 =>
 A.guard a2 true
 (A.bin .lss x9 (.int .i64 100) fun a3 =>
 A.cond a3
 (g3bz1k9 (g3bze2 n) x1 x5 x7 x9 st)
 (A.ret (s11 [] st) fun a4 z5 =>
 some (.ret a4.er1, z5)))
 (A.ret (s11 [] st) fun a6 z7 =>
 some (.ret a6.er1, z7))
theorem g3nze2 : g3C [1, 1, 1, 1, 1, 0, 1, 0] = .loop (g3C [1, 1, 1, 1, 1, 0, 1, 0, 0]) := by kernel_rfl
theorem g3nzs4 : g3C [1, 1, 1, 1, 1, 0, 1, 0, 0] = .seq (g3C [1, 1, 1, 1, 1, 0, 1, 0, 0, 0]) (g3C [1, 1, 1, 1, 1, 0, 1, 0, 0, 1]) := by kernel_rfl
theorem g3eze2 : g3X (g3C [1, 1, 1, 1, 1, 0, 1, 0]) (g3k1) = fun env st => g3bze2 big (env 1) (env 5) (env 7) (env 9) st := by
  have key : ∀ n, aloop (g3X (g3C [1, 1, 1, 1, 1, 0, 1, 0, 0])) (g3k1) n = fun env st => g3bze2 n (env 1) (env 5) (env 7) (env 9) st := by
    intro n
    induction n with
    | zero => rfl
    | succ n ih =>
      have h : aloop (g3X (g3C [1, 1, 1, 1, 1, 0, 1, 0, 0])) (g3k1) (n + 1) = g3X (g3C [1, 1, 1, 1, 1, 0, 1, 0, 0]) (kSeq (aloop (g3X (g3C [1, 1, 1, 1, 1, 0, 1, 0, 0])) (g3k1) n) (g3k1)) := rfl
      rw [h, ih]
      refine Eq.trans (g3seq g3nzs4 (g3ez1k9 (g3bze2 n))) ?_
      funext env st
      kernel_rfl
  exact (g3loop g3nze2).trans (key big)
noncomputable def g3b1111 (x1 : V) (x5 : V) (x7 : V) (st : St) : Res :=
 A.eql 4 false x5 .ptr0 fun a1 =>
 A.cond a1
 (A.ret (s11 [] st) fun a2 z3 =>
 some (.ret a2.er1, z3))
 (g3bze2 big x1 x5 x7 (.int .i64 0) st)
theorem g3n1111 : g3C [1, 1, 1, 1] = .seq (g3C [1, 1, 1, 1, 0]) (g3C [1, 1, 1, 1, 1]) := by kernel_rfl
theorem g3n11111 : g3C [1, 1, 1, 1, 1] = .seq (g3C [1, 1, 1, 1, 1, 0]) (g3C [1, 1, 1, 1, 1, 1]) := by kernel_rfl
theorem g3nz3i : g3C [1, 1, 1, 1, 1, 0] = .seq (g3C [1, 1, 1, 1, 1, 0, 0]) (g3C [1, 1, 1, 1, 1, 0, 1]) := by kernel_rfl
theorem g3nz71 : g3C [1, 1, 1, 1, 1, 0, 1] = .block 0 (g3C [1, 1, 1, 1, 1, 0, 1, 0]) := by kernel_rfl
theorem g3e1111 : g3X (g3C [1, 1, 1, 1]) (g3kr) = fun env st => g3b1111 (env 1) (env 5) (env 7) st := by
  refine Eq.trans (g3seq g3n1111 ((g3seq g3n11111 rfl).trans (g3seq g3nz3i ((g3blk g3nz71).trans (g3eze2))))) ?_
  funext env st
  kernel_rfl
noncomputable def g3b111 (x1 : V) (x5 : V) (x6 : V) (x7 : V) (x8 : V) (st : St) : Res :=
 A.eql 2 true x6 x8 fun a1 =>
 A.guard a1 false
 (A.eql 4 true x5 .ptr0 fun a2 =>
 A.eql 2 false x8 (.int .i64 0) fun a3 =>
 A.eql 1 true a2 a3 fun a4 =>
 A.cond a4
 (some (.ret ((.bool false) : V).er1, st))
 (g3b1111 x1 x5 x7 st))
 (some (.ret ((.bool false) : V).er1, st))
theorem g3n111 : g3C [1, 1, 1] = .seq (g3C [1, 1, 1, 0]) (g3C [1, 1, 1, 1]) := by kernel_rfl
theorem g3e111 : g3X (g3C [1, 1, 1]) (g3kr) = fun env st => g3b111 (env 1) (env 5) (env 6) (env 7) (env 8) st := by
  refine Eq.trans (g3seq g3n111 (g3e1111)) ?_
  funext env st
  kernel_rfl
noncomputable def f3 (x0 : V) (x1 : V) (st : St) : Res :=
 A.ret (s9 [x0.er1] st) fun a1 z2 =>
 A.ext a1 0 fun a3 =>
 A.ext a1 1 fun a4 =>
 A.ret (s10 [x0.er1] z2) fun a5 z6 =>
 A.ext a5 0 fun a7 =>
 A.ext a5 1 fun a8 =>
 A.box (.agg [(.int .i64 0), (.int .i64 0), (.int .i64 0), (.int .i64 0), (.lst [] 1)]) z6 fun a9 z10 =>
 A.store 5 a9 a7 z10 fun z11 =>
 g3b111 x1 a3 a4 a9 a8 z11
theorem g3nr : g3C [] = .seq (g3C [0]) (g3C [1]) := by kernel_rfl
theorem g3n1 : g3C [1] = .seq (g3C [1, 0]) (g3C [1, 1]) := by kernel_rfl
theorem g3n11 : g3C [1, 1] = .seq (g3C [1, 1, 0]) (g3C [1, 1, 1]) := by kernel_rfl
theorem g3er (env : Env) (st : St) : g3X (g3C []) g3kr env st = f3 (env 0) (env 1) st := by
  rw [(g3seq g3nr (g3seq g3n1 (g3seq g3n11 (g3e111))))]
  kernel_rfl
theorem s3_eq (x0 : V) (x1 : V) (st : St) : s3 [x0, x1] st = f3 x0 x1 st := by
  have h : afn Try.prog g3mu g3T big (areg Try.prog g3mu g3T) 3 [x0, x1] st = g3X (g3C []) g3kr (fun t => [x0, x1].getD t (.tup [])) st := by kernel_rfl
  rw [s3, sealF_eq]
  exact h.trans (g3er _ st)
end Go.Ab
