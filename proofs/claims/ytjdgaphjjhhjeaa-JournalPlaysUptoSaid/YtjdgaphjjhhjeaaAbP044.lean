import Derived.Test.YtjdgaphjjhhjeaaAbQuiet
import Derived.Test.YtjdgaphjjhhjeaaAbP043
namespace Go.Ab
open Go.Proofs
set_option linter.unusedVariables false
set_option maxRecDepth 100000
/-! slices.ContainsFunc[[]sinew/api.Note,sinew/api.Note] -/
def g32mu : Nat → Bool := fun _ => false
noncomputable def g32T : Tbl := tget [(30, s30), (41, s41)]
theorem g32t : SimT Try.prog g32T := simT_cons sim30 ( simT_cons sim41 (simT_nil))
noncomputable def s32 : Fn := sealF (fun args st => fg (afn Try.prog g32mu g32T big (areg Try.prog g32mu g32T) 32 args st) st)
theorem sim32 : Sim Try.prog 32 s32 := (afn_sim g32t (fun m => areg_sound g32t hmix m) 32 (by kernel_rfl)).fg.sealed
noncomputable def f32 (x0 : V) (x1 : V) (st : St) : Res :=
 A.ret (s41 [x0.er1, x1.er1] st) fun a1 z2 =>
 A.bin .geq a1 (.int .i64 0) fun a3 =>
 some (.ret a3.er1, z2)
theorem s32_eq (x0 : V) (x1 : V) (st : St) : s32 [x0, x1] st = fg (f32 x0 x1 st) st := by
  rw [s32, sealF_eq]
  show fg _ st = fg _ st
  refine congrArg (fun r => fg r st) ?_
  kernel_rfl
/-! (*sinew/journal.Journal).Begin -/
def g21mu : Nat → Bool := fun _ => false
noncomputable def g21T : Tbl := tget [(12, s12), (13, s13), (23, s23), (32, s32)]
theorem g21t : SimT Try.prog g21T := simT_cons sim12 ( simT_cons sim13 ( simT_cons sim23 ( simT_cons sim32 (simT_nil))))
noncomputable def s21 : Fn := sealF (afn Try.prog g21mu g21T big (areg Try.prog g21mu g21T) 21)
theorem sim21 : Sim Try.prog 21 s21 := (afn_sim g21t (fun m => areg_sound g21t hmix m) 21 (by kernel_rfl)).sealed
noncomputable def g21C (p : List Nat) : Code := sub (match Try.f21.body with | some c => c | none => .skip) p
noncomputable def g21X (c : Code) (K : Kon) : Env → St → Res := aexec Try.prog g21mu g21T big 44 (areg Try.prog g21mu g21T 44) c K
noncomputable def g21kr : Kon := aresK Try.prog Try.f21.results.toList
theorem g21reg {c : Code} {K : Kon} {G : Env → St → Res} {id : Nat} {ops : Array Oper} {l1 l2 : List Nat} (hc : c = .region id ops false) (hl : List.range ops.size = l1 ++ l2) (h : (fun env st => aops Try.prog g21mu g21T 44 ops l2 env st (K .normal)) = G) : g21X c K = fun env st => aops Try.prog g21mu g21T 44 ops l1 env st G := reg_cut hc hl h
theorem g21seq {c x y : Code} {K : Kon} {G : Env → St → Res} (hc : c = .seq x y) (hy : g21X y K = G) : g21X c K = g21X x (kSeq G K) := seq_cut hc hy
theorem g21blk {c x : Code} {K : Kon} {i : Nat} (hc : c = .block i x) : g21X c K = g21X x (kBlk i K) := blk_cut hc
theorem g21loop {c x : Code} {K : Kon} (hc : c = .loop x) : g21X c K = aloop (g21X x) K big := loop_cut hc
theorem g21cond {c x y : Code} {K : Kon} {v : Operand} {F G : Env → St → Res} (hc : c = .cond v x y) (hx : g21X x K = F) (hy : g21X y K = G) : g21X c K = condF v F G := cond_cut hc hx hy
noncomputable def g21k0 : Kon := kSeq (g21X (g21C [1, 1, 1, 1, 1]) (g21kr)) (g21kr)
noncomputable def g21k1 : Kon := kBlk 0 (g21k0)
noncomputable def g21b1111010 : Nat → V → V → V → V → V → St → Res
| 0, _, _, _, _, _, _ => none
| n + 1, x0, x6, x24, x25, x26, st =>
 A.bin .lss x26 x25 fun a1 =>
 A.cond a1
 (A.iaddr 4 x24 x26 fun a2 =>
 A.load true 4 a2 st fun a3 z4 =>
 A.box (.agg [(.int .i64 0), (.lst [] 1), (.lst [] 1), (.lst [] 1)]) z4 fun a5 z6 =>
 A.store 4 a5 a3 z6 fun z7 =>
 A.load true 4 a5 z7 fun a8 z9 =>
 A.ret (s12 [x6.er1, a8.er1] z9) fun a10 z11 =>
 A.eql 2 true a10 (.int .i64 0) fun a12 =>
 A.cond a12
 (some (.ret a10.er1, z11))
 (A.bin .add x26 (.int .i64 1) fun a13 =>
 (g21b1111010 n) x0 x6 x24 x25 a13 z11))
 (A.nilc x6 fun a14 =>
 A.load true 3 a14 st fun a15 z16 =>
 A.nilc x0 fun a17 =>
 A.store 3 a17 a15 z16 fun z18 =>
 A.ret (s13 [x0.er1] z18) fun a19 z20 =>
 some (.ret a19.er1, z20))
theorem g21n1111010 : g21C [1, 1, 1, 1, 0, 1, 0] = .loop (g21C [1, 1, 1, 1, 0, 1, 0, 0]) := by kernel_rfl
noncomputable def g21k2 (L1111010 : V → V → V → V → V → St → Res) : Kon := kSeq (fun env st => L1111010 (env 0) (env 6) (env 24) (env 25) (env 26) st) (g21k1)
theorem g21e1111010 : g21X (g21C [1, 1, 1, 1, 0, 1, 0]) (g21k1) = fun env st => g21b1111010 big (env 0) (env 6) (env 24) (env 25) (env 26) st := by
  have key : ∀ n, aloop (g21X (g21C [1, 1, 1, 1, 0, 1, 0, 0])) (g21k1) n = fun env st => g21b1111010 n (env 0) (env 6) (env 24) (env 25) (env 26) st := by
    intro n
    induction n with
    | zero => rfl
    | succ n ih =>
      have h : aloop (g21X (g21C [1, 1, 1, 1, 0, 1, 0, 0])) (g21k1) (n + 1) = g21X (g21C [1, 1, 1, 1, 0, 1, 0, 0]) (kSeq (aloop (g21X (g21C [1, 1, 1, 1, 0, 1, 0, 0])) (g21k1) n) (g21k1)) := rfl
      rw [h, ih]
      refine Eq.trans (Eq.refl _) ?_
      funext env st
      kernel_rfl
  exact (g21loop g21n1111010).trans (key big)
noncomputable def g21b111 (x0 : V) (x1 : V) (st : St) : Res :=
 A.nilc x0 fun a1 =>
 A.faddr 0 a1 fun a2 =>
 A.load false 1 a2 st fun a3 z4 =>
 A.build [(.int .i64 0), (.lst [] 1), (.int .i64 0)] [(0, 1, a3)] fun a5 =>
 A.box a5 z4 fun a6 z7 =>
 A.lenL x1 fun a8 =>
 g21b1111010 big x0 a6 x1 a8 (.int .i64 0) z7
theorem g21n111 : g21C [1, 1, 1] = .seq (g21C [1, 1, 1, 0]) (g21C [1, 1, 1, 1]) := by kernel_rfl
theorem g21n1111 : g21C [1, 1, 1, 1] = .seq (g21C [1, 1, 1, 1, 0]) (g21C [1, 1, 1, 1, 1]) := by kernel_rfl
theorem g21n11110 : g21C [1, 1, 1, 1, 0] = .seq (g21C [1, 1, 1, 1, 0, 0]) (g21C [1, 1, 1, 1, 0, 1]) := by kernel_rfl
theorem g21n111101 : g21C [1, 1, 1, 1, 0, 1] = .block 0 (g21C [1, 1, 1, 1, 0, 1, 0]) := by kernel_rfl
theorem g21e111 : g21X (g21C [1, 1, 1]) (g21kr) = fun env st => g21b111 (env 0) (env 1) st := by
  refine Eq.trans (g21seq g21n111 ((g21seq g21n1111 rfl).trans (g21seq g21n11110 ((g21blk g21n111101).trans (g21e1111010))))) ?_
  funext env st
  kernel_rfl
noncomputable def f21 (x0 : V) (x1 : V) (st : St) : Res :=
 A.ret (s23 [x0.er1] st) fun a1 z2 =>
 A.un .not a1 fun a3 =>
 A.guard a3 false
 (A.ret (s32 [x1.er1, ((.fn 30 [] []) : V).er1] z2) fun a4 z5 =>
 A.cond a4
 (some (.ret ((.int .i64 1) : V).er1, z5))
 (g21b111 x0 x1 z5))
 (some (.ret ((.int .i64 1) : V).er1, z2))
theorem g21nr : g21C [] = .seq (g21C [0]) (g21C [1]) := by kernel_rfl
theorem g21n1 : g21C [1] = .seq (g21C [1, 0]) (g21C [1, 1]) := by kernel_rfl
theorem g21n11 : g21C [1, 1] = .seq (g21C [1, 1, 0]) (g21C [1, 1, 1]) := by kernel_rfl
theorem g21er (env : Env) (st : St) : g21X (g21C []) g21kr env st = f21 (env 0) (env 1) st := by
  rw [(g21seq g21nr (g21seq g21n1 (g21seq g21n11 (g21e111))))]
  kernel_rfl
theorem s21_eq (x0 : V) (x1 : V) (st : St) : s21 [x0, x1] st = f21 x0 x1 st := by
  have h : afn Try.prog g21mu g21T big (areg Try.prog g21mu g21T) 21 [x0, x1] st = g21X (g21C []) g21kr (fun t => [x0, x1].getD t (.tup [])) st := by kernel_rfl
  rw [s21, sealF_eq]
  exact h.trans (g21er _ st)
/-! sinew/sinewref03.short -/
def g74mu : Nat → Bool := fun _ => false
noncomputable def g74T : Tbl := tget []
theorem g74t : SimT Try.prog g74T := simT_nil
noncomputable def s74 : Fn := sealF (afn Try.prog g74mu g74T big (areg Try.prog g74mu g74T) 74)
theorem sim74 : Sim Try.prog 74 s74 := (afn_sim g74t (fun m => areg_sound g74t hmix m) 74 (by kernel_rfl)).sealed
noncomputable def g74C (p : List Nat) : Code := sub (match Try.f74.body with | some c => c | none => .skip) p
noncomputable def g74X (c : Code) (K : Kon) : Env → St → Res := aexec Try.prog g74mu g74T big 16 (areg Try.prog g74mu g74T 16) c K
noncomputable def g74kr : Kon := aresK Try.prog Try.f74.results.toList
theorem g74reg {c : Code} {K : Kon} {G : Env → St → Res} {id : Nat} {ops : Array Oper} {l1 l2 : List Nat} (hc : c = .region id ops false) (hl : List.range ops.size = l1 ++ l2) (h : (fun env st => aops Try.prog g74mu g74T 16 ops l2 env st (K .normal)) = G) : g74X c K = fun env st => aops Try.prog g74mu g74T 16 ops l1 env st G := reg_cut hc hl h
theorem g74seq {c x y : Code} {K : Kon} {G : Env → St → Res} (hc : c = .seq x y) (hy : g74X y K = G) : g74X c K = g74X x (kSeq G K) := seq_cut hc hy
theorem g74blk {c x : Code} {K : Kon} {i : Nat} (hc : c = .block i x) : g74X c K = g74X x (kBlk i K) := blk_cut hc
theorem g74loop {c x : Code} {K : Kon} (hc : c = .loop x) : g74X c K = aloop (g74X x) K big := loop_cut hc
theorem g74cond {c x y : Code} {K : Kon} {v : Operand} {F G : Env → St → Res} (hc : c = .cond v x y) (hx : g74X x K = F) (hy : g74X y K = G) : g74X c K = condF v F G := cond_cut hc hx hy
noncomputable def g74k0 : Kon := kSeq (g74X (g74C [1, 1]) (g74kr)) (g74kr)
noncomputable def g74k1 : Kon := kBlk 0 (g74k0)
noncomputable def g74b1010 : Nat → V → V → St → Res
| 0, _, _, _ => none
| n + 1, x0, x3, st =>
 A.lenL x0 fun a1 =>
 A.bin .lss x3 a1 fun a2 =>
 A.cond a2
 (A.iaddr 1 x0 x3 fun a3 =>
 A.load false 1 a3 st fun a4 z5 =>
 A.lenS a4 fun a6 =>
 A.bin .gtr a6 (.int .i64 65536) fun a7 =>
 A.cond a7
 (some (.ret ((.bool false) : V).er1, z5))
 (A.bin .add x3 (.int .i64 1) fun a8 =>
 (g74b1010 n) x0 a8 z5))
 (some (.ret ((.bool true) : V).er1, st))
theorem g74n1010 : g74C [1, 0, 1, 0] = .loop (g74C [1, 0, 1, 0, 0]) := by kernel_rfl
noncomputable def g74k2 (L1010 : V → V → St → Res) : Kon := kSeq (fun env st => L1010 (env 0) (env 3) st) (g74k1)
theorem g74e1010 : g74X (g74C [1, 0, 1, 0]) (g74k1) = fun env st => g74b1010 big (env 0) (env 3) st := by
  have key : ∀ n, aloop (g74X (g74C [1, 0, 1, 0, 0])) (g74k1) n = fun env st => g74b1010 n (env 0) (env 3) st := by
    intro n
    induction n with
    | zero => rfl
    | succ n ih =>
      have h : aloop (g74X (g74C [1, 0, 1, 0, 0])) (g74k1) (n + 1) = g74X (g74C [1, 0, 1, 0, 0]) (kSeq (aloop (g74X (g74C [1, 0, 1, 0, 0])) (g74k1) n) (g74k1)) := rfl
      rw [h, ih]
      refine Eq.trans (Eq.refl _) ?_
      funext env st
      kernel_rfl
  exact (g74loop g74n1010).trans (key big)
noncomputable def f74 (x0 : V) (st : St) : Res :=
 g74b1010 big x0 (.int .i64 0) st
theorem g74nr : g74C [] = .seq (g74C [0]) (g74C [1]) := by kernel_rfl
theorem g74n1 : g74C [1] = .seq (g74C [1, 0]) (g74C [1, 1]) := by kernel_rfl
theorem g74n10 : g74C [1, 0] = .seq (g74C [1, 0, 0]) (g74C [1, 0, 1]) := by kernel_rfl
theorem g74n101 : g74C [1, 0, 1] = .block 0 (g74C [1, 0, 1, 0]) := by kernel_rfl
theorem g74er (env : Env) (st : St) : g74X (g74C []) g74kr env st = f74 (env 0) st := by
  rw [(g74seq g74nr ((g74seq g74n1 rfl).trans (g74seq g74n10 ((g74blk g74n101).trans (g74e1010)))))]
  kernel_rfl
theorem s74_eq (x0 : V) (st : St) : s74 [x0] st = f74 x0 st := by
  have h : afn Try.prog g74mu g74T big (areg Try.prog g74mu g74T) 74 [x0] st = g74X (g74C []) g74kr (fun t => [x0].getD t (.tup [])) st := by kernel_rfl
  rw [s74, sealF_eq]
  exact h.trans (g74er _ st)
/-! sinew/sinewref03.shaped -/
def g66mu : Nat → Bool := fun _ => false
noncomputable def g66T : Tbl := tget [(74, s74)]
theorem g66t : SimT Try.prog g66T := simT_cons sim74 (simT_nil)
noncomputable def s66 : Fn := sealF (fun args st => fg (afn Try.prog g66mu g66T big (areg Try.prog g66mu g66T) 66 args st) st)
theorem sim66 : Sim Try.prog 66 s66 := (afn_sim g66t (fun m => areg_sound g66t hmix m) 66 (by kernel_rfl)).fg.sealed
noncomputable def g66C (p : List Nat) : Code := sub (match Try.f66.body with | some c => c | none => .skip) p
noncomputable def g66X (c : Code) (K : Kon) : Env → St → Res := aexec Try.prog g66mu g66T big 95 (areg Try.prog g66mu g66T 95) c K
noncomputable def g66kr : Kon := aresK Try.prog Try.f66.results.toList
theorem g66reg {c : Code} {K : Kon} {G : Env → St → Res} {id : Nat} {ops : Array Oper} {l1 l2 : List Nat} (hc : c = .region id ops false) (hl : List.range ops.size = l1 ++ l2) (h : (fun env st => aops Try.prog g66mu g66T 95 ops l2 env st (K .normal)) = G) : g66X c K = fun env st => aops Try.prog g66mu g66T 95 ops l1 env st G := reg_cut hc hl h
theorem g66seq {c x y : Code} {K : Kon} {G : Env → St → Res} (hc : c = .seq x y) (hy : g66X y K = G) : g66X c K = g66X x (kSeq G K) := seq_cut hc hy
theorem g66blk {c x : Code} {K : Kon} {i : Nat} (hc : c = .block i x) : g66X c K = g66X x (kBlk i K) := blk_cut hc
theorem g66loop {c x : Code} {K : Kon} (hc : c = .loop x) : g66X c K = aloop (g66X x) K big := loop_cut hc
theorem g66cond {c x y : Code} {K : Kon} {v : Operand} {F G : Env → St → Res} (hc : c = .cond v x y) (hx : g66X x K = F) (hy : g66X y K = G) : g66X c K = condF v F G := cond_cut hc hx hy
noncomputable def g66k0 : Kon := kSeq (g66X (g66C [1, 1, 1, 1, 1]) (g66kr)) (g66kr)
noncomputable def g66k1 : Kon := kBlk 2 (g66k0)
noncomputable def g66k2 (L1111010 : V → V → V → St → Res) : Kon := kSeq (fun env st => L1111010 (env 1) (env 4) (env 5) st) (g66k1)
noncomputable def g66k3 (L1111010 : V → V → V → St → Res) : Kon := kSeq (g66X (g66C [1, 1, 1, 1, 0, 1, 0, 0, 1, 1]) (g66k2 L1111010)) (g66k2 L1111010)
noncomputable def g66k4 (L1111010 : V → V → V → St → Res) : Kon := kBlk 3 (g66k3 L1111010)
noncomputable def g66k5 (L1111010 : V → V → V → St → Res) : Kon := kSeq (g66X (g66C [1, 1, 1, 1, 0, 1, 0, 0, 1, 0, 0, 1]) (g66k4 L1111010)) (g66k4 L1111010)
noncomputable def g66k6 (L1111010 : V → V → V → St → Res) : Kon := kSeq (g66X (g66C [1, 1, 1, 1, 0, 1, 0, 0, 1, 0, 0, 0, 1]) (g66k5 L1111010)) (g66k5 L1111010)
noncomputable def g66b1111010010000_10 (L1111010 : V → V → V → St → Res) (x1 : V) (x4 : V) (x5 : V) (x78 : V) (st : St) : Res :=
 A.guard x78 false
 (A.faddr 3 x1 fun a1 =>
 A.load false 1 a1 st fun a2 z3 =>
 A.iaddr 1 a2 x5 fun a4 =>
 A.load false 1 a4 z3 fun a5 z6 =>
 A.ret (s74 [a5.er1] z6) fun a7 z8 =>
 A.un .not a7 fun a9 =>
 A.cond a9
 (some (.ret ((.bool false) : V).er1, z8))
 (A.faddr 3 x1 fun a10 =>
 A.load false 1 a10 z8 fun a11 z12 =>
 A.iaddr 1 a11 x5 fun a13 =>
 A.load false 1 a13 z12 fun a14 z15 =>
 A.lenL a14 fun a16 =>
 A.bin .add x4 a16 fun a17 =>
 A.bin .add x5 (.int .i64 1) fun a18 =>
 L1111010 x1 a17 a18 z15))
 (some (.ret ((.bool false) : V).er1, st))
theorem g66e1111010010000_10 (L1111010 : V → V → V → St → Res) : (fun env st => aops Try.prog g66mu g66T 95 (rops (g66C [1, 1, 1, 1, 0, 1, 0, 0, 1, 0, 0, 0, 0])) [10, 11, 12, 13, 14, 15, 16, 17] env st ((g66k6 L1111010) .normal)) = fun env st => g66b1111010010000_10 L1111010 (env 1) (env 4) (env 5) (env 78) st := by
  refine Eq.trans (Eq.refl _) ?_
  funext env st
  kernel_rfl
noncomputable def g66b1111010 : Nat → V → V → V → St → Res
| 0, _, _, _, _ => none
| n + 1, x1, x4, x5, st =>
 A.faddr 3 x1 fun a1 =>
 A.load false 1 a1 st fun a2 z3 =>
 A.lenL a2 fun a4 =>
 A.bin .lss x5 a4 fun a5 =>
 A.cond a5
 (A.faddr 3 x1 fun a6 =>
 A.load false 1 a6 z3 fun a7 z8 =>
 A.iaddr 1 a7 x5 fun a9 =>
 A.load false 1 a9 z8 fun a10 z11 =>
 A.lenL a10 fun a12 =>
 A.bin .sub (.int .i64 4096) x4 fun a13 =>
 A.bin .gtr a12 a13 fun a14 =>
 g66b1111010010000_10 (g66b1111010 n) x1 x4 x5 a14 z11)
 (some (.ret ((.bool true) : V).er1, z3))
theorem g66n1111010 : g66C [1, 1, 1, 1, 0, 1, 0] = .loop (g66C [1, 1, 1, 1, 0, 1, 0, 0]) := by kernel_rfl
theorem g66n11110100 : g66C [1, 1, 1, 1, 0, 1, 0, 0] = .seq (g66C [1, 1, 1, 1, 0, 1, 0, 0, 0]) (g66C [1, 1, 1, 1, 0, 1, 0, 0, 1]) := by kernel_rfl
theorem g66n111101001 : g66C [1, 1, 1, 1, 0, 1, 0, 0, 1] = .seq (g66C [1, 1, 1, 1, 0, 1, 0, 0, 1, 0]) (g66C [1, 1, 1, 1, 0, 1, 0, 0, 1, 1]) := by kernel_rfl
theorem g66n1111010010 : g66C [1, 1, 1, 1, 0, 1, 0, 0, 1, 0] = .block 3 (g66C [1, 1, 1, 1, 0, 1, 0, 0, 1, 0, 0]) := by kernel_rfl
theorem g66n11110100100 : g66C [1, 1, 1, 1, 0, 1, 0, 0, 1, 0, 0] = .seq (g66C [1, 1, 1, 1, 0, 1, 0, 0, 1, 0, 0, 0]) (g66C [1, 1, 1, 1, 0, 1, 0, 0, 1, 0, 0, 1]) := by kernel_rfl
theorem g66n111101001000 : g66C [1, 1, 1, 1, 0, 1, 0, 0, 1, 0, 0, 0] = .seq (g66C [1, 1, 1, 1, 0, 1, 0, 0, 1, 0, 0, 0, 0]) (g66C [1, 1, 1, 1, 0, 1, 0, 0, 1, 0, 0, 0, 1]) := by kernel_rfl
theorem g66rg1111010010000 : g66C [1, 1, 1, 1, 0, 1, 0, 0, 1, 0, 0, 0, 0] = .region 12 (rops (g66C [1, 1, 1, 1, 0, 1, 0, 0, 1, 0, 0, 0, 0])) false := by kernel_rfl
theorem g66rg1111010010000l : List.range (rops (g66C [1, 1, 1, 1, 0, 1, 0, 0, 1, 0, 0, 0, 0])).size = [0, 1, 2, 3, 4, 5, 6, 7, 8, 9] ++ [10, 11, 12, 13, 14, 15, 16, 17] := by kernel_rfl
theorem g66e1111010 : g66X (g66C [1, 1, 1, 1, 0, 1, 0]) (g66k1) = fun env st => g66b1111010 big (env 1) (env 4) (env 5) st := by
  have key : ∀ n, aloop (g66X (g66C [1, 1, 1, 1, 0, 1, 0, 0])) (g66k1) n = fun env st => g66b1111010 n (env 1) (env 4) (env 5) st := by
    intro n
    induction n with
    | zero => rfl
    | succ n ih =>
      have h : aloop (g66X (g66C [1, 1, 1, 1, 0, 1, 0, 0])) (g66k1) (n + 1) = g66X (g66C [1, 1, 1, 1, 0, 1, 0, 0]) (kSeq (aloop (g66X (g66C [1, 1, 1, 1, 0, 1, 0, 0])) (g66k1) n) (g66k1)) := rfl
      rw [h, ih]
      refine Eq.trans (g66seq g66n11110100 ((g66seq g66n111101001 rfl).trans ((g66blk g66n1111010010).trans ((g66seq g66n11110100100 rfl).trans ((g66seq g66n111101001000 rfl).trans (g66reg g66rg1111010010000 g66rg1111010010000l (g66e1111010010000_10 (g66b1111010 n)))))))) ?_
      funext env st
      kernel_rfl
  exact (g66loop g66n1111010).trans (key big)
noncomputable def g66b111 (x1 : V) (st : St) : Res :=
 A.faddr 2 x1 fun a1 =>
 A.load false 1 a1 st fun a2 z3 =>
 A.lenL a2 fun a4 =>
 g66b1111010 big x1 a4 (.int .i64 0) z3
theorem g66n111 : g66C [1, 1, 1] = .seq (g66C [1, 1, 1, 0]) (g66C [1, 1, 1, 1]) := by kernel_rfl
theorem g66n1111 : g66C [1, 1, 1, 1] = .seq (g66C [1, 1, 1, 1, 0]) (g66C [1, 1, 1, 1, 1]) := by kernel_rfl
theorem g66n11110 : g66C [1, 1, 1, 1, 0] = .seq (g66C [1, 1, 1, 1, 0, 0]) (g66C [1, 1, 1, 1, 0, 1]) := by kernel_rfl
theorem g66n111101 : g66C [1, 1, 1, 1, 0, 1] = .block 2 (g66C [1, 1, 1, 1, 0, 1, 0]) := by kernel_rfl
theorem g66e111 : g66X (g66C [1, 1, 1]) (g66kr) = fun env st => g66b111 (env 1) st := by
  refine Eq.trans (g66seq g66n111 ((g66seq g66n1111 rfl).trans (g66seq g66n11110 ((g66blk g66n111101).trans (g66e1111010))))) ?_
  funext env st
  kernel_rfl
noncomputable def g66k7 : Kon := kSeq (fun env st => g66b111 (env 1) st) (g66kr)
noncomputable def g66k8 : Kon := kBlk 0 (g66k7)
noncomputable def g66b11010 : Nat → V → V → St → Res
| 0, _, _, _ => none
| n + 1, x1, x3, st =>
 A.faddr 1 x1 fun a1 =>
 A.load false 1 a1 st fun a2 z3 =>
 A.lenL a2 fun a4 =>
 A.bin .lss x3 a4 fun a5 =>
 A.cond a5
 (A.faddr 1 x1 fun a6 =>
 A.load false 1 a6 z3 fun a7 z8 =>
 A.iaddr 1 a7 x3 fun a9 =>
 A.load false 1 a9 z8 fun a10 z11 =>
 A.bin .lss a10 (.int .i64 0) fun a12 =>
 A.guard a12 false
 (A.faddr 1 x1 fun a13 =>
 A.load false 1 a13 z11 fun a14 z15 =>
 A.iaddr 1 a14 x3 fun a16 =>
 A.load false 1 a16 z15 fun a17 z18 =>
 A.bin .gtr a17 (.int .i64 4611686018427387903) fun a19 =>
 A.cond a19
 (some (.ret ((.bool false) : V).er1, z18))
 (A.bin .add x3 (.int .i64 1) fun a20 =>
 (g66b11010 n) x1 a20 z18))
 (some (.ret ((.bool false) : V).er1, z11)))
 (g66b111 x1 z3)
theorem g66n11010 : g66C [1, 1, 0, 1, 0] = .loop (g66C [1, 1, 0, 1, 0, 0]) := by kernel_rfl
noncomputable def g66k9 (L11010 : V → V → St → Res) : Kon := kSeq (fun env st => L11010 (env 1) (env 3) st) (g66k8)
theorem g66e11010 : g66X (g66C [1, 1, 0, 1, 0]) (g66k8) = fun env st => g66b11010 big (env 1) (env 3) st := by
  have key : ∀ n, aloop (g66X (g66C [1, 1, 0, 1, 0, 0])) (g66k8) n = fun env st => g66b11010 n (env 1) (env 3) st := by
    intro n
    induction n with
    | zero => rfl
    | succ n ih =>
      have h : aloop (g66X (g66C [1, 1, 0, 1, 0, 0])) (g66k8) (n + 1) = g66X (g66C [1, 1, 0, 1, 0, 0]) (kSeq (aloop (g66X (g66C [1, 1, 0, 1, 0, 0])) (g66k8) n) (g66k8)) := rfl
      rw [h, ih]
      refine Eq.trans (Eq.refl _) ?_
      funext env st
      kernel_rfl
  exact (g66loop g66n11010).trans (key big)
noncomputable def g66b11 (x1 : V) (st : St) : Res :=
 g66b11010 big x1 (.int .i64 0) st
theorem g66n11 : g66C [1, 1] = .seq (g66C [1, 1, 0]) (g66C [1, 1, 1]) := by kernel_rfl
theorem g66n110 : g66C [1, 1, 0] = .seq (g66C [1, 1, 0, 0]) (g66C [1, 1, 0, 1]) := by kernel_rfl
theorem g66n1101 : g66C [1, 1, 0, 1] = .block 0 (g66C [1, 1, 0, 1, 0]) := by kernel_rfl
theorem g66e11 : g66X (g66C [1, 1]) (g66kr) = fun env st => g66b11 (env 1) st := by
  refine Eq.trans ((g66seq g66n11 (g66e111)).trans (g66seq g66n110 ((g66blk g66n1101).trans (g66e11010)))) ?_
  funext env st
  kernel_rfl
noncomputable def g66k10 : Kon := kSeq (fun env st => g66b11 (env 1) st) (g66kr)
noncomputable def g66k11 : Kon := kSeq (g66X (g66C [1, 0, 1]) (g66k10)) (g66k10)
noncomputable def g66b100_27 (x1 : V) (x32 : V) (st : St) : Res :=
 A.guard x32 false
 (A.faddr 2 x1 fun a1 =>
 A.load false 1 a1 st fun a2 z3 =>
 A.ret (s74 [a2.er1] z3) fun a4 z5 =>
 A.un .not a4 fun a6 =>
 A.cond a6
 (some (.ret ((.bool false) : V).er1, z5))
 (g66b11 x1 z5))
 (some (.ret ((.bool false) : V).er1, st))
theorem g66e100_27 : (fun env st => aops Try.prog g66mu g66T 95 (rops (g66C [1, 0, 0])) [27, 28, 29, 30, 31] env st ((g66k11) .normal)) = fun env st => g66b100_27 (env 1) (env 32) st := by
  refine Eq.trans (Eq.refl _) ?_
  funext env st
  kernel_rfl
noncomputable def g66b100_21 (x1 : V) (x26 : V) (st : St) : Res :=
 A.guard x26 false
 (A.faddr 3 x1 fun a1 =>
 A.load false 1 a1 st fun a2 z3 =>
 A.lenL a2 fun a4 =>
 A.bin .gtr a4 (.int .i64 4096) fun a5 =>
 g66b100_27 x1 a5 z3)
 (g66b100_27 x1 (.bool true) st)
theorem g66e100_21 : (fun env st => aops Try.prog g66mu g66T 95 (rops (g66C [1, 0, 0])) [21, 22, 23, 24, 25, 26, 27, 28, 29, 30, 31] env st ((g66k11) .normal)) = fun env st => g66b100_21 (env 1) (env 26) st := by
  refine Eq.trans (ops_cut (l1 := [21, 22, 23, 24, 25, 26]) (l2 := [27, 28, 29, 30, 31]) (g66e100_27)) ?_
  funext env st
  kernel_rfl
noncomputable def g66b100_15 (x1 : V) (x20 : V) (st : St) : Res :=
 A.guard x20 false
 (A.faddr 2 x1 fun a1 =>
 A.load false 1 a1 st fun a2 z3 =>
 A.lenL a2 fun a4 =>
 A.bin .gtr a4 (.int .i64 4096) fun a5 =>
 g66b100_21 x1 a5 z3)
 (g66b100_21 x1 (.bool true) st)
theorem g66e100_15 : (fun env st => aops Try.prog g66mu g66T 95 (rops (g66C [1, 0, 0])) [15, 16, 17, 18, 19, 20, 21, 22, 23, 24, 25, 26, 27, 28, 29, 30, 31] env st ((g66k11) .normal)) = fun env st => g66b100_15 (env 1) (env 20) st := by
  refine Eq.trans (ops_cut (l1 := [15, 16, 17, 18, 19, 20]) (l2 := [21, 22, 23, 24, 25, 26, 27, 28, 29, 30, 31]) (g66e100_21)) ?_
  funext env st
  kernel_rfl
noncomputable def g66b100_9 (x1 : V) (x14 : V) (st : St) : Res :=
 A.guard x14 false
 (A.faddr 1 x1 fun a1 =>
 A.load false 1 a1 st fun a2 z3 =>
 A.lenL a2 fun a4 =>
 A.bin .gtr a4 (.int .i64 64) fun a5 =>
 g66b100_15 x1 a5 z3)
 (g66b100_15 x1 (.bool true) st)
theorem g66e100_9 : (fun env st => aops Try.prog g66mu g66T 95 (rops (g66C [1, 0, 0])) [9, 10, 11, 12, 13, 14, 15, 16, 17, 18, 19, 20, 21, 22, 23, 24, 25, 26, 27, 28, 29, 30, 31] env st ((g66k11) .normal)) = fun env st => g66b100_9 (env 1) (env 14) st := by
  refine Eq.trans (ops_cut (l1 := [9, 10, 11, 12, 13, 14]) (l2 := [15, 16, 17, 18, 19, 20, 21, 22, 23, 24, 25, 26, 27, 28, 29, 30, 31]) (g66e100_15)) ?_
  funext env st
  kernel_rfl
noncomputable def f66 (x0 : V) (st : St) : Res :=
 A.box x0 st fun a1 z2 =>
 A.faddr 0 a1 fun a3 =>
 A.load false 1 a3 z2 fun a4 z5 =>
 A.bin .lss a4 (.int .i64 1) fun a6 =>
 A.guard a6 false
 (A.faddr 0 a1 fun a7 =>
 A.load false 1 a7 z5 fun a8 z9 =>
 A.bin .gtr a8 (.int .i64 255) fun a10 =>
 g66b100_9 a1 a10 z9)
 (g66b100_9 a1 (.bool true) z5)
theorem g66nr : g66C [] = .seq (g66C [0]) (g66C [1]) := by kernel_rfl
theorem g66n1 : g66C [1] = .seq (g66C [1, 0]) (g66C [1, 1]) := by kernel_rfl
theorem g66n10 : g66C [1, 0] = .seq (g66C [1, 0, 0]) (g66C [1, 0, 1]) := by kernel_rfl
theorem g66rg100 : g66C [1, 0, 0] = .region 1 (rops (g66C [1, 0, 0])) false := by kernel_rfl
theorem g66rg100l : List.range (rops (g66C [1, 0, 0])).size = [0, 1, 2, 3, 4, 5, 6, 7, 8] ++ [9, 10, 11, 12, 13, 14, 15, 16, 17, 18, 19, 20, 21, 22, 23, 24, 25, 26, 27, 28, 29, 30, 31] := by kernel_rfl
theorem g66er (env : Env) (st : St) : g66X (g66C []) g66kr env st = f66 (env 0) st := by
  rw [(g66seq g66nr ((g66seq g66n1 (g66e11)).trans ((g66seq g66n10 rfl).trans (g66reg g66rg100 g66rg100l (g66e100_9)))))]
  kernel_rfl
theorem s66_eq (x0 : V) (st : St) : s66 [x0] st = fg (f66 x0 st) st := by
  have h : afn Try.prog g66mu g66T big (areg Try.prog g66mu g66T) 66 [x0] st = g66X (g66C []) g66kr (fun t => [x0].getD t (.tup [])) st := by kernel_rfl
  rw [s66, sealF_eq]
  show fg _ st = fg _ st
  refine congrArg (fun r => fg r st) ?_
  exact h.trans (g66er _ st)
/-! sinew/sinewref03.size -/
def g67mu : Nat → Bool := fun _ => false
noncomputable def g67T : Tbl := tget []
theorem g67t : SimT Try.prog g67T := simT_nil
noncomputable def s67 : Fn := sealF (afn Try.prog g67mu g67T big (areg Try.prog g67mu g67T) 67)
theorem sim67 : Sim Try.prog 67 s67 := (afn_sim g67t (fun m => areg_sound g67t hmix m) 67 (by kernel_rfl)).sealed
noncomputable def g67C (p : List Nat) : Code := sub (match Try.f67.body with | some c => c | none => .skip) p
noncomputable def g67X (c : Code) (K : Kon) : Env → St → Res := aexec Try.prog g67mu g67T big 19 (areg Try.prog g67mu g67T 19) c K
noncomputable def g67kr : Kon := aresK Try.prog Try.f67.results.toList
theorem g67reg {c : Code} {K : Kon} {G : Env → St → Res} {id : Nat} {ops : Array Oper} {l1 l2 : List Nat} (hc : c = .region id ops false) (hl : List.range ops.size = l1 ++ l2) (h : (fun env st => aops Try.prog g67mu g67T 19 ops l2 env st (K .normal)) = G) : g67X c K = fun env st => aops Try.prog g67mu g67T 19 ops l1 env st G := reg_cut hc hl h
theorem g67seq {c x y : Code} {K : Kon} {G : Env → St → Res} (hc : c = .seq x y) (hy : g67X y K = G) : g67X c K = g67X x (kSeq G K) := seq_cut hc hy
theorem g67blk {c x : Code} {K : Kon} {i : Nat} (hc : c = .block i x) : g67X c K = g67X x (kBlk i K) := blk_cut hc
theorem g67loop {c x : Code} {K : Kon} (hc : c = .loop x) : g67X c K = aloop (g67X x) K big := loop_cut hc
theorem g67cond {c x y : Code} {K : Kon} {v : Operand} {F G : Env → St → Res} (hc : c = .cond v x y) (hx : g67X x K = F) (hy : g67X y K = G) : g67X c K = condF v F G := cond_cut hc hx hy
noncomputable def g67k0 : Kon := kSeq (g67X (g67C [1, 1, 1]) (g67kr)) (g67kr)
noncomputable def g67k1 : Kon := kBlk 0 (g67k0)
noncomputable def g67b11010 : Nat → V → V → V → St → Res
| 0, _, _, _, _ => none
| n + 1, x0, x3, x4, st =>
 A.lenL x0 fun a1 =>
 A.bin .lss x4 a1 fun a2 =>
 A.cond a2
 (A.iaddr 1 x0 x4 fun a3 =>
 A.load false 1 a3 st fun a4 z5 =>
 A.lenS a4 fun a6 =>
 A.bin .add x3 a6 fun a7 =>
 A.bin .add x4 (.int .i64 1) fun a8 =>
 (g67b11010 n) x0 a7 a8 z5)
 (some (.ret x3.er1, st))
theorem g67n11010 : g67C [1, 1, 0, 1, 0] = .loop (g67C [1, 1, 0, 1, 0, 0]) := by kernel_rfl
noncomputable def g67k2 (L11010 : V → V → V → St → Res) : Kon := kSeq (fun env st => L11010 (env 0) (env 3) (env 4) st) (g67k1)
theorem g67e11010 : g67X (g67C [1, 1, 0, 1, 0]) (g67k1) = fun env st => g67b11010 big (env 0) (env 3) (env 4) st := by
  have key : ∀ n, aloop (g67X (g67C [1, 1, 0, 1, 0, 0])) (g67k1) n = fun env st => g67b11010 n (env 0) (env 3) (env 4) st := by
    intro n
    induction n with
    | zero => rfl
    | succ n ih =>
      have h : aloop (g67X (g67C [1, 1, 0, 1, 0, 0])) (g67k1) (n + 1) = g67X (g67C [1, 1, 0, 1, 0, 0]) (kSeq (aloop (g67X (g67C [1, 1, 0, 1, 0, 0])) (g67k1) n) (g67k1)) := rfl
      rw [h, ih]
      refine Eq.trans (Eq.refl _) ?_
      funext env st
      kernel_rfl
  exact (g67loop g67n11010).trans (key big)
noncomputable def f67 (x0 : V) (st : St) : Res :=
 g67b11010 big x0 (.int .i64 0) (.int .i64 0) st
theorem g67nr : g67C [] = .seq (g67C [0]) (g67C [1]) := by kernel_rfl
theorem g67n1 : g67C [1] = .seq (g67C [1, 0]) (g67C [1, 1]) := by kernel_rfl
theorem g67n11 : g67C [1, 1] = .seq (g67C [1, 1, 0]) (g67C [1, 1, 1]) := by kernel_rfl
theorem g67n110 : g67C [1, 1, 0] = .seq (g67C [1, 1, 0, 0]) (g67C [1, 1, 0, 1]) := by kernel_rfl
theorem g67n1101 : g67C [1, 1, 0, 1] = .block 0 (g67C [1, 1, 0, 1, 0]) := by kernel_rfl
theorem g67er (env : Env) (st : St) : g67X (g67C []) g67kr env st = f67 (env 0) st := by
  rw [(g67seq g67nr (g67seq g67n1 ((g67seq g67n11 rfl).trans (g67seq g67n110 ((g67blk g67n1101).trans (g67e11010))))))]
  kernel_rfl
theorem s67_eq (x0 : V) (st : St) : s67 [x0] st = f67 x0 st := by
  have h : afn Try.prog g67mu g67T big (areg Try.prog g67mu g67T) 67 [x0] st = g67X (g67C []) g67kr (fun t => [x0].getD t (.tup [])) st := by kernel_rfl
  rw [s67, sealF_eq]
  exact h.trans (g67er _ st)
/-! sinew/sinewref01.PutNum -/
def g68mu : Nat → Bool := fun _ => false
noncomputable def g68T : Tbl := tget []
theorem g68t : SimT Try.prog g68T := simT_nil
noncomputable def s68 : Fn := sealF (fun args st => fg (afn Try.prog g68mu g68T big (areg Try.prog g68mu g68T) 68 args st) st)
theorem sim68 : Sim Try.prog 68 s68 := (afn_sim g68t (fun m => areg_sound g68t hmix m) 68 (by kernel_rfl)).fg.sealed
noncomputable def g68C (p : List Nat) : Code := sub (match Try.f68.body with | some c => c | none => .skip) p
noncomputable def g68X (c : Code) (K : Kon) : Env → St → Res := aexec Try.prog g68mu g68T big 41 (areg Try.prog g68mu g68T 41) c K
noncomputable def g68kr : Kon := aresK Try.prog Try.f68.results.toList
theorem g68reg {c : Code} {K : Kon} {G : Env → St → Res} {id : Nat} {ops : Array Oper} {l1 l2 : List Nat} (hc : c = .region id ops false) (hl : List.range ops.size = l1 ++ l2) (h : (fun env st => aops Try.prog g68mu g68T 41 ops l2 env st (K .normal)) = G) : g68X c K = fun env st => aops Try.prog g68mu g68T 41 ops l1 env st G := reg_cut hc hl h
theorem g68seq {c x y : Code} {K : Kon} {G : Env → St → Res} (hc : c = .seq x y) (hy : g68X y K = G) : g68X c K = g68X x (kSeq G K) := seq_cut hc hy
theorem g68blk {c x : Code} {K : Kon} {i : Nat} (hc : c = .block i x) : g68X c K = g68X x (kBlk i K) := blk_cut hc
theorem g68loop {c x : Code} {K : Kon} (hc : c = .loop x) : g68X c K = aloop (g68X x) K big := loop_cut hc
theorem g68cond {c x y : Code} {K : Kon} {v : Operand} {F G : Env → St → Res} (hc : c = .cond v x y) (hx : g68X x K = F) (hy : g68X y K = G) : g68X c K = condF v F G := cond_cut hc hx hy
noncomputable def g68k0 : Kon := kSeq (g68X (g68C [1, 1, 1, 1, 1, 1, 1]) (g68kr)) (g68kr)
noncomputable def g68k1 : Kon := kBlk 2 (g68k0)
noncomputable def g68b111111010 : Nat → V → V → V → St → Res
| 0, _, _, _, _ => none
| n + 1, x4, x5, x6, st =>
 A.bin .geq x6 (.int .i64 0) fun a1 =>
 A.cond a1
 (A.iaddr 1 x4 x6 fun a2 =>
 A.load false 1 a2 st fun a3 z4 =>
 A.bslice 1 (.int .u8 0) 1 [(0, a3)] fun a5 =>
 A.appB 1 x5 (elemsOf 5 1 a5 z4) z4 fun a6 z7 =>
 A.bin .sub x6 (.int .i64 1) fun a8 =>
 (g68b111111010 n) x4 a6 a8 z7)
 (A.toStr x5 st fun a9 =>
 some (.ret (.tup [a9.er1, ((.int .i64 0) : V).er1]), st))
theorem g68n111111010 : g68C [1, 1, 1, 1, 1, 1, 0, 1, 0] = .loop (g68C [1, 1, 1, 1, 1, 1, 0, 1, 0, 0]) := by kernel_rfl
noncomputable def g68k2 (L111111010 : V → V → V → St → Res) : Kon := kSeq (fun env st => L111111010 (env 4) (env 5) (env 6) st) (g68k1)
theorem g68e111111010 : g68X (g68C [1, 1, 1, 1, 1, 1, 0, 1, 0]) (g68k1) = fun env st => g68b111111010 big (env 4) (env 5) (env 6) st := by
  have key : ∀ n, aloop (g68X (g68C [1, 1, 1, 1, 1, 1, 0, 1, 0, 0])) (g68k1) n = fun env st => g68b111111010 n (env 4) (env 5) (env 6) st := by
    intro n
    induction n with
    | zero => rfl
    | succ n ih =>
      have h : aloop (g68X (g68C [1, 1, 1, 1, 1, 1, 0, 1, 0, 0])) (g68k1) (n + 1) = g68X (g68C [1, 1, 1, 1, 1, 1, 0, 1, 0, 0]) (kSeq (aloop (g68X (g68C [1, 1, 1, 1, 1, 1, 0, 1, 0, 0])) (g68k1) n) (g68k1)) := rfl
      rw [h, ih]
      refine Eq.trans (Eq.refl _) ?_
      funext env st
      kernel_rfl
  exact (g68loop g68n111111010).trans (key big)
noncomputable def g68b11111101 (x4 : V) (x5 : V) (x6 : V) (st : St) : Res :=
 g68b111111010 big x4 x5 x6 st
theorem g68n11111101 : g68C [1, 1, 1, 1, 1, 1, 0, 1] = .block 2 (g68C [1, 1, 1, 1, 1, 1, 0, 1, 0]) := by kernel_rfl
theorem g68e11111101 : g68X (g68C [1, 1, 1, 1, 1, 1, 0, 1]) (g68k0) = fun env st => g68b11111101 (env 4) (env 5) (env 6) st := by
  refine Eq.trans ((g68blk g68n11111101).trans (g68e111111010)) ?_
  funext env st
  kernel_rfl
noncomputable def g68b1111 (x4 : V) (st : St) : Res :=
 A.lenL x4 fun a1 =>
 A.toInt .u8 a1 fun a2 =>
 A.bslice 1 (.int .u8 0) 1 [(0, a2)] fun a3 =>
 A.appB 1 (.lst [] 1) (elemsOf 5 1 a3 st) st fun a4 z5 =>
 A.lenL x4 fun a6 =>
 A.bin .sub a6 (.int .i64 1) fun a7 =>
 g68b11111101 x4 a4 a7 z5
theorem g68n1111 : g68C [1, 1, 1, 1] = .seq (g68C [1, 1, 1, 1, 0]) (g68C [1, 1, 1, 1, 1]) := by kernel_rfl
theorem g68n11111 : g68C [1, 1, 1, 1, 1] = .seq (g68C [1, 1, 1, 1, 1, 0]) (g68C [1, 1, 1, 1, 1, 1]) := by kernel_rfl
theorem g68n111111 : g68C [1, 1, 1, 1, 1, 1] = .seq (g68C [1, 1, 1, 1, 1, 1, 0]) (g68C [1, 1, 1, 1, 1, 1, 1]) := by kernel_rfl
theorem g68n1111110 : g68C [1, 1, 1, 1, 1, 1, 0] = .seq (g68C [1, 1, 1, 1, 1, 1, 0, 0]) (g68C [1, 1, 1, 1, 1, 1, 0, 1]) := by kernel_rfl
theorem g68e1111 : g68X (g68C [1, 1, 1, 1]) (g68kr) = fun env st => g68b1111 (env 4) st := by
  refine Eq.trans (g68seq g68n1111 (g68seq g68n11111 ((g68seq g68n111111 rfl).trans (g68seq g68n1111110 (g68e11111101))))) ?_
  funext env st
  kernel_rfl
noncomputable def g68k3 : Kon := kSeq (fun env st => g68b1111 (env 4) st) (g68kr)
noncomputable def g68k4 : Kon := kBlk 0 (g68k3)
noncomputable def g68b11100 : Nat → V → V → St → Res
| 0, _, _, _ => none
| n + 1, x0, x4, st =>
 A.bin .gtr x0 (.int .i64 0) fun a1 =>
 A.cond a1
 (A.bin .rem x0 (.int .i64 256) fun a2 =>
 A.toInt .u8 a2 fun a3 =>
 A.bslice 1 (.int .u8 0) 1 [(0, a3)] fun a4 =>
 A.appB 1 x4 (elemsOf 5 1 a4 st) st fun a5 z6 =>
 A.bin .quo x0 (.int .i64 256) fun a7 =>
 (g68b11100 n) a7 a5 z6)
 (g68b1111 x4 st)
theorem g68n11100 : g68C [1, 1, 1, 0, 0] = .loop (g68C [1, 1, 1, 0, 0, 0]) := by kernel_rfl
noncomputable def g68k5 (L11100 : V → V → St → Res) : Kon := kSeq (fun env st => L11100 (env 0) (env 4) st) (g68k4)
theorem g68e11100 : g68X (g68C [1, 1, 1, 0, 0]) (g68k4) = fun env st => g68b11100 big (env 0) (env 4) st := by
  have key : ∀ n, aloop (g68X (g68C [1, 1, 1, 0, 0, 0])) (g68k4) n = fun env st => g68b11100 n (env 0) (env 4) st := by
    intro n
    induction n with
    | zero => rfl
    | succ n ih =>
      have h : aloop (g68X (g68C [1, 1, 1, 0, 0, 0])) (g68k4) (n + 1) = g68X (g68C [1, 1, 1, 0, 0, 0]) (kSeq (aloop (g68X (g68C [1, 1, 1, 0, 0, 0])) (g68k4) n) (g68k4)) := rfl
      rw [h, ih]
      refine Eq.trans (Eq.refl _) ?_
      funext env st
      kernel_rfl
  exact (g68loop g68n11100).trans (key big)
noncomputable def f68 (x0 : V) (st : St) : Res :=
 A.bin .lss x0 (.int .i64 0) fun a1 =>
 A.cond a1
 (some (.ret (.tup [((.str []) : V).er1, ((.int .i64 1) : V).er1]), st))
 (g68b11100 big x0 (.lst [] 1) st)
theorem g68nr : g68C [] = .seq (g68C [0]) (g68C [1]) := by kernel_rfl
theorem g68n1 : g68C [1] = .seq (g68C [1, 0]) (g68C [1, 1]) := by kernel_rfl
theorem g68n11 : g68C [1, 1] = .seq (g68C [1, 1, 0]) (g68C [1, 1, 1]) := by kernel_rfl
theorem g68n111 : g68C [1, 1, 1] = .seq (g68C [1, 1, 1, 0]) (g68C [1, 1, 1, 1]) := by kernel_rfl
theorem g68n1110 : g68C [1, 1, 1, 0] = .block 0 (g68C [1, 1, 1, 0, 0]) := by kernel_rfl
theorem g68er (env : Env) (st : St) : g68X (g68C []) g68kr env st = f68 (env 0) st := by
  rw [(g68seq g68nr (g68seq g68n1 (g68seq g68n11 ((g68seq g68n111 (g68e1111)).trans ((g68blk g68n1110).trans (g68e11100))))))]
  kernel_rfl
theorem s68_eq (x0 : V) (st : St) : s68 [x0] st = fg (f68 x0 st) st := by
  have h : afn Try.prog g68mu g68T big (areg Try.prog g68mu g68T) 68 [x0] st = g68X (g68C []) g68kr (fun t => [x0].getD t (.tup [])) st := by kernel_rfl
  rw [s68, sealF_eq]
  show fg _ st = fg _ st
  refine congrArg (fun r => fg r st) ?_
  exact h.trans (g68er _ st)
/-! sinew/sinewref01.PutStr -/
def g75mu : Nat → Bool := fun _ => false
noncomputable def g75T : Tbl := tget [(68, s68)]
theorem g75t : SimT Try.prog g75T := simT_cons sim68 (simT_nil)
noncomputable def s75 : Fn := sealF (afn Try.prog g75mu g75T big (areg Try.prog g75mu g75T) 75)
theorem sim75 : Sim Try.prog 75 s75 := (afn_sim g75t (fun m => areg_sound g75t hmix m) 75 (by kernel_rfl)).sealed
noncomputable def g75C (p : List Nat) : Code := sub (match Try.f75.body with | some c => c | none => .skip) p
noncomputable def g75X (c : Code) (K : Kon) : Env → St → Res := aexec Try.prog g75mu g75T big 18 (areg Try.prog g75mu g75T 18) c K
noncomputable def g75kr : Kon := aresK Try.prog Try.f75.results.toList
theorem g75reg {c : Code} {K : Kon} {G : Env → St → Res} {id : Nat} {ops : Array Oper} {l1 l2 : List Nat} (hc : c = .region id ops false) (hl : List.range ops.size = l1 ++ l2) (h : (fun env st => aops Try.prog g75mu g75T 18 ops l2 env st (K .normal)) = G) : g75X c K = fun env st => aops Try.prog g75mu g75T 18 ops l1 env st G := reg_cut hc hl h
theorem g75seq {c x y : Code} {K : Kon} {G : Env → St → Res} (hc : c = .seq x y) (hy : g75X y K = G) : g75X c K = g75X x (kSeq G K) := seq_cut hc hy
theorem g75blk {c x : Code} {K : Kon} {i : Nat} (hc : c = .block i x) : g75X c K = g75X x (kBlk i K) := blk_cut hc
theorem g75loop {c x : Code} {K : Kon} (hc : c = .loop x) : g75X c K = aloop (g75X x) K big := loop_cut hc
theorem g75cond {c x y : Code} {K : Kon} {v : Operand} {F G : Env → St → Res} (hc : c = .cond v x y) (hx : g75X x K = F) (hy : g75X y K = G) : g75X c K = condF v F G := cond_cut hc hx hy
noncomputable def g75b111 (x0 : V) (x4 : V) (st : St) : Res :=
 A.bin .add x4 x0 fun a1 =>
 some (.ret (.tup [a1.er1, ((.int .i64 0) : V).er1]), st)
theorem g75e111 : g75X (g75C [1, 1, 1]) (g75kr) = fun env st => g75b111 (env 0) (env 4) st := by
  refine Eq.trans (Eq.refl (g75X (g75C [1, 1, 1]) (g75kr))) ?_
  funext env st
  kernel_rfl
noncomputable def f75 (x0 : V) (st : St) : Res :=
 A.lenS x0 fun a1 =>
 A.bin .gtr a1 (.int .i64 65536) fun a2 =>
 A.cond a2
 (some (.ret (.tup [((.str []) : V).er1, ((.int .i64 12) : V).er1]), st))
 (A.lenS x0 fun a3 =>
 A.ret (s68 [a3.er1] st) fun a4 z5 =>
 A.ext a4 0 fun a6 =>
 A.ext a4 1 fun a7 =>
 g75b111 x0 a6 z5)
theorem g75nr : g75C [] = .seq (g75C [0]) (g75C [1]) := by kernel_rfl
theorem g75n1 : g75C [1] = .seq (g75C [1, 0]) (g75C [1, 1]) := by kernel_rfl
theorem g75n11 : g75C [1, 1] = .seq (g75C [1, 1, 0]) (g75C [1, 1, 1]) := by kernel_rfl
theorem g75er (env : Env) (st : St) : g75X (g75C []) g75kr env st = f75 (env 0) st := by
  rw [(g75seq g75nr (g75seq g75n1 (g75seq g75n11 (g75e111))))]
  kernel_rfl
theorem s75_eq (x0 : V) (st : St) : s75 [x0] st = f75 x0 st := by
  have h : afn Try.prog g75mu g75T big (areg Try.prog g75mu g75T) 75 [x0] st = g75X (g75C []) g75kr (fun t => [x0].getD t (.tup [])) st := by kernel_rfl
  rw [s75, sealF_eq]
  exact h.trans (g75er _ st)
/-! sinew/sinewref01.PutList -/
def g69mu : Nat → Bool := fun _ => false
noncomputable def g69T : Tbl := tget [(68, s68), (75, s75)]
theorem g69t : SimT Try.prog g69T := simT_cons sim68 ( simT_cons sim75 (simT_nil))
noncomputable def s69 : Fn := sealF (fun args st => fg (afn Try.prog g69mu g69T big (areg Try.prog g69mu g69T) 69 args st) st)
theorem sim69 : Sim Try.prog 69 s69 := (afn_sim g69t (fun m => areg_sound g69t hmix m) 69 (by kernel_rfl)).fg.sealed
noncomputable def g69C (p : List Nat) : Code := sub (match Try.f69.body with | some c => c | none => .skip) p
noncomputable def g69X (c : Code) (K : Kon) : Env → St → Res := aexec Try.prog g69mu g69T big 43 (areg Try.prog g69mu g69T 43) c K
noncomputable def g69kr : Kon := aresK Try.prog Try.f69.results.toList
theorem g69reg {c : Code} {K : Kon} {G : Env → St → Res} {id : Nat} {ops : Array Oper} {l1 l2 : List Nat} (hc : c = .region id ops false) (hl : List.range ops.size = l1 ++ l2) (h : (fun env st => aops Try.prog g69mu g69T 43 ops l2 env st (K .normal)) = G) : g69X c K = fun env st => aops Try.prog g69mu g69T 43 ops l1 env st G := reg_cut hc hl h
theorem g69seq {c x y : Code} {K : Kon} {G : Env → St → Res} (hc : c = .seq x y) (hy : g69X y K = G) : g69X c K = g69X x (kSeq G K) := seq_cut hc hy
theorem g69blk {c x : Code} {K : Kon} {i : Nat} (hc : c = .block i x) : g69X c K = g69X x (kBlk i K) := blk_cut hc
theorem g69loop {c x : Code} {K : Kon} (hc : c = .loop x) : g69X c K = aloop (g69X x) K big := loop_cut hc
theorem g69cond {c x y : Code} {K : Kon} {v : Operand} {F G : Env → St → Res} (hc : c = .cond v x y) (hx : g69X x K = F) (hy : g69X y K = G) : g69X c K = condF v F G := cond_cut hc hx hy
noncomputable def g69k0 : Kon := kSeq (g69X (g69C [1, 1, 1, 1, 1]) (g69kr)) (g69kr)
noncomputable def g69k1 : Kon := kBlk 0 (g69k0)
noncomputable def g69k2 (L1111010 : V → V → V → St → Res) : Kon := kSeq (fun env st => L1111010 (env 0) (env 6) (env 7) st) (g69k1)
noncomputable def g69k3 (L1111010 : V → V → V → St → Res) : Kon := kSeq (g69X (g69C [1, 1, 1, 1, 0, 1, 0, 0, 1, 1]) (g69k2 L1111010)) (g69k2 L1111010)
noncomputable def g69k4 (L1111010 : V → V → V → St → Res) : Kon := kBlk 1 (g69k3 L1111010)
noncomputable def g69b111101001001 (L1111010 : V → V → V → St → Res) (x0 : V) (x6 : V) (x7 : V) (x8 : V) (x9 : V) (st : St) : Res :=
 A.eql 2 true x9 (.int .i64 0) fun a1 =>
 A.cond a1
 (some (.ret (.tup [((.str []) : V).er1, x9.er1]), st))
 (A.appB 1 x6 (elemsOf 3 1 x8 st) st fun a2 z3 =>
 A.bin .add x7 (.int .i64 1) fun a4 =>
 L1111010 x0 a2 a4 z3)
theorem g69e111101001001 (L1111010 : V → V → V → St → Res) : g69X (g69C [1, 1, 1, 1, 0, 1, 0, 0, 1, 0, 0, 1]) (g69k4 L1111010) = fun env st => g69b111101001001 L1111010 (env 0) (env 6) (env 7) (env 8) (env 9) st := by
  refine Eq.trans (Eq.refl (g69X (g69C [1, 1, 1, 1, 0, 1, 0, 0, 1, 0, 0, 1]) (g69k4 L1111010))) ?_
  funext env st
  kernel_rfl
noncomputable def g69b1111010 : Nat → V → V → V → St → Res
| 0, _, _, _, _ => none
| n + 1, x0, x6, x7, st =>
 A.lenL x0 fun a1 =>
 A.bin .lss x7 a1 fun a2 =>
 A.cond a2
 (A.iaddr 1 x0 x7 fun a3 =>
 A.load false 1 a3 st fun a4 z5 =>
 A.ret (s75 [a4.er1] z5) fun a6 z7 =>
 A.ext a6 0 fun a8 =>
 A.ext a6 1 fun a9 =>
 g69b111101001001 (g69b1111010 n) x0 x6 x7 a8 a9 z7)
 (A.toStr x6 st fun a10 =>
 some (.ret (.tup [a10.er1, ((.int .i64 0) : V).er1]), st))
theorem g69n1111010 : g69C [1, 1, 1, 1, 0, 1, 0] = .loop (g69C [1, 1, 1, 1, 0, 1, 0, 0]) := by kernel_rfl
theorem g69n11110100 : g69C [1, 1, 1, 1, 0, 1, 0, 0] = .seq (g69C [1, 1, 1, 1, 0, 1, 0, 0, 0]) (g69C [1, 1, 1, 1, 0, 1, 0, 0, 1]) := by kernel_rfl
theorem g69n111101001 : g69C [1, 1, 1, 1, 0, 1, 0, 0, 1] = .seq (g69C [1, 1, 1, 1, 0, 1, 0, 0, 1, 0]) (g69C [1, 1, 1, 1, 0, 1, 0, 0, 1, 1]) := by kernel_rfl
theorem g69n1111010010 : g69C [1, 1, 1, 1, 0, 1, 0, 0, 1, 0] = .block 1 (g69C [1, 1, 1, 1, 0, 1, 0, 0, 1, 0, 0]) := by kernel_rfl
theorem g69n11110100100 : g69C [1, 1, 1, 1, 0, 1, 0, 0, 1, 0, 0] = .seq (g69C [1, 1, 1, 1, 0, 1, 0, 0, 1, 0, 0, 0]) (g69C [1, 1, 1, 1, 0, 1, 0, 0, 1, 0, 0, 1]) := by kernel_rfl
theorem g69e1111010 : g69X (g69C [1, 1, 1, 1, 0, 1, 0]) (g69k1) = fun env st => g69b1111010 big (env 0) (env 6) (env 7) st := by
  have key : ∀ n, aloop (g69X (g69C [1, 1, 1, 1, 0, 1, 0, 0])) (g69k1) n = fun env st => g69b1111010 n (env 0) (env 6) (env 7) st := by
    intro n
    induction n with
    | zero => rfl
    | succ n ih =>
      have h : aloop (g69X (g69C [1, 1, 1, 1, 0, 1, 0, 0])) (g69k1) (n + 1) = g69X (g69C [1, 1, 1, 1, 0, 1, 0, 0]) (kSeq (aloop (g69X (g69C [1, 1, 1, 1, 0, 1, 0, 0])) (g69k1) n) (g69k1)) := rfl
      rw [h, ih]
      refine Eq.trans (g69seq g69n11110100 ((g69seq g69n111101001 rfl).trans ((g69blk g69n1111010010).trans (g69seq g69n11110100100 (g69e111101001001 (g69b1111010 n)))))) ?_
      funext env st
      kernel_rfl
  exact (g69loop g69n1111010).trans (key big)
noncomputable def g69b111 (x0 : V) (x4 : V) (st : St) : Res :=
 A.toBytes x4 st fun a1 z2 =>
 g69b1111010 big x0 a1 (.int .i64 0) z2
theorem g69n111 : g69C [1, 1, 1] = .seq (g69C [1, 1, 1, 0]) (g69C [1, 1, 1, 1]) := by kernel_rfl
theorem g69n1111 : g69C [1, 1, 1, 1] = .seq (g69C [1, 1, 1, 1, 0]) (g69C [1, 1, 1, 1, 1]) := by kernel_rfl
theorem g69n11110 : g69C [1, 1, 1, 1, 0] = .seq (g69C [1, 1, 1, 1, 0, 0]) (g69C [1, 1, 1, 1, 0, 1]) := by kernel_rfl
theorem g69n111101 : g69C [1, 1, 1, 1, 0, 1] = .block 0 (g69C [1, 1, 1, 1, 0, 1, 0]) := by kernel_rfl
theorem g69e111 : g69X (g69C [1, 1, 1]) (g69kr) = fun env st => g69b111 (env 0) (env 4) st := by
  refine Eq.trans (g69seq g69n111 ((g69seq g69n1111 rfl).trans (g69seq g69n11110 ((g69blk g69n111101).trans (g69e1111010))))) ?_
  funext env st
  kernel_rfl
noncomputable def f69 (x0 : V) (st : St) : Res :=
 A.lenL x0 fun a1 =>
 A.bin .gtr a1 (.int .i64 4096) fun a2 =>
 A.cond a2
 (some (.ret (.tup [((.str []) : V).er1, ((.int .i64 12) : V).er1]), st))
 (A.lenL x0 fun a3 =>
 A.ret (s68 [a3.er1] st) fun a4 z5 =>
 A.ext a4 0 fun a6 =>
 A.ext a4 1 fun a7 =>
 g69b111 x0 a6 z5)
theorem g69nr : g69C [] = .seq (g69C [0]) (g69C [1]) := by kernel_rfl
theorem g69n1 : g69C [1] = .seq (g69C [1, 0]) (g69C [1, 1]) := by kernel_rfl
theorem g69n11 : g69C [1, 1] = .seq (g69C [1, 1, 0]) (g69C [1, 1, 1]) := by kernel_rfl
theorem g69er (env : Env) (st : St) : g69X (g69C []) g69kr env st = f69 (env 0) st := by
  rw [(g69seq g69nr (g69seq g69n1 (g69seq g69n11 (g69e111))))]
  kernel_rfl
theorem s69_eq (x0 : V) (st : St) : s69 [x0] st = fg (f69 x0 st) st := by
  have h : afn Try.prog g69mu g69T big (areg Try.prog g69mu g69T) 69 [x0] st = g69X (g69C []) g69kr (fun t => [x0].getD t (.tup [])) st := by kernel_rfl
  rw [s69, sealF_eq]
  show fg _ st = fg _ st
  refine congrArg (fun r => fg r st) ?_
  exact h.trans (g69er _ st)
/-! sinew/sinewref03.body -/
def g53mu : Nat → Bool := fun _ => false
noncomputable def g53T : Tbl := tget [(66, s66), (67, s67), (68, s68), (69, s69)]
theorem g53t : SimT Try.prog g53T := simT_cons sim66 ( simT_cons sim67 ( simT_cons sim68 ( simT_cons sim69 (simT_nil))))
noncomputable def s53 : Fn := sealF (fun args st => fg (afn Try.prog g53mu g53T big (areg Try.prog g53mu g53T) 53 args st) st)
theorem sim53 : Sim Try.prog 53 s53 := (afn_sim g53t (fun m => areg_sound g53t hmix m) 53 (by kernel_rfl)).fg.sealed
noncomputable def g53C (p : List Nat) : Code := sub (match Try.f53.body with | some c => c | none => .skip) p
noncomputable def g53X (c : Code) (K : Kon) : Env → St → Res := aexec Try.prog g53mu g53T big 111 (areg Try.prog g53mu g53T 111) c K
noncomputable def g53kr : Kon := aresK Try.prog Try.f53.results.toList
theorem g53reg {c : Code} {K : Kon} {G : Env → St → Res} {id : Nat} {ops : Array Oper} {l1 l2 : List Nat} (hc : c = .region id ops false) (hl : List.range ops.size = l1 ++ l2) (h : (fun env st => aops Try.prog g53mu g53T 111 ops l2 env st (K .normal)) = G) : g53X c K = fun env st => aops Try.prog g53mu g53T 111 ops l1 env st G := reg_cut hc hl h
theorem g53seq {c x y : Code} {K : Kon} {G : Env → St → Res} (hc : c = .seq x y) (hy : g53X y K = G) : g53X c K = g53X x (kSeq G K) := seq_cut hc hy
theorem g53blk {c x : Code} {K : Kon} {i : Nat} (hc : c = .block i x) : g53X c K = g53X x (kBlk i K) := blk_cut hc
theorem g53loop {c x : Code} {K : Kon} (hc : c = .loop x) : g53X c K = aloop (g53X x) K big := loop_cut hc
theorem g53cond {c x y : Code} {K : Kon} {v : Operand} {F G : Env → St → Res} (hc : c = .cond v x y) (hx : g53X x K = F) (hy : g53X y K = G) : g53X c K = condF v F G := cond_cut hc hx hy
noncomputable def g53k0 : Kon := kSeq (g53X (g53C [1, 1, 1, 1, 1, 1, 1, 1, 1, 1, 1, 1, 1, 1]) (g53kr)) (g53kr)
noncomputable def g53k1 : Kon := kBlk 4 (g53k0)
noncomputable def g53b1111111111111010 : Nat → V → V → V → St → Res
| 0, _, _, _, _ => none
| n + 1, x1, x6, x15, st =>
 A.faddr 3 x1 fun a1 =>
 A.load false 1 a1 st fun a2 z3 =>
 A.lenL a2 fun a4 =>
 A.bin .lss x15 a4 fun a5 =>
 A.cond a5
 (A.faddr 3 x1 fun a6 =>
 A.load false 1 a6 z3 fun a7 z8 =>
 A.iaddr 1 a7 x15 fun a9 =>
 A.load false 1 a9 z8 fun a10 z11 =>
 A.ret (s69 [a10.er1] z11) fun a12 z13 =>
 A.ext a12 0 fun a14 =>
 A.ext a12 1 fun a15 =>
 A.appB 1 x6 (elemsOf 3 1 a14 z13) z13 fun a16 z17 =>
 A.bin .add x15 (.int .i64 1) fun a18 =>
 (g53b1111111111111010 n) x1 a16 a18 z17)
 (A.toStr x6 z3 fun a19 =>
 A.lenL x6 fun a20 =>
 A.bin .leq a20 (.int .i64 1048576) fun a21 =>
 some (.ret (.tup [a19.er1, a21.er1]), z3))
theorem g53n1111111111111010 : g53C [1, 1, 1, 1, 1, 1, 1, 1, 1, 1, 1, 1, 1, 0, 1, 0] = .loop (g53C [1, 1, 1, 1, 1, 1, 1, 1, 1, 1, 1, 1, 1, 0, 1, 0, 0]) := by kernel_rfl
noncomputable def g53k2 (L1111111111111010 : V → V → V → St → Res) : Kon := kSeq (fun env st => L1111111111111010 (env 1) (env 6) (env 15) st) (g53k1)
theorem g53e1111111111111010 : g53X (g53C [1, 1, 1, 1, 1, 1, 1, 1, 1, 1, 1, 1, 1, 0, 1, 0]) (g53k1) = fun env st => g53b1111111111111010 big (env 1) (env 6) (env 15) st := by
  have key : ∀ n, aloop (g53X (g53C [1, 1, 1, 1, 1, 1, 1, 1, 1, 1, 1, 1, 1, 0, 1, 0, 0])) (g53k1) n = fun env st => g53b1111111111111010 n (env 1) (env 6) (env 15) st := by
    intro n
    induction n with
    | zero => rfl
    | succ n ih =>
      have h : aloop (g53X (g53C [1, 1, 1, 1, 1, 1, 1, 1, 1, 1, 1, 1, 1, 0, 1, 0, 0])) (g53k1) (n + 1) = g53X (g53C [1, 1, 1, 1, 1, 1, 1, 1, 1, 1, 1, 1, 1, 0, 1, 0, 0]) (kSeq (aloop (g53X (g53C [1, 1, 1, 1, 1, 1, 1, 1, 1, 1, 1, 1, 1, 0, 1, 0, 0])) (g53k1) n) (g53k1)) := rfl
      rw [h, ih]
      refine Eq.trans (Eq.refl _) ?_
      funext env st
      kernel_rfl
  exact (g53loop g53n1111111111111010).trans (key big)
noncomputable def g53b1111111111111 (x1 : V) (x6 : V) (st : St) : Res :=
 g53b1111111111111010 big x1 x6 (.int .i64 0) st
theorem g53n1111111111111 : g53C [1, 1, 1, 1, 1, 1, 1, 1, 1, 1, 1, 1, 1] = .seq (g53C [1, 1, 1, 1, 1, 1, 1, 1, 1, 1, 1, 1, 1, 0]) (g53C [1, 1, 1, 1, 1, 1, 1, 1, 1, 1, 1, 1, 1, 1]) := by kernel_rfl
theorem g53n11111111111110 : g53C [1, 1, 1, 1, 1, 1, 1, 1, 1, 1, 1, 1, 1, 0] = .seq (g53C [1, 1, 1, 1, 1, 1, 1, 1, 1, 1, 1, 1, 1, 0, 0]) (g53C [1, 1, 1, 1, 1, 1, 1, 1, 1, 1, 1, 1, 1, 0, 1]) := by kernel_rfl
theorem g53n111111111111101 : g53C [1, 1, 1, 1, 1, 1, 1, 1, 1, 1, 1, 1, 1, 0, 1] = .block 4 (g53C [1, 1, 1, 1, 1, 1, 1, 1, 1, 1, 1, 1, 1, 0, 1, 0]) := by kernel_rfl
theorem g53e1111111111111 : g53X (g53C [1, 1, 1, 1, 1, 1, 1, 1, 1, 1, 1, 1, 1]) (g53kr) = fun env st => g53b1111111111111 (env 1) (env 6) st := by
  refine Eq.trans ((g53seq g53n1111111111111 rfl).trans (g53seq g53n11111111111110 ((g53blk g53n111111111111101).trans (g53e1111111111111010)))) ?_
  funext env st
  kernel_rfl
noncomputable def g53b11111111111 (x1 : V) (x6 : V) (st : St) : Res :=
 A.faddr 3 x1 fun a1 =>
 A.load false 1 a1 st fun a2 z3 =>
 A.lenL a2 fun a4 =>
 A.ret (s68 [a4.er1] z3) fun a5 z6 =>
 A.ext a5 0 fun a7 =>
 A.ext a5 1 fun a8 =>
 A.appB 1 x6 (elemsOf 3 1 a7 z6) z6 fun a9 z10 =>
 g53b1111111111111 x1 a9 z10
theorem g53n11111111111 : g53C [1, 1, 1, 1, 1, 1, 1, 1, 1, 1, 1] = .seq (g53C [1, 1, 1, 1, 1, 1, 1, 1, 1, 1, 1, 0]) (g53C [1, 1, 1, 1, 1, 1, 1, 1, 1, 1, 1, 1]) := by kernel_rfl
theorem g53n111111111111 : g53C [1, 1, 1, 1, 1, 1, 1, 1, 1, 1, 1, 1] = .seq (g53C [1, 1, 1, 1, 1, 1, 1, 1, 1, 1, 1, 1, 0]) (g53C [1, 1, 1, 1, 1, 1, 1, 1, 1, 1, 1, 1, 1]) := by kernel_rfl
theorem g53e11111111111 : g53X (g53C [1, 1, 1, 1, 1, 1, 1, 1, 1, 1, 1]) (g53kr) = fun env st => g53b11111111111 (env 1) (env 6) st := by
  refine Eq.trans (g53seq g53n11111111111 (g53seq g53n111111111111 (g53e1111111111111))) ?_
  funext env st
  kernel_rfl
noncomputable def g53b111111111 (x1 : V) (x6 : V) (st : St) : Res :=
 A.faddr 2 x1 fun a1 =>
 A.load false 1 a1 st fun a2 z3 =>
 A.ret (s69 [a2.er1] z3) fun a4 z5 =>
 A.ext a4 0 fun a6 =>
 A.ext a4 1 fun a7 =>
 A.appB 1 x6 (elemsOf 3 1 a6 z5) z5 fun a8 z9 =>
 g53b11111111111 x1 a8 z9
theorem g53n111111111 : g53C [1, 1, 1, 1, 1, 1, 1, 1, 1] = .seq (g53C [1, 1, 1, 1, 1, 1, 1, 1, 1, 0]) (g53C [1, 1, 1, 1, 1, 1, 1, 1, 1, 1]) := by kernel_rfl
theorem g53n1111111111 : g53C [1, 1, 1, 1, 1, 1, 1, 1, 1, 1] = .seq (g53C [1, 1, 1, 1, 1, 1, 1, 1, 1, 1, 0]) (g53C [1, 1, 1, 1, 1, 1, 1, 1, 1, 1, 1]) := by kernel_rfl
theorem g53e111111111 : g53X (g53C [1, 1, 1, 1, 1, 1, 1, 1, 1]) (g53kr) = fun env st => g53b111111111 (env 1) (env 6) st := by
  refine Eq.trans (g53seq g53n111111111 (g53seq g53n1111111111 (g53e11111111111))) ?_
  funext env st
  kernel_rfl
noncomputable def g53k3 : Kon := kSeq (fun env st => g53b111111111 (env 1) (env 6) st) (g53kr)
noncomputable def g53k4 : Kon := kBlk 2 (g53k3)
noncomputable def g53b11111111010 : Nat → V → V → V → V → St → Res
| 0, _, _, _, _, _ => none
| n + 1, x1, x6, x7, x8, st =>
 A.lenL x7 fun a1 =>
 A.bin .lss x8 a1 fun a2 =>
 A.cond a2
 (A.iaddr 1 x7 x8 fun a3 =>
 A.load false 1 a3 st fun a4 z5 =>
 A.ret (s68 [a4.er1] z5) fun a6 z7 =>
 A.ext a6 0 fun a8 =>
 A.ext a6 1 fun a9 =>
 A.appB 1 x6 (elemsOf 3 1 a8 z7) z7 fun a10 z11 =>
 A.bin .add x8 (.int .i64 1) fun a12 =>
 (g53b11111111010 n) x1 a10 x7 a12 z11)
 (g53b111111111 x1 x6 st)
theorem g53n11111111010 : g53C [1, 1, 1, 1, 1, 1, 1, 1, 0, 1, 0] = .loop (g53C [1, 1, 1, 1, 1, 1, 1, 1, 0, 1, 0, 0]) := by kernel_rfl
noncomputable def g53k5 (L11111111010 : V → V → V → V → St → Res) : Kon := kSeq (fun env st => L11111111010 (env 1) (env 6) (env 7) (env 8) st) (g53k4)
theorem g53e11111111010 : g53X (g53C [1, 1, 1, 1, 1, 1, 1, 1, 0, 1, 0]) (g53k4) = fun env st => g53b11111111010 big (env 1) (env 6) (env 7) (env 8) st := by
  have key : ∀ n, aloop (g53X (g53C [1, 1, 1, 1, 1, 1, 1, 1, 0, 1, 0, 0])) (g53k4) n = fun env st => g53b11111111010 n (env 1) (env 6) (env 7) (env 8) st := by
    intro n
    induction n with
    | zero => rfl
    | succ n ih =>
      have h : aloop (g53X (g53C [1, 1, 1, 1, 1, 1, 1, 1, 0, 1, 0, 0])) (g53k4) (n + 1) = g53X (g53C [1, 1, 1, 1, 1, 1, 1, 1, 0, 1, 0, 0]) (kSeq (aloop (g53X (g53C [1, 1, 1, 1, 1, 1, 1, 1, 0, 1, 0, 0])) (g53k4) n) (g53k4)) := rfl
      rw [h, ih]
      refine Eq.trans (Eq.refl _) ?_
      funext env st
      kernel_rfl
  exact (g53loop g53n11111111010).trans (key big)
noncomputable def g53b1111111 (x1 : V) (x6 : V) (x7 : V) (st : St) : Res :=
 A.faddr 1 x1 fun a1 =>
 A.load false 1 a1 st fun a2 z3 =>
 A.app 1 x7 (elemsOf 5 1 a2 z3) z3 fun a4 z5 =>
 g53b11111111010 big x1 x6 a4 (.int .i64 0) z5
theorem g53n1111111 : g53C [1, 1, 1, 1, 1, 1, 1] = .seq (g53C [1, 1, 1, 1, 1, 1, 1, 0]) (g53C [1, 1, 1, 1, 1, 1, 1, 1]) := by kernel_rfl
theorem g53n11111111 : g53C [1, 1, 1, 1, 1, 1, 1, 1] = .seq (g53C [1, 1, 1, 1, 1, 1, 1, 1, 0]) (g53C [1, 1, 1, 1, 1, 1, 1, 1, 1]) := by kernel_rfl
theorem g53n111111110 : g53C [1, 1, 1, 1, 1, 1, 1, 1, 0] = .seq (g53C [1, 1, 1, 1, 1, 1, 1, 1, 0, 0]) (g53C [1, 1, 1, 1, 1, 1, 1, 1, 0, 1]) := by kernel_rfl
theorem g53n1111111101 : g53C [1, 1, 1, 1, 1, 1, 1, 1, 0, 1] = .block 2 (g53C [1, 1, 1, 1, 1, 1, 1, 1, 0, 1, 0]) := by kernel_rfl
theorem g53e1111111 : g53X (g53C [1, 1, 1, 1, 1, 1, 1]) (g53kr) = fun env st => g53b1111111 (env 1) (env 6) (env 7) st := by
  refine Eq.trans (g53seq g53n1111111 ((g53seq g53n11111111 (g53e111111111)).trans (g53seq g53n111111110 ((g53blk g53n1111111101).trans (g53e11111111010))))) ?_
  funext env st
  kernel_rfl
noncomputable def g53b1111 (x1 : V) (x4 : V) (st : St) : Res :=
 A.bin .gtr x4 (.int .i64 1048576) fun a1 =>
 A.cond a1
 (some (.ret (.tup [((.str []) : V).er1, ((.bool false) : V).er1]), st))
 (A.faddr 0 x1 fun a2 =>
 A.load false 1 a2 st fun a3 z4 =>
 A.faddr 1 x1 fun a5 =>
 A.load false 1 a5 z4 fun a6 z7 =>
 A.lenL a6 fun a8 =>
 A.bslice 1 (.int .i64 0) 2 [(0, a3), (1, a8)] fun a9 =>
 g53b1111111 x1 (.lst [] 1) a9 z7)
theorem g53n1111 : g53C [1, 1, 1, 1] = .seq (g53C [1, 1, 1, 1, 0]) (g53C [1, 1, 1, 1, 1]) := by kernel_rfl
theorem g53n11111 : g53C [1, 1, 1, 1, 1] = .seq (g53C [1, 1, 1, 1, 1, 0]) (g53C [1, 1, 1, 1, 1, 1]) := by kernel_rfl
theorem g53n111111 : g53C [1, 1, 1, 1, 1, 1] = .seq (g53C [1, 1, 1, 1, 1, 1, 0]) (g53C [1, 1, 1, 1, 1, 1, 1]) := by kernel_rfl
theorem g53e1111 : g53X (g53C [1, 1, 1, 1]) (g53kr) = fun env st => g53b1111 (env 1) (env 4) st := by
  refine Eq.trans (g53seq g53n1111 (g53seq g53n11111 (g53seq g53n111111 (g53e1111111)))) ?_
  funext env st
  kernel_rfl
noncomputable def g53k6 : Kon := kSeq (fun env st => g53b1111 (env 1) (env 4) st) (g53kr)
noncomputable def g53k7 : Kon := kBlk 0 (g53k6)
noncomputable def g53b111010 : Nat → V → V → V → St → Res
| 0, _, _, _, _ => none
| n + 1, x1, x4, x5, st =>
 A.faddr 3 x1 fun a1 =>
 A.load false 1 a1 st fun a2 z3 =>
 A.lenL a2 fun a4 =>
 A.bin .lss x5 a4 fun a5 =>
 A.cond a5
 (A.faddr 3 x1 fun a6 =>
 A.load false 1 a6 z3 fun a7 z8 =>
 A.iaddr 1 a7 x5 fun a9 =>
 A.load false 1 a9 z8 fun a10 z11 =>
 A.ret (s67 [a10.er1] z11) fun a12 z13 =>
 A.bin .add x4 a12 fun a14 =>
 A.bin .add x5 (.int .i64 1) fun a15 =>
 (g53b111010 n) x1 a14 a15 z13)
 (g53b1111 x1 x4 z3)
theorem g53n111010 : g53C [1, 1, 1, 0, 1, 0] = .loop (g53C [1, 1, 1, 0, 1, 0, 0]) := by kernel_rfl
noncomputable def g53k8 (L111010 : V → V → V → St → Res) : Kon := kSeq (fun env st => L111010 (env 1) (env 4) (env 5) st) (g53k7)
theorem g53e111010 : g53X (g53C [1, 1, 1, 0, 1, 0]) (g53k7) = fun env st => g53b111010 big (env 1) (env 4) (env 5) st := by
  have key : ∀ n, aloop (g53X (g53C [1, 1, 1, 0, 1, 0, 0])) (g53k7) n = fun env st => g53b111010 n (env 1) (env 4) (env 5) st := by
    intro n
    induction n with
    | zero => rfl
    | succ n ih =>
      have h : aloop (g53X (g53C [1, 1, 1, 0, 1, 0, 0])) (g53k7) (n + 1) = g53X (g53C [1, 1, 1, 0, 1, 0, 0]) (kSeq (aloop (g53X (g53C [1, 1, 1, 0, 1, 0, 0])) (g53k7) n) (g53k7)) := rfl
      rw [h, ih]
      refine Eq.trans (Eq.refl _) ?_
      funext env st
      kernel_rfl
  exact (g53loop g53n111010).trans (key big)
noncomputable def g53b111 (x1 : V) (x4 : V) (st : St) : Res :=
 g53b111010 big x1 x4 (.int .i64 0) st
theorem g53n111 : g53C [1, 1, 1] = .seq (g53C [1, 1, 1, 0]) (g53C [1, 1, 1, 1]) := by kernel_rfl
theorem g53n1110 : g53C [1, 1, 1, 0] = .seq (g53C [1, 1, 1, 0, 0]) (g53C [1, 1, 1, 0, 1]) := by kernel_rfl
theorem g53n11101 : g53C [1, 1, 1, 0, 1] = .block 0 (g53C [1, 1, 1, 0, 1, 0]) := by kernel_rfl
theorem g53e111 : g53X (g53C [1, 1, 1]) (g53kr) = fun env st => g53b111 (env 1) (env 4) st := by
  refine Eq.trans ((g53seq g53n111 (g53e1111)).trans (g53seq g53n1110 ((g53blk g53n11101).trans (g53e111010)))) ?_
  funext env st
  kernel_rfl
noncomputable def f53 (x0 : V) (st : St) : Res :=
 A.box x0 st fun a1 z2 =>
 A.load true 4 a1 z2 fun a3 z4 =>
 A.ret (s66 [a3.er1] z4) fun a5 z6 =>
 A.un .not a5 fun a7 =>
 A.cond a7
 (some (.ret (.tup [((.str []) : V).er1, ((.bool false) : V).er1]), z6))
 (A.faddr 2 a1 fun a8 =>
 A.load false 1 a8 z6 fun a9 z10 =>
 A.ret (s67 [a9.er1] z10) fun a11 z12 =>
 g53b111 a1 a11 z12)
theorem g53nr : g53C [] = .seq (g53C [0]) (g53C [1]) := by kernel_rfl
theorem g53n1 : g53C [1] = .seq (g53C [1, 0]) (g53C [1, 1]) := by kernel_rfl
theorem g53n11 : g53C [1, 1] = .seq (g53C [1, 1, 0]) (g53C [1, 1, 1]) := by kernel_rfl
theorem g53er (env : Env) (st : St) : g53X (g53C []) g53kr env st = f53 (env 0) st := by
  rw [(g53seq g53nr (g53seq g53n1 (g53seq g53n11 (g53e111))))]
  kernel_rfl
theorem s53_eq (x0 : V) (st : St) : s53 [x0] st = fg (f53 x0 st) st := by
  have h : afn Try.prog g53mu g53T big (areg Try.prog g53mu g53T) 53 [x0] st = g53X (g53C []) g53kr (fun t => [x0].getD t (.tup [])) st := by kernel_rfl
  rw [s53, sealF_eq]
  show fg _ st = fg _ st
  refine congrArg (fun r => fg r st) ?_
  exact h.trans (g53er _ st)
/-! sinew/sinewref03.four -/
def g54mu : Nat → Bool := fun _ => false
noncomputable def g54T : Tbl := tget []
theorem g54t : SimT Try.prog g54T := simT_nil
noncomputable def s54 : Fn := sealF (afn Try.prog g54mu g54T big (areg Try.prog g54mu g54T) 54)
theorem sim54 : Sim Try.prog 54 s54 := (afn_sim g54t (fun m => areg_sound g54t hmix m) 54 (by kernel_rfl)).sealed
noncomputable def f54 (x0 : V) (st : St) : Res :=
 A.bin .shr x0 (.int .u64 24) fun a1 =>
 A.bin .and a1 (.int .i64 255) fun a2 =>
 A.toInt .u8 a2 fun a3 =>
 A.bin .shr x0 (.int .u64 16) fun a4 =>
 A.bin .and a4 (.int .i64 255) fun a5 =>
 A.toInt .u8 a5 fun a6 =>
 A.bin .shr x0 (.int .u64 8) fun a7 =>
 A.bin .and a7 (.int .i64 255) fun a8 =>
 A.toInt .u8 a8 fun a9 =>
 A.bin .and x0 (.int .i64 255) fun a10 =>
 A.toInt .u8 a10 fun a11 =>
 A.bslice 1 (.int .u8 0) 4 [(0, a3), (1, a6), (2, a9), (3, a11)] fun a12 =>
 A.toStr a12 st fun a13 =>
 some (.ret a13.er1, st)
theorem s54_eq (x0 : V) (st : St) : s54 [x0] st = f54 x0 st := by
  rw [s54, sealF_eq]
  kernel_rfl
/-! sinew/sinewref02.Sum -/
def g55mu : Nat → Bool := fun _ => false
noncomputable def g55T : Tbl := tget []
theorem g55t : SimT Try.prog g55T := simT_nil
noncomputable def s55 : Fn := sealF (afn Try.prog g55mu g55T big (areg Try.prog g55mu g55T) 55)
theorem sim55 : Sim Try.prog 55 s55 := (afn_sim g55t (fun m => areg_sound g55t hmix m) 55 (by kernel_rfl)).sealed
noncomputable def g55C (p : List Nat) : Code := sub (match Try.f55.body with | some c => c | none => .skip) p
noncomputable def g55X (c : Code) (K : Kon) : Env → St → Res := aexec Try.prog g55mu g55T big 33 (areg Try.prog g55mu g55T 33) c K
noncomputable def g55kr : Kon := aresK Try.prog Try.f55.results.toList
theorem g55reg {c : Code} {K : Kon} {G : Env → St → Res} {id : Nat} {ops : Array Oper} {l1 l2 : List Nat} (hc : c = .region id ops false) (hl : List.range ops.size = l1 ++ l2) (h : (fun env st => aops Try.prog g55mu g55T 33 ops l2 env st (K .normal)) = G) : g55X c K = fun env st => aops Try.prog g55mu g55T 33 ops l1 env st G := reg_cut hc hl h
theorem g55seq {c x y : Code} {K : Kon} {G : Env → St → Res} (hc : c = .seq x y) (hy : g55X y K = G) : g55X c K = g55X x (kSeq G K) := seq_cut hc hy
theorem g55blk {c x : Code} {K : Kon} {i : Nat} (hc : c = .block i x) : g55X c K = g55X x (kBlk i K) := blk_cut hc
theorem g55loop {c x : Code} {K : Kon} (hc : c = .loop x) : g55X c K = aloop (g55X x) K big := loop_cut hc
theorem g55cond {c x y : Code} {K : Kon} {v : Operand} {F G : Env → St → Res} (hc : c = .cond v x y) (hx : g55X x K = F) (hy : g55X y K = G) : g55X c K = condF v F G := cond_cut hc hx hy
noncomputable def g55k0 : Kon := kSeq (g55X (g55C [1, 1, 1]) (g55kr)) (g55kr)
noncomputable def g55k1 : Kon := kBlk 0 (g55k0)
noncomputable def g55k2 (L11010 : V → V → V → St → Res) : Kon := kSeq (fun env st => L11010 (env 0) (env 3) (env 4) st) (g55k1)
noncomputable def g55k3 (L11010 : V → V → V → St → Res) : Kon := kSeq (g55X (g55C [1, 1, 0, 1, 0, 0, 1, 1]) (g55k2 L11010)) (g55k2 L11010)
noncomputable def g55k4 (L11010 : V → V → V → St → Res) : Kon := kBlk 1 (g55k3 L11010)
noncomputable def g55k5 (L11010 : V → V → V → St → Res) : Kon := kBlk 2 (g55k4 L11010)
noncomputable def g55b110100100110 (L11010 : V → V → V → St → Res) : Nat → V → V → V → V → St → Res
| 0, _, _, _, _, _ => none
| n + 1, x0, x3, x4, x5, st =>
 A.bin .lss x5 (.int .i64 8) fun a1 =>
 A.cond a1
 (A.bin .mul (.int .i64 2) x3 fun a2 =>
 A.bin .gtr a2 (.int .i64 4294967295) fun a3 =>
 A.cond a3
 (A.bin .sub a2 (.int .i64 4294967295) fun a4 =>
 A.bin .sub a4 (.int .i64 1) fun a5 =>
 A.bin .xor a5 (.int .i64 79764919) fun a6 =>
 A.bin .add x5 (.int .i64 1) fun a7 =>
 (g55b110100100110 L11010 n) x0 a6 x4 a7 st)
 (A.bin .add x5 (.int .i64 1) fun a8 =>
 (g55b110100100110 L11010 n) x0 a2 x4 a8 st))
 (A.bin .add x4 (.int .i64 1) fun a9 =>
 L11010 x0 x3 a9 st)
theorem g55n110100100110 : g55C [1, 1, 0, 1, 0, 0, 1, 0, 0, 1, 1, 0] = .loop (g55C [1, 1, 0, 1, 0, 0, 1, 0, 0, 1, 1, 0, 0]) := by kernel_rfl
noncomputable def g55k6 (L11010 : V → V → V → St → Res) (L110100100110 : V → V → V → V → St → Res) : Kon := kSeq (fun env st => L110100100110 (env 0) (env 3) (env 4) (env 5) st) (g55k5 L11010)
theorem g55e110100100110 (L11010 : V → V → V → St → Res) : g55X (g55C [1, 1, 0, 1, 0, 0, 1, 0, 0, 1, 1, 0]) (g55k5 L11010) = fun env st => g55b110100100110 L11010 big (env 0) (env 3) (env 4) (env 5) st := by
  have key : ∀ n, aloop (g55X (g55C [1, 1, 0, 1, 0, 0, 1, 0, 0, 1, 1, 0, 0])) (g55k5 L11010) n = fun env st => g55b110100100110 L11010 n (env 0) (env 3) (env 4) (env 5) st := by
    intro n
    induction n with
    | zero => rfl
    | succ n ih =>
      have h : aloop (g55X (g55C [1, 1, 0, 1, 0, 0, 1, 0, 0, 1, 1, 0, 0])) (g55k5 L11010) (n + 1) = g55X (g55C [1, 1, 0, 1, 0, 0, 1, 0, 0, 1, 1, 0, 0]) (kSeq (aloop (g55X (g55C [1, 1, 0, 1, 0, 0, 1, 0, 0, 1, 1, 0, 0])) (g55k5 L11010) n) (g55k5 L11010)) := rfl
      rw [h, ih]
      refine Eq.trans (Eq.refl _) ?_
      funext env st
      kernel_rfl
  exact (g55loop g55n110100100110).trans (key big)
noncomputable def g55b1101001001 (L11010 : V → V → V → St → Res) (x0 : V) (x3 : V) (x4 : V) (st : St) : Res :=
 g55b110100100110 L11010 big x0 x3 x4 (.int .i64 0) st
theorem g55n1101001001 : g55C [1, 1, 0, 1, 0, 0, 1, 0, 0, 1] = .seq (g55C [1, 1, 0, 1, 0, 0, 1, 0, 0, 1, 0]) (g55C [1, 1, 0, 1, 0, 0, 1, 0, 0, 1, 1]) := by kernel_rfl
theorem g55n11010010011 : g55C [1, 1, 0, 1, 0, 0, 1, 0, 0, 1, 1] = .block 2 (g55C [1, 1, 0, 1, 0, 0, 1, 0, 0, 1, 1, 0]) := by kernel_rfl
theorem g55e1101001001 (L11010 : V → V → V → St → Res) : g55X (g55C [1, 1, 0, 1, 0, 0, 1, 0, 0, 1]) (g55k4 L11010) = fun env st => g55b1101001001 L11010 (env 0) (env 3) (env 4) st := by
  refine Eq.trans (g55seq g55n1101001001 ((g55blk g55n11010010011).trans (g55e110100100110 L11010))) ?_
  funext env st
  kernel_rfl
noncomputable def g55b11010 : Nat → V → V → V → St → Res
| 0, _, _, _, _ => none
| n + 1, x0, x3, x4, st =>
 A.lenS x0 fun a1 =>
 A.bin .lss x4 a1 fun a2 =>
 A.cond a2
 (A.idxS x0 x4 fun a3 =>
 A.toInt .i64 a3 fun a4 =>
 A.bin .shl a4 (.int .u64 24) fun a5 =>
 A.bin .xor x3 a5 fun a6 =>
 g55b1101001001 (g55b11010 n) x0 a6 x4 st)
 (A.bin .xor x3 (.int .i64 4294967295) fun a7 =>
 some (.ret a7.er1, st))
theorem g55n11010 : g55C [1, 1, 0, 1, 0] = .loop (g55C [1, 1, 0, 1, 0, 0]) := by kernel_rfl
theorem g55n110100 : g55C [1, 1, 0, 1, 0, 0] = .seq (g55C [1, 1, 0, 1, 0, 0, 0]) (g55C [1, 1, 0, 1, 0, 0, 1]) := by kernel_rfl
theorem g55n1101001 : g55C [1, 1, 0, 1, 0, 0, 1] = .seq (g55C [1, 1, 0, 1, 0, 0, 1, 0]) (g55C [1, 1, 0, 1, 0, 0, 1, 1]) := by kernel_rfl
theorem g55n11010010 : g55C [1, 1, 0, 1, 0, 0, 1, 0] = .block 1 (g55C [1, 1, 0, 1, 0, 0, 1, 0, 0]) := by kernel_rfl
theorem g55n110100100 : g55C [1, 1, 0, 1, 0, 0, 1, 0, 0] = .seq (g55C [1, 1, 0, 1, 0, 0, 1, 0, 0, 0]) (g55C [1, 1, 0, 1, 0, 0, 1, 0, 0, 1]) := by kernel_rfl
theorem g55e11010 : g55X (g55C [1, 1, 0, 1, 0]) (g55k1) = fun env st => g55b11010 big (env 0) (env 3) (env 4) st := by
  have key : ∀ n, aloop (g55X (g55C [1, 1, 0, 1, 0, 0])) (g55k1) n = fun env st => g55b11010 n (env 0) (env 3) (env 4) st := by
    intro n
    induction n with
    | zero => rfl
    | succ n ih =>
      have h : aloop (g55X (g55C [1, 1, 0, 1, 0, 0])) (g55k1) (n + 1) = g55X (g55C [1, 1, 0, 1, 0, 0]) (kSeq (aloop (g55X (g55C [1, 1, 0, 1, 0, 0])) (g55k1) n) (g55k1)) := rfl
      rw [h, ih]
      refine Eq.trans (g55seq g55n110100 ((g55seq g55n1101001 rfl).trans ((g55blk g55n11010010).trans (g55seq g55n110100100 (g55e1101001001 (g55b11010 n)))))) ?_
      funext env st
      kernel_rfl
  exact (g55loop g55n11010).trans (key big)
noncomputable def f55 (x0 : V) (st : St) : Res :=
 g55b11010 big x0 (.int .i64 4294967295) (.int .i64 0) st
theorem g55nr : g55C [] = .seq (g55C [0]) (g55C [1]) := by kernel_rfl
theorem g55n1 : g55C [1] = .seq (g55C [1, 0]) (g55C [1, 1]) := by kernel_rfl
theorem g55n11 : g55C [1, 1] = .seq (g55C [1, 1, 0]) (g55C [1, 1, 1]) := by kernel_rfl
theorem g55n110 : g55C [1, 1, 0] = .seq (g55C [1, 1, 0, 0]) (g55C [1, 1, 0, 1]) := by kernel_rfl
theorem g55n1101 : g55C [1, 1, 0, 1] = .block 0 (g55C [1, 1, 0, 1, 0]) := by kernel_rfl
theorem g55er (env : Env) (st : St) : g55X (g55C []) g55kr env st = f55 (env 0) st := by
  rw [(g55seq g55nr (g55seq g55n1 ((g55seq g55n11 rfl).trans (g55seq g55n110 ((g55blk g55n1101).trans (g55e11010))))))]
  kernel_rfl
theorem s55_eq (x0 : V) (st : St) : s55 [x0] st = f55 x0 st := by
  have h : afn Try.prog g55mu g55T big (areg Try.prog g55mu g55T) 55 [x0] st = g55X (g55C []) g55kr (fun t => [x0].getD t (.tup [])) st := by kernel_rfl
  rw [s55, sealF_eq]
  exact h.trans (g55er _ st)
/-! sinew/sinewref03.Pack -/
def g39mu : Nat → Bool := fun _ => false
noncomputable def g39T : Tbl := tget [(53, s53), (54, s54), (55, s55)]
theorem g39t : SimT Try.prog g39T := simT_cons sim53 ( simT_cons sim54 ( simT_cons sim55 (simT_nil)))
noncomputable def s39 : Fn := sealF (fun args st => fg (afn Try.prog g39mu g39T big (areg Try.prog g39mu g39T) 39 args st) st)
theorem sim39 : Sim Try.prog 39 s39 := (afn_sim g39t (fun m => areg_sound g39t hmix m) 39 (by kernel_rfl)).fg.sealed
noncomputable def g39C (p : List Nat) : Code := sub (match Try.f39.body with | some c => c | none => .skip) p
noncomputable def g39X (c : Code) (K : Kon) : Env → St → Res := aexec Try.prog g39mu g39T big 22 (areg Try.prog g39mu g39T 22) c K
noncomputable def g39kr : Kon := aresK Try.prog Try.f39.results.toList
theorem g39reg {c : Code} {K : Kon} {G : Env → St → Res} {id : Nat} {ops : Array Oper} {l1 l2 : List Nat} (hc : c = .region id ops false) (hl : List.range ops.size = l1 ++ l2) (h : (fun env st => aops Try.prog g39mu g39T 22 ops l2 env st (K .normal)) = G) : g39X c K = fun env st => aops Try.prog g39mu g39T 22 ops l1 env st G := reg_cut hc hl h
theorem g39seq {c x y : Code} {K : Kon} {G : Env → St → Res} (hc : c = .seq x y) (hy : g39X y K = G) : g39X c K = g39X x (kSeq G K) := seq_cut hc hy
theorem g39blk {c x : Code} {K : Kon} {i : Nat} (hc : c = .block i x) : g39X c K = g39X x (kBlk i K) := blk_cut hc
theorem g39loop {c x : Code} {K : Kon} (hc : c = .loop x) : g39X c K = aloop (g39X x) K big := loop_cut hc
theorem g39cond {c x y : Code} {K : Kon} {v : Operand} {F G : Env → St → Res} (hc : c = .cond v x y) (hx : g39X x K = F) (hy : g39X y K = G) : g39X c K = condF v F G := cond_cut hc hx hy
noncomputable def g39b111 (x4 : V) (st : St) : Res :=
 A.lenS x4 fun a1 =>
 A.ret (s54 [a1.er1] st) fun a2 z3 =>
 A.ret (s55 [x4.er1] z3) fun a4 z5 =>
 A.ret (s54 [a4.er1] z5) fun a6 z7 =>
 A.bin .add a2 a6 fun a8 =>
 A.bin .add a8 x4 fun a9 =>
 some (.ret (.tup [a9.er1, ((.int .i64 0) : V).er1]), z7)
theorem g39e111 : g39X (g39C [1, 1, 1]) (g39kr) = fun env st => g39b111 (env 4) st := by
  refine Eq.trans (Eq.refl (g39X (g39C [1, 1, 1]) (g39kr))) ?_
  funext env st
  kernel_rfl
noncomputable def f39 (x0 : V) (st : St) : Res :=
 A.box x0 st fun a1 z2 =>
 A.load true 4 a1 z2 fun a3 z4 =>
 A.ret (s53 [a3.er1] z4) fun a5 z6 =>
 A.ext a5 0 fun a7 =>
 A.ext a5 1 fun a8 =>
 A.un .not a8 fun a9 =>
 A.cond a9
 (some (.ret (.tup [((.str []) : V).er1, ((.int .i64 1) : V).er1]), z6))
 (g39b111 a7 z6)
theorem g39nr : g39C [] = .seq (g39C [0]) (g39C [1]) := by kernel_rfl
theorem g39n1 : g39C [1] = .seq (g39C [1, 0]) (g39C [1, 1]) := by kernel_rfl
theorem g39n11 : g39C [1, 1] = .seq (g39C [1, 1, 0]) (g39C [1, 1, 1]) := by kernel_rfl
theorem g39er (env : Env) (st : St) : g39X (g39C []) g39kr env st = f39 (env 0) st := by
  rw [(g39seq g39nr (g39seq g39n1 (g39seq g39n11 (g39e111))))]
  kernel_rfl
theorem s39_eq (x0 : V) (st : St) : s39 [x0] st = fg (f39 x0 st) st := by
  have h : afn Try.prog g39mu g39T big (areg Try.prog g39mu g39T) 39 [x0] st = g39X (g39C []) g39kr (fun t => [x0].getD t (.tup [])) st := by kernel_rfl
  rw [s39, sealF_eq]
  show fg _ st = fg _ st
  refine congrArg (fun r => fg r st) ?_
  exact h.trans (g39er _ st)
end Go.Ab
