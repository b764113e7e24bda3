import Derived.Test.YtiegejeleanfbaaAbForget
import Derived.Test.YtiegejeleanfbaaAbP13x0
namespace Go.Ab
open Go.Proofs
set_option linter.unusedVariables false
set_option maxRecDepth 100000
/-! sinew/sinewref13.Same -/
def g14mu : Nat → Bool := fun _ => false
noncomputable def g14T : Tbl := tget []
theorem g14t : SimT Try.prog g14T := simT_nil
noncomputable def s14 : Fn := sealF (afn Try.prog g14mu g14T big (areg Try.prog g14mu g14T) 14)
theorem sim14 : Sim Try.prog 14 s14 := (afn_sim g14t (fun m => areg_sound g14t hmix m) 14 (by kernel_rfl)).sealed
noncomputable def g14C (p : List Nat) : Code := sub (match Try.f14.body with | some c => c | none => .skip) p
noncomputable def g14X (c : Code) (K : Kon) : Env → St → Res := aexec Try.prog g14mu g14T big 26 (areg Try.prog g14mu g14T 26) c K
noncomputable def g14kr : Kon := aresK Try.prog Try.f14.results.toList
theorem g14reg {c : Code} {K : Kon} {G : Env → St → Res} {id : Nat} {ops : Array Oper} {l1 l2 : List Nat} (hc : c = .region id ops false) (hl : List.range ops.size = l1 ++ l2) (h : (fun env st => aops Try.prog g14mu g14T 26 ops l2 env st (K .normal)) = G) : g14X c K = fun env st => aops Try.prog g14mu g14T 26 ops l1 env st G := reg_cut hc hl h
theorem g14seq {c x y : Code} {K : Kon} {G : Env → St → Res} (hc : c = .seq x y) (hy : g14X y K = G) : g14X c K = g14X x (kSeq G K) := seq_cut hc hy
theorem g14blk {c x : Code} {K : Kon} {i : Nat} (hc : c = .block i x) : g14X c K = g14X x (kBlk i K) := blk_cut hc
theorem g14loop {c x : Code} {K : Kon} (hc : c = .loop x) : g14X c K = aloop (g14X x) K big := loop_cut hc
theorem g14cond {c x y : Code} {K : Kon} {v : Operand} {F G : Env → St → Res} (hc : c = .cond v x y) (hx : g14X x K = F) (hy : g14X y K = G) : g14X c K = condF v F G := cond_cut hc hx hy
noncomputable def g14k0 : Kon := kSeq (g14X (g14C [1, 1, 1]) (g14kr)) (g14kr)
noncomputable def g14k1 : Kon := kBlk 0 (g14k0)
noncomputable def g14b11010 : Nat → V → V → V → St → Res
| 0, _, _, _, _ => none
| n + 1, x0, x1, x5, st =>
 A.lenL x0 fun a1 =>
 A.bin .lss x5 a1 fun a2 =>
 A.cond a2
 (A.iaddr 1 x0 x5 fun a3 =>
 A.load false 1 a3 st fun a4 _ =>
 A.iaddr 1 x1 x5 fun a5 =>
 A.load false 1 a5 st fun a6 _ =>
 A.eql 2 true a4 a6 fun a7 =>
 A.cond a7
 (some (.ret ((.bool false) : V).er1, st))
 (A.bin .add x5 (.int .i64 1) fun a8 =>
 (g14b11010 n) x0 x1 a8 st))
 (some (.ret ((.bool true) : V).er1, st))
theorem g14n11010 : g14C [1, 1, 0, 1, 0] = .loop (g14C [1, 1, 0, 1, 0, 0]) := by kernel_rfl
noncomputable def g14k2 (L11010 : V → V → V → St → Res) : Kon := kSeq (fun env st => L11010 (env 0) (env 1) (env 5) st) (g14k1)
theorem g14e11010 : g14X (g14C [1, 1, 0, 1, 0]) (g14k1) = fun env st => g14b11010 big (env 0) (env 1) (env 5) st := by
  have key : ∀ n, aloop (g14X (g14C [1, 1, 0, 1, 0, 0])) (g14k1) n = fun env st => g14b11010 n (env 0) (env 1) (env 5) st := by
    intro n
    induction n with
    | zero => rfl
    | succ n ih =>
      have h : aloop (g14X (g14C [1, 1, 0, 1, 0, 0])) (g14k1) (n + 1) = g14X (g14C [1, 1, 0, 1, 0, 0]) (kSeq (aloop (g14X (g14C [1, 1, 0, 1, 0, 0])) (g14k1) n) (g14k1)) := rfl
      rw [h, ih]
      refine Eq.trans (Eq.refl _) ?_
      funext env st
      kernel_rfl
  exact (g14loop g14n11010).trans (key big)
noncomputable def f14 (x0 : V) (x1 : V) (st : St) : Res :=
 A.lenL x0 fun a1 =>
 A.lenL x1 fun a2 =>
 A.eql 2 true a1 a2 fun a3 =>
 A.cond a3
 (some (.ret ((.bool false) : V).er1, st))
 (g14b11010 big x0 x1 (.int .i64 0) st)
theorem g14nr : g14C [] = .seq (g14C [0]) (g14C [1]) := by kernel_rfl
theorem g14n1 : g14C [1] = .seq (g14C [1, 0]) (g14C [1, 1]) := by kernel_rfl
theorem g14n11 : g14C [1, 1] = .seq (g14C [1, 1, 0]) (g14C [1, 1, 1]) := by kernel_rfl
theorem g14n110 : g14C [1, 1, 0] = .seq (g14C [1, 1, 0, 0]) (g14C [1, 1, 0, 1]) := by kernel_rfl
theorem g14n1101 : g14C [1, 1, 0, 1] = .block 0 (g14C [1, 1, 0, 1, 0]) := by kernel_rfl
theorem g14er (env : Env) (st : St) : g14X (g14C []) g14kr env st = f14 (env 0) (env 1) st := by
  rw [(g14seq g14nr (g14seq g14n1 ((g14seq g14n11 rfl).trans (g14seq g14n110 ((g14blk g14n1101).trans (g14e11010))))))]
  kernel_rfl
theorem s14_eq (x0 : V) (x1 : V) (st : St) : s14 [x0, x1] st = f14 x0 x1 st := by
  have h : afn Try.prog g14mu g14T big (areg Try.prog g14mu g14T) 14 [x0, x1] st = g14X (g14C []) g14kr (fun t => [x0, x1].getD t (.tup [])) st := by kernel_rfl
  rw [s14, sealF_eq]
  exact h.trans (g14er _ st)
/-! sinew/share.Cells -/
def g16mu : Nat → Bool := fun _ => false
noncomputable def g16T : Tbl := tget [(26, s26), (31, s31)]
theorem g16t : SimT Try.prog g16T := simT_cons sim26 ( simT_cons sim31 (simT_nil))
noncomputable def s16 : Fn := sealF (afn Try.prog g16mu g16T big (areg Try.prog g16mu g16T) 16)
theorem sim16 : Sim Try.prog 16 s16 := (afn_sim g16t (fun m => areg_sound g16t hmix m) 16 (by kernel_rfl)).sealed
noncomputable def f16 (x0 : V) (st : St) : Res :=
 A.ret (s31 [x0.er1] st) fun a1 z2 =>
 A.un .not a1 fun a3 =>
 A.cond a3
 (some (.ret (.tup [((.int .i64 0) : V).er1, ((.int .i64 1) : V).er1]), z2))
 (A.ret (s26 [x0.er1] z2) fun a4 z5 =>
 some (.ret (.tup [a4.er1, ((.int .i64 0) : V).er1]), z5))
theorem s16_eq (x0 : V) (st : St) : s16 [x0] st = f16 x0 st := by
  rw [s16, sealF_eq]
  kernel_rfl
/-! sinew/check.Sum -/
def g35mu : Nat → Bool := fun _ => false
noncomputable def g35T : Tbl := tget [(40, s40)]
theorem g35t : SimT Try.prog g35T := simT_cons sim40 (simT_nil)
noncomputable def s35 : Fn := sealF (fun args st => fg (afn Try.prog g35mu g35T big (areg Try.prog g35mu g35T) 35 args st) st)
theorem sim35 : Sim Try.prog 35 s35 := (afn_sim g35t (fun m => areg_sound g35t hmix m) 35 (by kernel_rfl)).fg.sealed
noncomputable def g35C (p : List Nat) : Code := sub (match Try.f35.body with | some c => c | none => .skip) p
noncomputable def g35X (c : Code) (K : Kon) : Env → St → Res := aexec Try.prog g35mu g35T big 37 (areg Try.prog g35mu g35T 37) c K
noncomputable def g35kr : Kon := aresK Try.prog Try.f35.results.toList
theorem g35reg {c : Code} {K : Kon} {G : Env → St → Res} {id : Nat} {ops : Array Oper} {l1 l2 : List Nat} (hc : c = .region id ops false) (hl : List.range ops.size = l1 ++ l2) (h : (fun env st => aops Try.prog g35mu g35T 37 ops l2 env st (K .normal)) = G) : g35X c K = fun env st => aops Try.prog g35mu g35T 37 ops l1 env st G := reg_cut hc hl h
theorem g35seq {c x y : Code} {K : Kon} {G : Env → St → Res} (hc : c = .seq x y) (hy : g35X y K = G) : g35X c K = g35X x (kSeq G K) := seq_cut hc hy
theorem g35blk {c x : Code} {K : Kon} {i : Nat} (hc : c = .block i x) : g35X c K = g35X x (kBlk i K) := blk_cut hc
theorem g35loop {c x : Code} {K : Kon} (hc : c = .loop x) : g35X c K = aloop (g35X x) K big := loop_cut hc
theorem g35cond {c x y : Code} {K : Kon} {v : Operand} {F G : Env → St → Res} (hc : c = .cond v x y) (hx : g35X x K = F) (hy : g35X y K = G) : g35X c K = condF v F G := cond_cut hc hx hy
noncomputable def g35k0 : Kon := kSeq (g35X (g35C [1, 1, 1, 1]) (g35kr)) (g35kr)
noncomputable def g35k1 : Kon := kBlk 0 (g35k0)
noncomputable def g35k2 (L111010 : V → V → V → V → V → St → Res) : Kon := kSeq (fun env st => L111010 (env 0) (env 3) (env 4) (env 8) (env 9) st) (g35k1)
noncomputable def g35k3 (L111010 : V → V → V → V → V → St → Res) : Kon := kSeq (g35X (g35C [1, 1, 1, 0, 1, 0, 0, 1, 1, 1]) (g35k2 L111010)) (g35k2 L111010)
noncomputable def g35k4 (L111010 : V → V → V → V → V → St → Res) : Kon := kBlk 1 (g35k3 L111010)
noncomputable def g35b1110100110011 (L111010 : V → V → V → V → V → St → Res) (x0 : V) (x3 : V) (x4 : V) (x8 : V) (x9 : V) (st : St) : Res :=
 A.bin .shl x4 (.int .u64 4) fun a1 =>
 A.bin .shr x4 (.int .u64 28) fun a2 =>
 A.iaddrA 16 1 x3 a2 fun a3 =>
 A.load false 1 a3 st fun a4 z5 =>
 A.bin .xor a1 a4 fun a6 =>
 A.bin .shl a6 (.int .u64 4) fun a7 =>
 A.bin .shr a6 (.int .u64 28) fun a8 =>
 A.iaddrA 16 1 x3 a8 fun a9 =>
 A.load false 1 a9 z5 fun a10 z11 =>
 A.bin .xor a7 a10 fun a12 =>
 A.bin .add x9 (.int .i64 1) fun a13 =>
 L111010 x0 x3 a12 x8 a13 z11
theorem g35e1110100110011 (L111010 : V → V → V → V → V → St → Res) : g35X (g35C [1, 1, 1, 0, 1, 0, 0, 1, 1, 0, 0, 1, 1]) (g35k4 L111010) = fun env st => g35b1110100110011 L111010 (env 0) (env 3) (env 4) (env 8) (env 9) st := by
  refine Eq.trans (Eq.refl (g35X (g35C [1, 1, 1, 0, 1, 0, 0, 1, 1, 0, 0, 1, 1]) (g35k4 L111010))) ?_
  funext env st
  kernel_rfl
noncomputable def g35b111010 : Nat → V → V → V → V → V → St → Res
| 0, _, _, _, _, _, _ => none
| n + 1, x0, x3, x4, x8, x9, st =>
 A.bin .lss x9 x8 fun a1 =>
 A.cond a1
 (A.idxS x0 x9 fun a2 =>
 A.toInt .u32 a2 fun a3 =>
 A.bin .shl a3 (.int .u64 24) fun a4 =>
 A.bin .xor x4 a4 fun a5 =>
 g35b1110100110011 (g35b111010 n) x0 x3 a5 x8 x9 st)
 (A.un .xor x4 fun a6 =>
 A.toInt .i64 a6 fun a7 =>
 some (.ret a7.er1, st))
theorem g35n111010 : g35C [1, 1, 1, 0, 1, 0] = .loop (g35C [1, 1, 1, 0, 1, 0, 0]) := by kernel_rfl
theorem g35n1110100 : g35C [1, 1, 1, 0, 1, 0, 0] = .seq (g35C [1, 1, 1, 0, 1, 0, 0, 0]) (g35C [1, 1, 1, 0, 1, 0, 0, 1]) := by kernel_rfl
theorem g35n11101001 : g35C [1, 1, 1, 0, 1, 0, 0, 1] = .seq (g35C [1, 1, 1, 0, 1, 0, 0, 1, 0]) (g35C [1, 1, 1, 0, 1, 0, 0, 1, 1]) := by kernel_rfl
theorem g35n111010011 : g35C [1, 1, 1, 0, 1, 0, 0, 1, 1] = .seq (g35C [1, 1, 1, 0, 1, 0, 0, 1, 1, 0]) (g35C [1, 1, 1, 0, 1, 0, 0, 1, 1, 1]) := by kernel_rfl
theorem g35n1110100110 : g35C [1, 1, 1, 0, 1, 0, 0, 1, 1, 0] = .block 1 (g35C [1, 1, 1, 0, 1, 0, 0, 1, 1, 0, 0]) := by kernel_rfl
theorem g35n11101001100 : g35C [1, 1, 1, 0, 1, 0, 0, 1, 1, 0, 0] = .seq (g35C [1, 1, 1, 0, 1, 0, 0, 1, 1, 0, 0, 0]) (g35C [1, 1, 1, 0, 1, 0, 0, 1, 1, 0, 0, 1]) := by kernel_rfl
theorem g35n111010011001 : g35C [1, 1, 1, 0, 1, 0, 0, 1, 1, 0, 0, 1] = .seq (g35C [1, 1, 1, 0, 1, 0, 0, 1, 1, 0, 0, 1, 0]) (g35C [1, 1, 1, 0, 1, 0, 0, 1, 1, 0, 0, 1, 1]) := by kernel_rfl
theorem g35e111010 : g35X (g35C [1, 1, 1, 0, 1, 0]) (g35k1) = fun env st => g35b111010 big (env 0) (env 3) (env 4) (env 8) (env 9) st := by
  have key : ∀ n, aloop (g35X (g35C [1, 1, 1, 0, 1, 0, 0])) (g35k1) n = fun env st => g35b111010 n (env 0) (env 3) (env 4) (env 8) (env 9) st := by
    intro n
    induction n with
    | zero => rfl
    | succ n ih =>
      have h : aloop (g35X (g35C [1, 1, 1, 0, 1, 0, 0])) (g35k1) (n + 1) = g35X (g35C [1, 1, 1, 0, 1, 0, 0]) (kSeq (aloop (g35X (g35C [1, 1, 1, 0, 1, 0, 0])) (g35k1) n) (g35k1)) := rfl
      rw [h, ih]
      refine Eq.trans (g35seq g35n1110100 (g35seq g35n11101001 ((g35seq g35n111010011 rfl).trans ((g35blk g35n1110100110).trans (g35seq g35n11101001100 (g35seq g35n111010011001 (g35e1110100110011 (g35b111010 n)))))))) ?_
      funext env st
      kernel_rfl
  exact (g35loop g35n111010).trans (key big)
noncomputable def f35 (x0 : V) (st : St) : Res :=
 A.ret (s40 [] st) fun a1 z2 =>
 A.box (.agg [(.int .u32 0), (.int .u32 0), (.int .u32 0), (.int .u32 0), (.int .u32 0), (.int .u32 0), (.int .u32 0), (.int .u32 0), (.int .u32 0), (.int .u32 0), (.int .u32 0), (.int .u32 0), (.int .u32 0), (.int .u32 0), (.int .u32 0), (.int .u32 0)]) z2 fun a3 z4 =>
 A.store 16 a3 a1 z4 fun z5 =>
 A.lenS x0 fun a6 =>
 g35b111010 big x0 a3 (.int .u32 4294967295) a6 (.int .i64 0) z5
theorem g35nr : g35C [] = .seq (g35C [0]) (g35C [1]) := by kernel_rfl
theorem g35n1 : g35C [1] = .seq (g35C [1, 0]) (g35C [1, 1]) := by kernel_rfl
theorem g35n11 : g35C [1, 1] = .seq (g35C [1, 1, 0]) (g35C [1, 1, 1]) := by kernel_rfl
theorem g35n111 : g35C [1, 1, 1] = .seq (g35C [1, 1, 1, 0]) (g35C [1, 1, 1, 1]) := by kernel_rfl
theorem g35n1110 : g35C [1, 1, 1, 0] = .seq (g35C [1, 1, 1, 0, 0]) (g35C [1, 1, 1, 0, 1]) := by kernel_rfl
theorem g35n11101 : g35C [1, 1, 1, 0, 1] = .block 0 (g35C [1, 1, 1, 0, 1, 0]) := by kernel_rfl
theorem g35er (env : Env) (st : St) : g35X (g35C []) g35kr env st = f35 (env 0) st := by
  rw [(g35seq g35nr (g35seq g35n1 (g35seq g35n11 ((g35seq g35n111 rfl).trans (g35seq g35n1110 ((g35blk g35n11101).trans (g35e111010)))))))]
  kernel_rfl
theorem s35_eq (x0 : V) (st : St) : s35 [x0] st = fg (f35 x0 st) st := by
  have h : afn Try.prog g35mu g35T big (areg Try.prog g35mu g35T) 35 [x0] st = g35X (g35C []) g35kr (fun t => [x0].getD t (.tup [])) st := by kernel_rfl
  rw [s35, sealF_eq]
  show fg _ st = fg _ st
  refine congrArg (fun r => fg r st) ?_
  exact h.trans (g35er _ st)
/-! sinew/share.Part -/
def g21mu : Nat → Bool := fun _ => false
noncomputable def g21T : Tbl := tget [(35, s35)]
theorem g21t : SimT Try.prog g21T := simT_cons sim35 (simT_nil)
noncomputable def s21 : Fn := sealF (afn Try.prog g21mu g21T big (areg Try.prog g21mu g21T) 21)
theorem sim21 : Sim Try.prog 21 s21 := (afn_sim g21t (fun m => areg_sound g21t hmix m) 21 (by kernel_rfl)).sealed
noncomputable def g21C (p : List Nat) : Code := sub (match Try.f21.body with | some c => c | none => .skip) p
noncomputable def g21X (c : Code) (K : Kon) : Env → St → Res := aexec Try.prog g21mu g21T big 16 (areg Try.prog g21mu g21T 16) c K
noncomputable def g21kr : Kon := aresK Try.prog Try.f21.results.toList
theorem g21reg {c : Code} {K : Kon} {G : Env → St → Res} {id : Nat} {ops : Array Oper} {l1 l2 : List Nat} (hc : c = .region id ops false) (hl : List.range ops.size = l1 ++ l2) (h : (fun env st => aops Try.prog g21mu g21T 16 ops l2 env st (K .normal)) = G) : g21X c K = fun env st => aops Try.prog g21mu g21T 16 ops l1 env st G := reg_cut hc hl h
theorem g21seq {c x y : Code} {K : Kon} {G : Env → St → Res} (hc : c = .seq x y) (hy : g21X y K = G) : g21X c K = g21X x (kSeq G K) := seq_cut hc hy
theorem g21blk {c x : Code} {K : Kon} {i : Nat} (hc : c = .block i x) : g21X c K = g21X x (kBlk i K) := blk_cut hc
theorem g21loop {c x : Code} {K : Kon} (hc : c = .loop x) : g21X c K = aloop (g21X x) K big := loop_cut hc
theorem g21cond {c x y : Code} {K : Kon} {v : Operand} {F G : Env → St → Res} (hc : c = .cond v x y) (hx : g21X x K = F) (hy : g21X y K = G) : g21X c K = condF v F G := cond_cut hc hx hy
noncomputable def g21b11 (x0 : V) (x1 : V) (st : St) : Res :=
 A.bin .add x0 (.str [35]) fun a1 =>
 A.ret (s35 [a1.er1] st) fun a2 z3 =>
 A.bin .rem a2 x1 fun a4 =>
 some (.ret a4.er1, z3)
theorem g21e11 : g21X (g21C [1, 1]) (g21kr) = fun env st => g21b11 (env 0) (env 1) st := by
  refine Eq.trans (Eq.refl (g21X (g21C [1, 1]) (g21kr))) ?_
  funext env st
  kernel_rfl
noncomputable def f21 (x0 : V) (x1 : V) (st : St) : Res :=
 A.bin .lss x1 (.int .i64 1) fun a1 =>
 A.guard a1 false
 (A.bin .gtr x1 (.int .i64 64) fun a2 =>
 A.cond a2
 (some (.ret ((.int .i64 0) : V).er1, st))
 (g21b11 x0 x1 st))
 (some (.ret ((.int .i64 0) : V).er1, st))
theorem g21nr : g21C [] = .seq (g21C [0]) (g21C [1]) := by kernel_rfl
theorem g21n1 : g21C [1] = .seq (g21C [1, 0]) (g21C [1, 1]) := by kernel_rfl
theorem g21er (env : Env) (st : St) : g21X (g21C []) g21kr env st = f21 (env 0) (env 1) st := by
  rw [(g21seq g21nr (g21seq g21n1 (g21e11)))]
  kernel_rfl
theorem s21_eq (x0 : V) (x1 : V) (st : St) : s21 [x0, x1] st = f21 x0 x1 st := by
  have h : afn Try.prog g21mu g21T big (areg Try.prog g21mu g21T) 21 [x0, x1] st = g21X (g21C []) g21kr (fun t => [x0, x1].getD t (.tup [])) st := by kernel_rfl
  rw [s21, sealF_eq]
  exact h.trans (g21er _ st)
/-! sinew/share.Route -/
def g18mu : Nat → Bool := fun i => Nat.beq i 44
noncomputable def g18T : Tbl := tget [(21, s21), (24, s24), (31, s31)]
theorem g18t : SimT Try.prog g18T := simT_cons sim21 ( simT_cons sim24 ( simT_cons sim31 (simT_nil)))
noncomputable def s18 : Fn := sealF (fun args st => fg (afn Try.prog g18mu g18T big (areg Try.prog g18mu g18T) 18 args st) st)
theorem sim18 : Sim Try.prog 18 s18 := (afn_sim g18t (fun m => areg_sound g18t hmix m) 18 (by kernel_rfl)).fg.sealed
noncomputable def g18C (p : List Nat) : Code := sub (match Try.f18.body with | some c => c | none => .skip) p
noncomputable def g18X (c : Code) (K : Kon) : Env → St → Res := aexec Try.prog g18mu g18T big 132 (areg Try.prog g18mu g18T 132) c K
noncomputable def g18kr : Kon := aresK Try.prog Try.f18.results.toList
theorem g18reg {c : Code} {K : Kon} {G : Env → St → Res} {id : Nat} {ops : Array Oper} {l1 l2 : List Nat} (hc : c = .region id ops false) (hl : List.range ops.size = l1 ++ l2) (h : (fun env st => aops Try.prog g18mu g18T 132 ops l2 env st (K .normal)) = G) : g18X c K = fun env st => aops Try.prog g18mu g18T 132 ops l1 env st G := reg_cut hc hl h
theorem g18seq {c x y : Code} {K : Kon} {G : Env → St → Res} (hc : c = .seq x y) (hy : g18X y K = G) : g18X c K = g18X x (kSeq G K) := seq_cut hc hy
theorem g18blk {c x : Code} {K : Kon} {i : Nat} (hc : c = .block i x) : g18X c K = g18X x (kBlk i K) := blk_cut hc
theorem g18loop {c x : Code} {K : Kon} (hc : c = .loop x) : g18X c K = aloop (g18X x) K big := loop_cut hc
theorem g18cond {c x y : Code} {K : Kon} {v : Operand} {F G : Env → St → Res} (hc : c = .cond v x y) (hx : g18X x K = F) (hy : g18X y K = G) : g18X c K = condF v F G := cond_cut hc hx hy
noncomputable def g18k0 : Kon := kSeq (g18X (g18C [1, 1, 1, 1, 1, 1, 1, 1]) (g18kr)) (g18kr)
noncomputable def g18k1 : Kon := kBlk 4 (g18k0)
noncomputable def g18k2 (L1111111010 : V → V → V → V → V → St → Res) : Kon := kSeq (fun env st => L1111111010 (env 9) (env 14) (env 89) (env 90) (env 91) st) (g18k1)
noncomputable def g18k3 (L1111111010 : V → V → V → V → V → St → Res) : Kon := kSeq (g18X (g18C [1, 1, 1, 1, 1, 1, 1, 0, 1, 0, 0, 1, 1, 1]) (g18k2 L1111111010)) (g18k2 L1111111010)
noncomputable def g18k4 (L1111111010 : V → V → V → V → V → St → Res) : Kon := kBlk 5 (g18k3 L1111111010)
noncomputable def g18k5 (L1111111010 : V → V → V → V → V → St → Res) : Kon := kSeq (g18X (g18C [1, 1, 1, 1, 1, 1, 1, 0, 1, 0, 0, 1, 1, 0, 0, 1, 1, 1]) (g18k4 L1111111010)) (g18k4 L1111111010)
noncomputable def g18k6 (L1111111010 : V → V → V → V → V → St → Res) : Kon := kBlk 6 (g18k5 L1111111010)
noncomputable def g18k7 (L1111111010 : V → V → V → V → V → St → Res) (L11111110100110011010 : V → V → V → V → V → V → V → V → V → V → St → Res) : Kon := kSeq (fun env st => L11111110100110011010 (env 9) (env 15) (env 16) (env 17) (env 89) (env 90) (env 91) (env 96) (env 97) (env 98) st) (g18k6 L1111111010)
noncomputable def g18k8 (L1111111010 : V → V → V → V → V → St → Res) (L11111110100110011010 : V → V → V → V → V → V → V → V → V → V → St → Res) : Kon := kSeq (g18X (g18C [1, 1, 1, 1, 1, 1, 1, 0, 1, 0, 0, 1, 1, 0, 0, 1, 1, 0, 1, 0, 0, 1, 1, 1]) (g18k7 L1111111010 L11111110100110011010)) (g18k7 L1111111010 L11111110100110011010)
noncomputable def g18k9 (L1111111010 : V → V → V → V → V → St → Res) (L11111110100110011010 : V → V → V → V → V → V → V → V → V → V → St → Res) : Kon := kBlk 7 (g18k8 L1111111010 L11111110100110011010)
noncomputable def g18k10 (L1111111010 : V → V → V → V → V → St → Res) (L11111110100110011010 : V → V → V → V → V → V → V → V → V → V → St → Res) : Kon := kBlk 8 (g18k9 L1111111010 L11111110100110011010)
noncomputable def g18k11 (L1111111010 : V → V → V → V → V → St → Res) (L11111110100110011010 : V → V → V → V → V → V → V → V → V → V → St → Res) (L1111111010011001101001100110 : V → V → V → V → V → V → V → V → V → V → V → V → V → St → Res) : Kon := kSeq (fun env st => L1111111010011001101001100110 (env 9) (env 15) (env 16) (env 17) (env 19) (env 89) (env 90) (env 91) (env 96) (env 97) (env 98) (env 102) (env 103) st) (g18k10 L1111111010 L11111110100110011010)
noncomputable def g18k12 (L1111111010 : V → V → V → V → V → St → Res) (L11111110100110011010 : V → V → V → V → V → V → V → V → V → V → St → Res) (L1111111010011001101001100110 : V → V → V → V → V → V → V → V → V → V → V → V → V → St → Res) : Kon := kSeq (g18X (g18C [1, 1, 1, 1, 1, 1, 1, 0, 1, 0, 0, 1, 1, 0, 0, 1, 1, 0, 1, 0, 0, 1, 1, 0, 0, 1, 1, 0, 0, 1, 1, 1]) (g18k11 L1111111010 L11111110100110011010 L1111111010011001101001100110)) (g18k11 L1111111010 L11111110100110011010 L1111111010011001101001100110)
noncomputable def g18k13 (L1111111010 : V → V → V → V → V → St → Res) (L11111110100110011010 : V → V → V → V → V → V → V → V → V → V → St → Res) (L1111111010011001101001100110 : V → V → V → V → V → V → V → V → V → V → V → V → V → St → Res) : Kon := kBlk 9 (g18k12 L1111111010 L11111110100110011010 L1111111010011001101001100110)
noncomputable def g18b11111110100110011010011001100110011 (L1111111010 : V → V → V → V → V → St → Res) (L11111110100110011010 : V → V → V → V → V → V → V → V → V → V → St → Res) (L1111111010011001101001100110 : V → V → V → V → V → V → V → V → V → V → V → V → V → St → Res) (x9 : V) (x15 : V) (x16 : V) (x17 : V) (x19 : V) (x20 : V) (x89 : V) (x90 : V) (x91 : V) (x96 : V) (x97 : V) (x98 : V) (x102 : V) (x103 : V) (x118 : V) (st : St) : Res :=
 A.cond x118
 (A.bin .mul x19 x16 fun a1 =>
 A.bin .add a1 x20 fun a2 =>
 A.bslice 1 (.int .i64 0) 1 [(0, a2)] fun a3 =>
 A.app 1 x17 (elemsOf 5 1 a3 st) st fun a4 z5 =>
 A.bin .add x103 (.int .i64 1) fun a6 =>
 L1111111010011001101001100110 x9 x15 x16 a4 x19 x89 x90 x91 x96 x97 x98 x102 a6 z5)
 (A.bin .add x103 (.int .i64 1) fun a7 =>
 L1111111010011001101001100110 x9 x15 x16 x17 x19 x89 x90 x91 x96 x97 x98 x102 a7 st)
theorem g18e11111110100110011010011001100110011 (L1111111010 : V → V → V → V → V → St → Res) (L11111110100110011010 : V → V → V → V → V → V → V → V → V → V → St → Res) (L1111111010011001101001100110 : V → V → V → V → V → V → V → V → V → V → V → V → V → St → Res) : g18X (g18C [1, 1, 1, 1, 1, 1, 1, 0, 1, 0, 0, 1, 1, 0, 0, 1, 1, 0, 1, 0, 0, 1, 1, 0, 0, 1, 1, 0, 0, 1, 1, 0, 0, 1, 1]) (g18k13 L1111111010 L11111110100110011010 L1111111010011001101001100110) = fun env st => g18b11111110100110011010011001100110011 L1111111010 L11111110100110011010 L1111111010011001101001100110 (env 9) (env 15) (env 16) (env 17) (env 19) (env 20) (env 89) (env 90) (env 91) (env 96) (env 97) (env 98) (env 102) (env 103) (env 118) st := by
  refine Eq.trans (Eq.refl (g18X (g18C [1, 1, 1, 1, 1, 1, 1, 0, 1, 0, 0, 1, 1, 0, 0, 1, 1, 0, 1, 0, 0, 1, 1, 0, 0, 1, 1, 0, 0, 1, 1, 0, 0, 1, 1]) (g18k13 L1111111010 L11111110100110011010 L1111111010011001101001100110))) ?_
  funext env st
  kernel_rfl
noncomputable def g18b1111111010011001101001100110 (L1111111010 : V → V → V → V → V → St → Res) (L11111110100110011010 : V → V → V → V → V → V → V → V → V → V → St → Res) : Nat → V → V → V → V → V → V → V → V → V → V → V → V → V → St → Res
| 0, _, _, _, _, _, _, _, _, _, _, _, _, _, _ => none
| n + 1, x9, x15, x16, x17, x19, x89, x90, x91, x96, x97, x98, x102, x103, st =>
 A.bin .lss x103 x102 fun a1 =>
 A.cond a1
 (A.iaddr 1 x9 x15 fun a2 =>
 A.load false 1 a2 st fun a3 z4 =>
 A.bin .lss a3 (.int .i64 0) fun a5 =>
 A.guard a5 false
 (A.iaddr 1 x9 x15 fun a6 =>
 A.load false 1 a6 z4 fun a7 z8 =>
 A.eql 2 false a7 x103 fun a9 =>
 g18b11111110100110011010011001100110011 L1111111010 L11111110100110011010 (g18b1111111010011001101001100110 L1111111010 L11111110100110011010 n) x9 x15 x16 x17 x19 x103 x89 x90 x91 x96 x97 x98 x102 x103 a9 z8)
 (g18b11111110100110011010011001100110011 L1111111010 L11111110100110011010 (g18b1111111010011001101001100110 L1111111010 L11111110100110011010 n) x9 x15 x16 x17 x19 x103 x89 x90 x91 x96 x97 x98 x102 x103 (.bool true) z4))
 (A.bin .add x98 (.int .i64 1) fun a10 =>
 L11111110100110011010 x9 x15 x16 x17 x89 x90 x91 x96 x97 a10 st)
theorem g18n1111111010011001101001100110 : g18C [1, 1, 1, 1, 1, 1, 1, 0, 1, 0, 0, 1, 1, 0, 0, 1, 1, 0, 1, 0, 0, 1, 1, 0, 0, 1, 1, 0] = .loop (g18C [1, 1, 1, 1, 1, 1, 1, 0, 1, 0, 0, 1, 1, 0, 0, 1, 1, 0, 1, 0, 0, 1, 1, 0, 0, 1, 1, 0, 0]) := by kernel_rfl
theorem g18n11111110100110011010011001100 : g18C [1, 1, 1, 1, 1, 1, 1, 0, 1, 0, 0, 1, 1, 0, 0, 1, 1, 0, 1, 0, 0, 1, 1, 0, 0, 1, 1, 0, 0] = .seq (g18C [1, 1, 1, 1, 1, 1, 1, 0, 1, 0, 0, 1, 1, 0, 0, 1, 1, 0, 1, 0, 0, 1, 1, 0, 0, 1, 1, 0, 0, 0]) (g18C [1, 1, 1, 1, 1, 1, 1, 0, 1, 0, 0, 1, 1, 0, 0, 1, 1, 0, 1, 0, 0, 1, 1, 0, 0, 1, 1, 0, 0, 1]) := by kernel_rfl
theorem g18n111111101001100110100110011001 : g18C [1, 1, 1, 1, 1, 1, 1, 0, 1, 0, 0, 1, 1, 0, 0, 1, 1, 0, 1, 0, 0, 1, 1, 0, 0, 1, 1, 0, 0, 1] = .seq (g18C [1, 1, 1, 1, 1, 1, 1, 0, 1, 0, 0, 1, 1, 0, 0, 1, 1, 0, 1, 0, 0, 1, 1, 0, 0, 1, 1, 0, 0, 1, 0]) (g18C [1, 1, 1, 1, 1, 1, 1, 0, 1, 0, 0, 1, 1, 0, 0, 1, 1, 0, 1, 0, 0, 1, 1, 0, 0, 1, 1, 0, 0, 1, 1]) := by kernel_rfl
theorem g18n1111111010011001101001100110011 : g18C [1, 1, 1, 1, 1, 1, 1, 0, 1, 0, 0, 1, 1, 0, 0, 1, 1, 0, 1, 0, 0, 1, 1, 0, 0, 1, 1, 0, 0, 1, 1] = .seq (g18C [1, 1, 1, 1, 1, 1, 1, 0, 1, 0, 0, 1, 1, 0, 0, 1, 1, 0, 1, 0, 0, 1, 1, 0, 0, 1, 1, 0, 0, 1, 1, 0]) (g18C [1, 1, 1, 1, 1, 1, 1, 0, 1, 0, 0, 1, 1, 0, 0, 1, 1, 0, 1, 0, 0, 1, 1, 0, 0, 1, 1, 0, 0, 1, 1, 1]) := by kernel_rfl
theorem g18n11111110100110011010011001100110 : g18C [1, 1, 1, 1, 1, 1, 1, 0, 1, 0, 0, 1, 1, 0, 0, 1, 1, 0, 1, 0, 0, 1, 1, 0, 0, 1, 1, 0, 0, 1, 1, 0] = .block 9 (g18C [1, 1, 1, 1, 1, 1, 1, 0, 1, 0, 0, 1, 1, 0, 0, 1, 1, 0, 1, 0, 0, 1, 1, 0, 0, 1, 1, 0, 0, 1, 1, 0, 0]) := by kernel_rfl
theorem g18n111111101001100110100110011001100 : g18C [1, 1, 1, 1, 1, 1, 1, 0, 1, 0, 0, 1, 1, 0, 0, 1, 1, 0, 1, 0, 0, 1, 1, 0, 0, 1, 1, 0, 0, 1, 1, 0, 0] = .seq (g18C [1, 1, 1, 1, 1, 1, 1, 0, 1, 0, 0, 1, 1, 0, 0, 1, 1, 0, 1, 0, 0, 1, 1, 0, 0, 1, 1, 0, 0, 1, 1, 0, 0, 0]) (g18C [1, 1, 1, 1, 1, 1, 1, 0, 1, 0, 0, 1, 1, 0, 0, 1, 1, 0, 1, 0, 0, 1, 1, 0, 0, 1, 1, 0, 0, 1, 1, 0, 0, 1]) := by kernel_rfl
theorem g18n1111111010011001101001100110011001 : g18C [1, 1, 1, 1, 1, 1, 1, 0, 1, 0, 0, 1, 1, 0, 0, 1, 1, 0, 1, 0, 0, 1, 1, 0, 0, 1, 1, 0, 0, 1, 1, 0, 0, 1] = .seq (g18C [1, 1, 1, 1, 1, 1, 1, 0, 1, 0, 0, 1, 1, 0, 0, 1, 1, 0, 1, 0, 0, 1, 1, 0, 0, 1, 1, 0, 0, 1, 1, 0, 0, 1, 0]) (g18C [1, 1, 1, 1, 1, 1, 1, 0, 1, 0, 0, 1, 1, 0, 0, 1, 1, 0, 1, 0, 0, 1, 1, 0, 0, 1, 1, 0, 0, 1, 1, 0, 0, 1, 1]) := by kernel_rfl
theorem g18e1111111010011001101001100110 (L1111111010 : V → V → V → V → V → St → Res) (L11111110100110011010 : V → V → V → V → V → V → V → V → V → V → St → Res) : g18X (g18C [1, 1, 1, 1, 1, 1, 1, 0, 1, 0, 0, 1, 1, 0, 0, 1, 1, 0, 1, 0, 0, 1, 1, 0, 0, 1, 1, 0]) (g18k10 L1111111010 L11111110100110011010) = fun env st => g18b1111111010011001101001100110 L1111111010 L11111110100110011010 big (env 9) (env 15) (env 16) (env 17) (env 19) (env 89) (env 90) (env 91) (env 96) (env 97) (env 98) (env 102) (env 103) st := by
  have key : ∀ n, aloop (g18X (g18C [1, 1, 1, 1, 1, 1, 1, 0, 1, 0, 0, 1, 1, 0, 0, 1, 1, 0, 1, 0, 0, 1, 1, 0, 0, 1, 1, 0, 0])) (g18k10 L1111111010 L11111110100110011010) n = fun env st => g18b1111111010011001101001100110 L1111111010 L11111110100110011010 n (env 9) (env 15) (env 16) (env 17) (env 19) (env 89) (env 90) (env 91) (env 96) (env 97) (env 98) (env 102) (env 103) st := by
    intro n
    induction n with
    | zero => rfl
    | succ n ih =>
      have h : aloop (g18X (g18C [1, 1, 1, 1, 1, 1, 1, 0, 1, 0, 0, 1, 1, 0, 0, 1, 1, 0, 1, 0, 0, 1, 1, 0, 0, 1, 1, 0, 0])) (g18k10 L1111111010 L11111110100110011010) (n + 1) = g18X (g18C [1, 1, 1, 1, 1, 1, 1, 0, 1, 0, 0, 1, 1, 0, 0, 1, 1, 0, 1, 0, 0, 1, 1, 0, 0, 1, 1, 0, 0]) (kSeq (aloop (g18X (g18C [1, 1, 1, 1, 1, 1, 1, 0, 1, 0, 0, 1, 1, 0, 0, 1, 1, 0, 1, 0, 0, 1, 1, 0, 0, 1, 1, 0, 0])) (g18k10 L1111111010 L11111110100110011010) n) (g18k10 L1111111010 L11111110100110011010)) := rfl
      rw [h, ih]
      refine Eq.trans (g18seq g18n11111110100110011010011001100 (g18seq g18n111111101001100110100110011001 ((g18seq g18n1111111010011001101001100110011 rfl).trans ((g18blk g18n11111110100110011010011001100110).trans (g18seq g18n111111101001100110100110011001100 (g18seq g18n1111111010011001101001100110011001 (g18e11111110100110011010011001100110011 L1111111010 L11111110100110011010 (g18b1111111010011001101001100110 L1111111010 L11111110100110011010 n)))))))) ?_
      funext env st
      kernel_rfl
  exact (g18loop g18n1111111010011001101001100110).trans (key big)
noncomputable def g18b11111110100110011010 (L1111111010 : V → V → V → V → V → St → Res) : Nat → V → V → V → V → V → V → V → V → V → V → St → Res
| 0, _, _, _, _, _, _, _, _, _, _, _ => none
| n + 1, x9, x15, x16, x17, x89, x90, x91, x96, x97, x98, st =>
 A.bin .lss x98 x97 fun a1 =>
 A.cond a1
 (A.iaddr 1 x96 x98 fun a2 =>
 A.load false 1 a2 st fun a3 z4 =>
 g18b1111111010011001101001100110 L1111111010 (g18b11111110100110011010 L1111111010 n) big x9 x15 x16 x17 a3 x89 x90 x91 x96 x97 x98 x16 (.int .i64 0) z4)
 (A.bin .add x91 (.int .i64 1) fun a5 =>
 L1111111010 x9 x17 x89 x90 a5 st)
theorem g18n11111110100110011010 : g18C [1, 1, 1, 1, 1, 1, 1, 0, 1, 0, 0, 1, 1, 0, 0, 1, 1, 0, 1, 0] = .loop (g18C [1, 1, 1, 1, 1, 1, 1, 0, 1, 0, 0, 1, 1, 0, 0, 1, 1, 0, 1, 0, 0]) := by kernel_rfl
theorem g18n111111101001100110100 : g18C [1, 1, 1, 1, 1, 1, 1, 0, 1, 0, 0, 1, 1, 0, 0, 1, 1, 0, 1, 0, 0] = .seq (g18C [1, 1, 1, 1, 1, 1, 1, 0, 1, 0, 0, 1, 1, 0, 0, 1, 1, 0, 1, 0, 0, 0]) (g18C [1, 1, 1, 1, 1, 1, 1, 0, 1, 0, 0, 1, 1, 0, 0, 1, 1, 0, 1, 0, 0, 1]) := by kernel_rfl
theorem g18n1111111010011001101001 : g18C [1, 1, 1, 1, 1, 1, 1, 0, 1, 0, 0, 1, 1, 0, 0, 1, 1, 0, 1, 0, 0, 1] = .seq (g18C [1, 1, 1, 1, 1, 1, 1, 0, 1, 0, 0, 1, 1, 0, 0, 1, 1, 0, 1, 0, 0, 1, 0]) (g18C [1, 1, 1, 1, 1, 1, 1, 0, 1, 0, 0, 1, 1, 0, 0, 1, 1, 0, 1, 0, 0, 1, 1]) := by kernel_rfl
theorem g18n11111110100110011010011 : g18C [1, 1, 1, 1, 1, 1, 1, 0, 1, 0, 0, 1, 1, 0, 0, 1, 1, 0, 1, 0, 0, 1, 1] = .seq (g18C [1, 1, 1, 1, 1, 1, 1, 0, 1, 0, 0, 1, 1, 0, 0, 1, 1, 0, 1, 0, 0, 1, 1, 0]) (g18C [1, 1, 1, 1, 1, 1, 1, 0, 1, 0, 0, 1, 1, 0, 0, 1, 1, 0, 1, 0, 0, 1, 1, 1]) := by kernel_rfl
theorem g18n111111101001100110100110 : g18C [1, 1, 1, 1, 1, 1, 1, 0, 1, 0, 0, 1, 1, 0, 0, 1, 1, 0, 1, 0, 0, 1, 1, 0] = .block 7 (g18C [1, 1, 1, 1, 1, 1, 1, 0, 1, 0, 0, 1, 1, 0, 0, 1, 1, 0, 1, 0, 0, 1, 1, 0, 0]) := by kernel_rfl
theorem g18n1111111010011001101001100 : g18C [1, 1, 1, 1, 1, 1, 1, 0, 1, 0, 0, 1, 1, 0, 0, 1, 1, 0, 1, 0, 0, 1, 1, 0, 0] = .seq (g18C [1, 1, 1, 1, 1, 1, 1, 0, 1, 0, 0, 1, 1, 0, 0, 1, 1, 0, 1, 0, 0, 1, 1, 0, 0, 0]) (g18C [1, 1, 1, 1, 1, 1, 1, 0, 1, 0, 0, 1, 1, 0, 0, 1, 1, 0, 1, 0, 0, 1, 1, 0, 0, 1]) := by kernel_rfl
theorem g18n11111110100110011010011001 : g18C [1, 1, 1, 1, 1, 1, 1, 0, 1, 0, 0, 1, 1, 0, 0, 1, 1, 0, 1, 0, 0, 1, 1, 0, 0, 1] = .seq (g18C [1, 1, 1, 1, 1, 1, 1, 0, 1, 0, 0, 1, 1, 0, 0, 1, 1, 0, 1, 0, 0, 1, 1, 0, 0, 1, 0]) (g18C [1, 1, 1, 1, 1, 1, 1, 0, 1, 0, 0, 1, 1, 0, 0, 1, 1, 0, 1, 0, 0, 1, 1, 0, 0, 1, 1]) := by kernel_rfl
theorem g18n111111101001100110100110011 : g18C [1, 1, 1, 1, 1, 1, 1, 0, 1, 0, 0, 1, 1, 0, 0, 1, 1, 0, 1, 0, 0, 1, 1, 0, 0, 1, 1] = .block 8 (g18C [1, 1, 1, 1, 1, 1, 1, 0, 1, 0, 0, 1, 1, 0, 0, 1, 1, 0, 1, 0, 0, 1, 1, 0, 0, 1, 1, 0]) := by kernel_rfl
theorem g18e11111110100110011010 (L1111111010 : V → V → V → V → V → St → Res) : g18X (g18C [1, 1, 1, 1, 1, 1, 1, 0, 1, 0, 0, 1, 1, 0, 0, 1, 1, 0, 1, 0]) (g18k6 L1111111010) = fun env st => g18b11111110100110011010 L1111111010 big (env 9) (env 15) (env 16) (env 17) (env 89) (env 90) (env 91) (env 96) (env 97) (env 98) st := by
  have key : ∀ n, aloop (g18X (g18C [1, 1, 1, 1, 1, 1, 1, 0, 1, 0, 0, 1, 1, 0, 0, 1, 1, 0, 1, 0, 0])) (g18k6 L1111111010) n = fun env st => g18b11111110100110011010 L1111111010 n (env 9) (env 15) (env 16) (env 17) (env 89) (env 90) (env 91) (env 96) (env 97) (env 98) st := by
    intro n
    induction n with
    | zero => rfl
    | succ n ih =>
      have h : aloop (g18X (g18C [1, 1, 1, 1, 1, 1, 1, 0, 1, 0, 0, 1, 1, 0, 0, 1, 1, 0, 1, 0, 0])) (g18k6 L1111111010) (n + 1) = g18X (g18C [1, 1, 1, 1, 1, 1, 1, 0, 1, 0, 0, 1, 1, 0, 0, 1, 1, 0, 1, 0, 0]) (kSeq (aloop (g18X (g18C [1, 1, 1, 1, 1, 1, 1, 0, 1, 0, 0, 1, 1, 0, 0, 1, 1, 0, 1, 0, 0])) (g18k6 L1111111010) n) (g18k6 L1111111010)) := rfl
      rw [h, ih]
      refine Eq.trans (g18seq g18n111111101001100110100 (g18seq g18n1111111010011001101001 ((g18seq g18n11111110100110011010011 rfl).trans ((g18blk g18n111111101001100110100110).trans (g18seq g18n1111111010011001101001100 (g18seq g18n11111110100110011010011001 ((g18blk g18n111111101001100110100110011).trans (g18e1111111010011001101001100110 L1111111010 (g18b11111110100110011010 L1111111010 n))))))))) ?_
      funext env st
      kernel_rfl
  exact (g18loop g18n11111110100110011010).trans (key big)
noncomputable def g18b1111111010 : Nat → V → V → V → V → V → St → Res
| 0, _, _, _, _, _, _ => none
| n + 1, x9, x14, x89, x90, x91, st =>
 A.bin .lss x91 x90 fun a1 =>
 A.cond a1
 (A.iaddr 1 x89 x91 fun a2 =>
 A.load false 1 a2 st fun a3 z4 =>
 A.lenL x14 fun a5 =>
 g18b11111110100110011010 (g18b1111111010 n) big x9 x91 a3 (.lst [] 1) x89 x90 x91 x14 a5 (.int .i64 0) z4)
 (some (.ret (.tup [x14.er1, ((.int .i64 0) : V).er1]), st))
theorem g18n1111111010 : g18C [1, 1, 1, 1, 1, 1, 1, 0, 1, 0] = .loop (g18C [1, 1, 1, 1, 1, 1, 1, 0, 1, 0, 0]) := by kernel_rfl
theorem g18n11111110100 : g18C [1, 1, 1, 1, 1, 1, 1, 0, 1, 0, 0] = .seq (g18C [1, 1, 1, 1, 1, 1, 1, 0, 1, 0, 0, 0]) (g18C [1, 1, 1, 1, 1, 1, 1, 0, 1, 0, 0, 1]) := by kernel_rfl
theorem g18n111111101001 : g18C [1, 1, 1, 1, 1, 1, 1, 0, 1, 0, 0, 1] = .seq (g18C [1, 1, 1, 1, 1, 1, 1, 0, 1, 0, 0, 1, 0]) (g18C [1, 1, 1, 1, 1, 1, 1, 0, 1, 0, 0, 1, 1]) := by kernel_rfl
theorem g18n1111111010011 : g18C [1, 1, 1, 1, 1, 1, 1, 0, 1, 0, 0, 1, 1] = .seq (g18C [1, 1, 1, 1, 1, 1, 1, 0, 1, 0, 0, 1, 1, 0]) (g18C [1, 1, 1, 1, 1, 1, 1, 0, 1, 0, 0, 1, 1, 1]) := by kernel_rfl
theorem g18n11111110100110 : g18C [1, 1, 1, 1, 1, 1, 1, 0, 1, 0, 0, 1, 1, 0] = .block 5 (g18C [1, 1, 1, 1, 1, 1, 1, 0, 1, 0, 0, 1, 1, 0, 0]) := by kernel_rfl
theorem g18n111111101001100 : g18C [1, 1, 1, 1, 1, 1, 1, 0, 1, 0, 0, 1, 1, 0, 0] = .seq (g18C [1, 1, 1, 1, 1, 1, 1, 0, 1, 0, 0, 1, 1, 0, 0, 0]) (g18C [1, 1, 1, 1, 1, 1, 1, 0, 1, 0, 0, 1, 1, 0, 0, 1]) := by kernel_rfl
theorem g18n1111111010011001 : g18C [1, 1, 1, 1, 1, 1, 1, 0, 1, 0, 0, 1, 1, 0, 0, 1] = .seq (g18C [1, 1, 1, 1, 1, 1, 1, 0, 1, 0, 0, 1, 1, 0, 0, 1, 0]) (g18C [1, 1, 1, 1, 1, 1, 1, 0, 1, 0, 0, 1, 1, 0, 0, 1, 1]) := by kernel_rfl
theorem g18n11111110100110011 : g18C [1, 1, 1, 1, 1, 1, 1, 0, 1, 0, 0, 1, 1, 0, 0, 1, 1] = .seq (g18C [1, 1, 1, 1, 1, 1, 1, 0, 1, 0, 0, 1, 1, 0, 0, 1, 1, 0]) (g18C [1, 1, 1, 1, 1, 1, 1, 0, 1, 0, 0, 1, 1, 0, 0, 1, 1, 1]) := by kernel_rfl
theorem g18n111111101001100110 : g18C [1, 1, 1, 1, 1, 1, 1, 0, 1, 0, 0, 1, 1, 0, 0, 1, 1, 0] = .seq (g18C [1, 1, 1, 1, 1, 1, 1, 0, 1, 0, 0, 1, 1, 0, 0, 1, 1, 0, 0]) (g18C [1, 1, 1, 1, 1, 1, 1, 0, 1, 0, 0, 1, 1, 0, 0, 1, 1, 0, 1]) := by kernel_rfl
theorem g18n1111111010011001101 : g18C [1, 1, 1, 1, 1, 1, 1, 0, 1, 0, 0, 1, 1, 0, 0, 1, 1, 0, 1] = .block 6 (g18C [1, 1, 1, 1, 1, 1, 1, 0, 1, 0, 0, 1, 1, 0, 0, 1, 1, 0, 1, 0]) := by kernel_rfl
theorem g18e1111111010 : g18X (g18C [1, 1, 1, 1, 1, 1, 1, 0, 1, 0]) (g18k1) = fun env st => g18b1111111010 big (env 9) (env 14) (env 89) (env 90) (env 91) st := by
  have key : ∀ n, aloop (g18X (g18C [1, 1, 1, 1, 1, 1, 1, 0, 1, 0, 0])) (g18k1) n = fun env st => g18b1111111010 n (env 9) (env 14) (env 89) (env 90) (env 91) st := by
    intro n
    induction n with
    | zero => rfl
    | succ n ih =>
      have h : aloop (g18X (g18C [1, 1, 1, 1, 1, 1, 1, 0, 1, 0, 0])) (g18k1) (n + 1) = g18X (g18C [1, 1, 1, 1, 1, 1, 1, 0, 1, 0, 0]) (kSeq (aloop (g18X (g18C [1, 1, 1, 1, 1, 1, 1, 0, 1, 0, 0])) (g18k1) n) (g18k1)) := rfl
      rw [h, ih]
      refine Eq.trans (g18seq g18n11111110100 (g18seq g18n111111101001 ((g18seq g18n1111111010011 rfl).trans ((g18blk g18n11111110100110).trans (g18seq g18n111111101001100 (g18seq g18n1111111010011001 ((g18seq g18n11111110100110011 rfl).trans (g18seq g18n111111101001100110 ((g18blk g18n1111111010011001101).trans (g18e11111110100110011010 (g18b1111111010 n))))))))))) ?_
      funext env st
      kernel_rfl
  exact (g18loop g18n1111111010).trans (key big)
noncomputable def g18b111111 (x3 : V) (x9 : V) (st : St) : Res :=
 A.bslice 1 (.int .i64 0) 1 [(0, (.int .i64 0))] fun a1 =>
 A.load false 1 x3 st fun a2 z3 =>
 A.lenL a2 fun a4 =>
 g18b1111111010 big x9 a1 a2 a4 (.int .i64 0) z3
theorem g18n111111 : g18C [1, 1, 1, 1, 1, 1] = .seq (g18C [1, 1, 1, 1, 1, 1, 0]) (g18C [1, 1, 1, 1, 1, 1, 1]) := by kernel_rfl
theorem g18n1111111 : g18C [1, 1, 1, 1, 1, 1, 1] = .seq (g18C [1, 1, 1, 1, 1, 1, 1, 0]) (g18C [1, 1, 1, 1, 1, 1, 1, 1]) := by kernel_rfl
theorem g18n11111110 : g18C [1, 1, 1, 1, 1, 1, 1, 0] = .seq (g18C [1, 1, 1, 1, 1, 1, 1, 0, 0]) (g18C [1, 1, 1, 1, 1, 1, 1, 0, 1]) := by kernel_rfl
theorem g18n111111101 : g18C [1, 1, 1, 1, 1, 1, 1, 0, 1] = .block 4 (g18C [1, 1, 1, 1, 1, 1, 1, 0, 1, 0]) := by kernel_rfl
theorem g18e111111 : g18X (g18C [1, 1, 1, 1, 1, 1]) (g18kr) = fun env st => g18b111111 (env 3) (env 9) st := by
  refine Eq.trans (g18seq g18n111111 ((g18seq g18n1111111 rfl).trans (g18seq g18n11111110 ((g18blk g18n111111101).trans (g18e1111111010))))) ?_
  funext env st
  kernel_rfl
noncomputable def g18k14 : Kon := kSeq (fun env st => g18b111111 (env 3) (env 9) st) (g18kr)
noncomputable def g18k15 : Kon := kBlk 2 (g18k14)
noncomputable def g18k16 (L11111010 : V → V → V → V → V → V → St → Res) : Kon := kSeq (fun env st => L11111010 (env 2) (env 3) (env 9) (env 54) (env 55) (env 56) st) (g18k15)
noncomputable def g18k17 (L11111010 : V → V → V → V → V → V → St → Res) : Kon := kSeq (g18X (g18C [1, 1, 1, 1, 1, 0, 1, 0, 0, 1, 1, 1]) (g18k16 L11111010)) (g18k16 L11111010)
noncomputable def g18k18 (L11111010 : V → V → V → V → V → V → St → Res) : Kon := kBlk 3 (g18k17 L11111010)
noncomputable def g18b1111101001100111 (L11111010 : V → V → V → V → V → V → St → Res) (x2 : V) (x3 : V) (x9 : V) (x12 : V) (x13 : V) (x54 : V) (x55 : V) (x56 : V) (st : St) : Res :=
 A.iaddr 1 x9 x12 fun a1 =>
 A.store 1 a1 x13 st fun z2 =>
 A.bin .add x56 (.int .i64 1) fun a3 =>
 L11111010 x2 x3 x9 x54 x55 a3 z2
theorem g18e1111101001100111 (L11111010 : V → V → V → V → V → V → St → Res) : g18X (g18C [1, 1, 1, 1, 1, 0, 1, 0, 0, 1, 1, 0, 0, 1, 1, 1]) (g18k18 L11111010) = fun env st => g18b1111101001100111 L11111010 (env 2) (env 3) (env 9) (env 12) (env 13) (env 54) (env 55) (env 56) st := by
  refine Eq.trans (Eq.refl (g18X (g18C [1, 1, 1, 1, 1, 0, 1, 0, 0, 1, 1, 0, 0, 1, 1, 1]) (g18k18 L11111010))) ?_
  funext env st
  kernel_rfl
noncomputable def g18b111110100110011 (L11111010 : V → V → V → V → V → V → St → Res) (x2 : V) (x3 : V) (x9 : V) (x12 : V) (x13 : V) (x54 : V) (x55 : V) (x56 : V) (st : St) : Res :=
 A.iaddr 1 x9 x12 fun a1 =>
 A.load false 1 a1 st fun a2 z3 =>
 A.bin .geq a2 (.int .i64 0) fun a4 =>
 A.guard a4 true
 (A.iaddr 1 x9 x12 fun a5 =>
 A.load false 1 a5 z3 fun a6 z7 =>
 A.eql 2 true a6 x13 fun a8 =>
 A.cond a8
 (some (.ret (.tup [((.lst [] 1) : V).er1, ((.int .i64 0) : V).er1]), z7))
 (g18b1111101001100111 L11111010 x2 x3 x9 x12 x13 x54 x55 x56 z7))
 (g18b1111101001100111 L11111010 x2 x3 x9 x12 x13 x54 x55 x56 z3)
theorem g18n111110100110011 : g18C [1, 1, 1, 1, 1, 0, 1, 0, 0, 1, 1, 0, 0, 1, 1] = .seq (g18C [1, 1, 1, 1, 1, 0, 1, 0, 0, 1, 1, 0, 0, 1, 1, 0]) (g18C [1, 1, 1, 1, 1, 0, 1, 0, 0, 1, 1, 0, 0, 1, 1, 1]) := by kernel_rfl
theorem g18e111110100110011 (L11111010 : V → V → V → V → V → V → St → Res) : g18X (g18C [1, 1, 1, 1, 1, 0, 1, 0, 0, 1, 1, 0, 0, 1, 1]) (g18k18 L11111010) = fun env st => g18b111110100110011 L11111010 (env 2) (env 3) (env 9) (env 12) (env 13) (env 54) (env 55) (env 56) st := by
  refine Eq.trans (g18seq g18n111110100110011 (g18e1111101001100111 L11111010)) ?_
  funext env st
  kernel_rfl
noncomputable def g18b11111010 : Nat → V → V → V → V → V → V → St → Res
| 0, _, _, _, _, _, _, _ => none
| n + 1, x2, x3, x9, x54, x55, x56, st =>
 A.bin .lss x56 x55 fun a1 =>
 A.cond a1
 (A.iaddr 1 x54 x56 fun a2 =>
 A.load false 1 a2 st fun a3 z4 =>
 A.iaddr 1 x2 x56 fun a5 =>
 A.load false 1 a5 z4 fun a6 _ =>
 A.load false 1 x3 z4 fun a7 _ =>
 A.iaddr 1 a7 a3 fun a8 =>
 A.load false 1 a8 z4 fun a9 _ =>
 A.noP (A.ret (s21 [a6.er1, a9.er1] z4) kid) fun a10 z11 =>
 g18b111110100110011 (g18b11111010 n) x2 x3 x9 a3 a10 x54 x55 x56 z11)
 (g18b111111 x3 x9 st)
theorem g18n11111010 : g18C [1, 1, 1, 1, 1, 0, 1, 0] = .loop (g18C [1, 1, 1, 1, 1, 0, 1, 0, 0]) := by kernel_rfl
theorem g18n111110100 : g18C [1, 1, 1, 1, 1, 0, 1, 0, 0] = .seq (g18C [1, 1, 1, 1, 1, 0, 1, 0, 0, 0]) (g18C [1, 1, 1, 1, 1, 0, 1, 0, 0, 1]) := by kernel_rfl
theorem g18n1111101001 : g18C [1, 1, 1, 1, 1, 0, 1, 0, 0, 1] = .seq (g18C [1, 1, 1, 1, 1, 0, 1, 0, 0, 1, 0]) (g18C [1, 1, 1, 1, 1, 0, 1, 0, 0, 1, 1]) := by kernel_rfl
theorem g18n11111010011 : g18C [1, 1, 1, 1, 1, 0, 1, 0, 0, 1, 1] = .seq (g18C [1, 1, 1, 1, 1, 0, 1, 0, 0, 1, 1, 0]) (g18C [1, 1, 1, 1, 1, 0, 1, 0, 0, 1, 1, 1]) := by kernel_rfl
theorem g18n111110100110 : g18C [1, 1, 1, 1, 1, 0, 1, 0, 0, 1, 1, 0] = .block 3 (g18C [1, 1, 1, 1, 1, 0, 1, 0, 0, 1, 1, 0, 0]) := by kernel_rfl
theorem g18n1111101001100 : g18C [1, 1, 1, 1, 1, 0, 1, 0, 0, 1, 1, 0, 0] = .seq (g18C [1, 1, 1, 1, 1, 0, 1, 0, 0, 1, 1, 0, 0, 0]) (g18C [1, 1, 1, 1, 1, 0, 1, 0, 0, 1, 1, 0, 0, 1]) := by kernel_rfl
theorem g18n11111010011001 : g18C [1, 1, 1, 1, 1, 0, 1, 0, 0, 1, 1, 0, 0, 1] = .seq (g18C [1, 1, 1, 1, 1, 0, 1, 0, 0, 1, 1, 0, 0, 1, 0]) (g18C [1, 1, 1, 1, 1, 0, 1, 0, 0, 1, 1, 0, 0, 1, 1]) := by kernel_rfl
theorem g18e11111010 : g18X (g18C [1, 1, 1, 1, 1, 0, 1, 0]) (g18k15) = fun env st => g18b11111010 big (env 2) (env 3) (env 9) (env 54) (env 55) (env 56) st := by
  have key : ∀ n, aloop (g18X (g18C [1, 1, 1, 1, 1, 0, 1, 0, 0])) (g18k15) n = fun env st => g18b11111010 n (env 2) (env 3) (env 9) (env 54) (env 55) (env 56) st := by
    intro n
    induction n with
    | zero => rfl
    | succ n ih =>
      have h : aloop (g18X (g18C [1, 1, 1, 1, 1, 0, 1, 0, 0])) (g18k15) (n + 1) = g18X (g18C [1, 1, 1, 1, 1, 0, 1, 0, 0]) (kSeq (aloop (g18X (g18C [1, 1, 1, 1, 1, 0, 1, 0, 0])) (g18k15) n) (g18k15)) := rfl
      rw [h, ih]
      refine Eq.trans (g18seq g18n111110100 (g18seq g18n1111101001 ((g18seq g18n11111010011 rfl).trans ((g18blk g18n111110100110).trans (g18seq g18n1111101001100 (g18seq g18n11111010011001 (g18e111110100110011 (g18b11111010 n)))))))) ?_
      funext env st
      kernel_rfl
  exact (g18loop g18n11111010).trans (key big)
noncomputable def g18b11111 (x1 : V) (x2 : V) (x3 : V) (x9 : V) (st : St) : Res :=
 A.lenL x1 fun a1 =>
 g18b11111010 big x2 x3 x9 x1 a1 (.int .i64 0) st
theorem g18n11111 : g18C [1, 1, 1, 1, 1] = .seq (g18C [1, 1, 1, 1, 1, 0]) (g18C [1, 1, 1, 1, 1, 1]) := by kernel_rfl
theorem g18n111110 : g18C [1, 1, 1, 1, 1, 0] = .seq (g18C [1, 1, 1, 1, 1, 0, 0]) (g18C [1, 1, 1, 1, 1, 0, 1]) := by kernel_rfl
theorem g18n1111101 : g18C [1, 1, 1, 1, 1, 0, 1] = .block 2 (g18C [1, 1, 1, 1, 1, 0, 1, 0]) := by kernel_rfl
theorem g18e11111 : g18X (g18C [1, 1, 1, 1, 1]) (g18kr) = fun env st => g18b11111 (env 1) (env 2) (env 3) (env 9) st := by
  refine Eq.trans ((g18seq g18n11111 (g18e111111)).trans (g18seq g18n111110 ((g18blk g18n1111101).trans (g18e11111010)))) ?_
  funext env st
  kernel_rfl
noncomputable def g18k19 : Kon := kSeq (fun env st => g18b11111 (env 1) (env 2) (env 3) (env 9) st) (g18kr)
noncomputable def g18k20 : Kon := kBlk 0 (g18k19)
noncomputable def g18b1111010 : Nat → V → V → V → V → V → V → St → Res
| 0, _, _, _, _, _, _, _ => none
| n + 1, x1, x2, x3, x9, x46, x47, st =>
 A.bin .lss x47 x46 fun a1 =>
 A.cond a1
 (A.iaddr 1 x9 x47 fun a2 =>
 A.store 1 a2 (.int .i64 (-1)) st fun z3 =>
 A.bin .add x47 (.int .i64 1) fun a4 =>
 (g18b1111010 n) x1 x2 x3 x9 x46 a4 z3)
 (g18b11111 x1 x2 x3 x9 st)
theorem g18n1111010 : g18C [1, 1, 1, 1, 0, 1, 0] = .loop (g18C [1, 1, 1, 1, 0, 1, 0, 0]) := by kernel_rfl
noncomputable def g18k21 (L1111010 : V → V → V → V → V → V → St → Res) : Kon := kSeq (fun env st => L1111010 (env 1) (env 2) (env 3) (env 9) (env 46) (env 47) st) (g18k20)
theorem g18e1111010 : g18X (g18C [1, 1, 1, 1, 0, 1, 0]) (g18k20) = fun env st => g18b1111010 big (env 1) (env 2) (env 3) (env 9) (env 46) (env 47) st := by
  have key : ∀ n, aloop (g18X (g18C [1, 1, 1, 1, 0, 1, 0, 0])) (g18k20) n = fun env st => g18b1111010 n (env 1) (env 2) (env 3) (env 9) (env 46) (env 47) st := by
    intro n
    induction n with
    | zero => rfl
    | succ n ih =>
      have h : aloop (g18X (g18C [1, 1, 1, 1, 0, 1, 0, 0])) (g18k20) (n + 1) = g18X (g18C [1, 1, 1, 1, 0, 1, 0, 0]) (kSeq (aloop (g18X (g18C [1, 1, 1, 1, 0, 1, 0, 0])) (g18k20) n) (g18k20)) := rfl
      rw [h, ih]
      refine Eq.trans (Eq.refl _) ?_
      funext env st
      kernel_rfl
  exact (g18loop g18n1111010).trans (key big)
noncomputable def g18b111 (x1 : V) (x2 : V) (x3 : V) (st : St) : Res :=
 A.load false 1 x3 st fun a1 z2 =>
 A.lenL a1 fun a3 =>
 A.mkslM 1 8 (.int .i64 0) a3 a3 z2 fun a4 z5 =>
 A.lenL a4 fun a6 =>
 g18b1111010 big x1 x2 x3 a4 a6 (.int .i64 0) z5
theorem g18n111 : g18C [1, 1, 1] = .seq (g18C [1, 1, 1, 0]) (g18C [1, 1, 1, 1]) := by kernel_rfl
theorem g18n1111 : g18C [1, 1, 1, 1] = .seq (g18C [1, 1, 1, 1, 0]) (g18C [1, 1, 1, 1, 1]) := by kernel_rfl
theorem g18n11110 : g18C [1, 1, 1, 1, 0] = .seq (g18C [1, 1, 1, 1, 0, 0]) (g18C [1, 1, 1, 1, 0, 1]) := by kernel_rfl
theorem g18n111101 : g18C [1, 1, 1, 1, 0, 1] = .block 0 (g18C [1, 1, 1, 1, 0, 1, 0]) := by kernel_rfl
theorem g18e111 : g18X (g18C [1, 1, 1]) (g18kr) = fun env st => g18b111 (env 1) (env 2) (env 3) st := by
  refine Eq.trans (g18seq g18n111 ((g18seq g18n1111 (g18e11111)).trans (g18seq g18n11110 ((g18blk g18n111101).trans (g18e1111010))))) ?_
  funext env st
  kernel_rfl
noncomputable def g18k22 : Kon := kSeq (fun env st => g18b111 (env 1) (env 2) (env 3) st) (g18kr)
noncomputable def g18k23 : Kon := kSeq (g18X (g18C [1, 1, 0, 1]) (g18k22)) (g18k22)
noncomputable def g18b1100_11 (x1 : V) (x2 : V) (x3 : V) (x8 : V) (x32 : V) (st : St) : Res :=
 A.guard x32 false
 (A.lenL x1 fun a1 =>
 A.bin .gtr a1 (.int .i64 16) fun a2 =>
 A.guard a2 false
 (A.ret (s24 [x1.er1, x8.er1] st) fun a3 z4 =>
 A.cond a3
 (some (.ret (.tup [((.lst [] 1) : V).er1, ((.int .i64 1) : V).er1]), z4))
 (g18b111 x1 x2 x3 z4))
 (some (.ret (.tup [((.lst [] 1) : V).er1, ((.int .i64 1) : V).er1]), st)))
 (some (.ret (.tup [((.lst [] 1) : V).er1, ((.int .i64 1) : V).er1]), st))
theorem g18e1100_11 : (fun env st => aops Try.prog g18mu g18T 132 (rops (g18C [1, 1, 0, 0])) [11, 12, 13, 14, 15, 16, 17, 18, 19] env st ((g18k23) .normal)) = fun env st => g18b1100_11 (env 1) (env 2) (env 3) (env 8) (env 32) st := by
  refine Eq.trans (Eq.refl _) ?_
  funext env st
  kernel_rfl
noncomputable def f18 (x0 : V) (x1 : V) (x2 : V) (st : St) : Res :=
 A.box x0 st fun a1 z2 =>
 A.load false 1 a1 z2 fun a3 z4 =>
 A.ret (s31 [a3.er1] z4) fun a5 z6 =>
 A.un .not a5 fun a7 =>
 A.guard a7 false
 (A.lenL x1 fun a8 =>
 A.lenL x2 fun a9 =>
 A.eql 2 true a8 a9 fun a10 =>
 g18b1100_11 x1 x2 a1 (.fn 33 [] [a1]) a10 z6)
 (g18b1100_11 x1 x2 a1 (.fn 33 [] [a1]) (.bool true) z6)
theorem g18nr : g18C [] = .seq (g18C [0]) (g18C [1]) := by kernel_rfl
theorem g18n1 : g18C [1] = .seq (g18C [1, 0]) (g18C [1, 1]) := by kernel_rfl
theorem g18n11 : g18C [1, 1] = .seq (g18C [1, 1, 0]) (g18C [1, 1, 1]) := by kernel_rfl
theorem g18n110 : g18C [1, 1, 0] = .seq (g18C [1, 1, 0, 0]) (g18C [1, 1, 0, 1]) := by kernel_rfl
theorem g18rg1100 : g18C [1, 1, 0, 0] = .region 2 (rops (g18C [1, 1, 0, 0])) false := by kernel_rfl
theorem g18rg1100l : List.range (rops (g18C [1, 1, 0, 0])).size = [0, 1, 2, 3, 4, 5, 6, 7, 8, 9, 10] ++ [11, 12, 13, 14, 15, 16, 17, 18, 19] := by kernel_rfl
theorem g18er (env : Env) (st : St) : g18X (g18C []) g18kr env st = f18 (env 0) (env 1) (env 2) st := by
  rw [(g18seq g18nr (g18seq g18n1 ((g18seq g18n11 (g18e111)).trans ((g18seq g18n110 rfl).trans (g18reg g18rg1100 g18rg1100l (g18e1100_11))))))]
  kernel_rfl
theorem s18_eq (x0 : V) (x1 : V) (x2 : V) (st : St) : s18 [x0, x1, x2] st = fg (f18 x0 x1 x2 st) st := by
  have h : afn Try.prog g18mu g18T big (areg Try.prog g18mu g18T) 18 [x0, x1, x2] st = g18X (g18C []) g18kr (fun t => [x0, x1, x2].getD t (.tup [])) st := by kernel_rfl
  rw [s18, sealF_eq]
  show fg _ st = fg _ st
  refine congrArg (fun r => fg r st) ?_
  exact h.trans (g18er _ st)
/-! sinew/sinewref13.in -/
def g32mu : Nat → Bool := fun _ => false
noncomputable def g32T : Tbl := tget []
theorem g32t : SimT Try.prog g32T := simT_nil
noncomputable def s32 : Fn := sealF (afn Try.prog g32mu g32T big (areg Try.prog g32mu g32T) 32)
theorem sim32 : Sim Try.prog 32 s32 := (afn_sim g32t (fun m => areg_sound g32t hmix m) 32 (by kernel_rfl)).sealed
noncomputable def g32C (p : List Nat) : Code := sub (match Try.f32.body with | some c => c | none => .skip) p
noncomputable def g32X (c : Code) (K : Kon) : Env → St → Res := aexec Try.prog g32mu g32T big 18 (areg Try.prog g32mu g32T 18) c K
noncomputable def g32kr : Kon := aresK Try.prog Try.f32.results.toList
theorem g32reg {c : Code} {K : Kon} {G : Env → St → Res} {id : Nat} {ops : Array Oper} {l1 l2 : List Nat} (hc : c = .region id ops false) (hl : List.range ops.size = l1 ++ l2) (h : (fun env st => aops Try.prog g32mu g32T 18 ops l2 env st (K .normal)) = G) : g32X c K = fun env st => aops Try.prog g32mu g32T 18 ops l1 env st G := reg_cut hc hl h
theorem g32seq {c x y : Code} {K : Kon} {G : Env → St → Res} (hc : c = .seq x y) (hy : g32X y K = G) : g32X c K = g32X x (kSeq G K) := seq_cut hc hy
theorem g32blk {c x : Code} {K : Kon} {i : Nat} (hc : c = .block i x) : g32X c K = g32X x (kBlk i K) := blk_cut hc
theorem g32loop {c x : Code} {K : Kon} (hc : c = .loop x) : g32X c K = aloop (g32X x) K big := loop_cut hc
theorem g32cond {c x y : Code} {K : Kon} {v : Operand} {F G : Env → St → Res} (hc : c = .cond v x y) (hx : g32X x K = F) (hy : g32X y K = G) : g32X c K = condF v F G := cond_cut hc hx hy
noncomputable def g32k0 : Kon := kSeq (g32X (g32C [1, 1]) (g32kr)) (g32kr)
noncomputable def g32k1 : Kon := kBlk 0 (g32k0)
noncomputable def g32b1010 : Nat → V → V → V → St → Res
| 0, _, _, _, _ => none
| n + 1, x0, x1, x5, st =>
 A.lenL x0 fun a1 =>
 A.bin .lss x5 a1 fun a2 =>
 A.cond a2
 (A.iaddr 1 x0 x5 fun a3 =>
 A.load false 1 a3 st fun a4 z5 =>
 A.eql 2 false a4 x1 fun a6 =>
 A.cond a6
 (some (.ret ((.bool true) : V).er1, z5))
 (A.bin .add x5 (.int .i64 1) fun a7 =>
 (g32b1010 n) x0 x1 a7 z5))
 (some (.ret ((.bool false) : V).er1, st))
theorem g32n1010 : g32C [1, 0, 1, 0] = .loop (g32C [1, 0, 1, 0, 0]) := by kernel_rfl
noncomputable def g32k2 (L1010 : V → V → V → St → Res) : Kon := kSeq (fun env st => L1010 (env 0) (env 1) (env 5) st) (g32k1)
theorem g32e1010 : g32X (g32C [1, 0, 1, 0]) (g32k1) = fun env st => g32b1010 big (env 0) (env 1) (env 5) st := by
  have key : ∀ n, aloop (g32X (g32C [1, 0, 1, 0, 0])) (g32k1) n = fun env st => g32b1010 n (env 0) (env 1) (env 5) st := by
    intro n
    induction n with
    | zero => rfl
    | succ n ih =>
      have h : aloop (g32X (g32C [1, 0, 1, 0, 0])) (g32k1) (n + 1) = g32X (g32C [1, 0, 1, 0, 0]) (kSeq (aloop (g32X (g32C [1, 0, 1, 0, 0])) (g32k1) n) (g32k1)) := rfl
      rw [h, ih]
      refine Eq.trans (Eq.refl _) ?_
      funext env st
      kernel_rfl
  exact (g32loop g32n1010).trans (key big)
noncomputable def f32 (x0 : V) (x1 : V) (st : St) : Res :=
 g32b1010 big x0 x1 (.int .i64 0) st
theorem g32nr : g32C [] = .seq (g32C [0]) (g32C [1]) := by kernel_rfl
theorem g32n1 : g32C [1] = .seq (g32C [1, 0]) (g32C [1, 1]) := by kernel_rfl
theorem g32n10 : g32C [1, 0] = .seq (g32C [1, 0, 0]) (g32C [1, 0, 1]) := by kernel_rfl
theorem g32n101 : g32C [1, 0, 1] = .block 0 (g32C [1, 0, 1, 0]) := by kernel_rfl
theorem g32er (env : Env) (st : St) : g32X (g32C []) g32kr env st = f32 (env 0) (env 1) st := by
  rw [(g32seq g32nr ((g32seq g32n1 rfl).trans (g32seq g32n10 ((g32blk g32n101).trans (g32e1010)))))]
  kernel_rfl
theorem s32_eq (x0 : V) (x1 : V) (st : St) : s32 [x0, x1] st = f32 x0 x1 st := by
  have h : afn Try.prog g32mu g32T big (areg Try.prog g32mu g32T) 32 [x0, x1] st = g32X (g32C []) g32kr (fun t => [x0, x1].getD t (.tup [])) st := by kernel_rfl
  rw [s32, sealF_eq]
  exact h.trans (g32er _ st)
/-! sinew/sinewref13.Load -/
def g17mu : Nat → Bool := fun _ => false
noncomputable def g17T : Tbl := tget [(32, s32)]
theorem g17t : SimT Try.prog g17T := simT_cons sim32 (simT_nil)
noncomputable def s17 : Fn := sealF (afn Try.prog g17mu g17T big (areg Try.prog g17mu g17T) 17)
theorem sim17 : Sim Try.prog 17 s17 := (afn_sim g17t (fun m => areg_sound g17t hmix m) 17 (by kernel_rfl)).sealed
noncomputable def g17C (p : List Nat) : Code := sub (match Try.f17.body with | some c => c | none => .skip) p
noncomputable def g17X (c : Code) (K : Kon) : Env → St → Res := aexec Try.prog g17mu g17T big 71 (areg Try.prog g17mu g17T 71) c K
noncomputable def g17kr : Kon := aresK Try.prog Try.f17.results.toList
theorem g17reg {c : Code} {K : Kon} {G : Env → St → Res} {id : Nat} {ops : Array Oper} {l1 l2 : List Nat} (hc : c = .region id ops false) (hl : List.range ops.size = l1 ++ l2) (h : (fun env st => aops Try.prog g17mu g17T 71 ops l2 env st (K .normal)) = G) : g17X c K = fun env st => aops Try.prog g17mu g17T 71 ops l1 env st G := reg_cut hc hl h
theorem g17seq {c x y : Code} {K : Kon} {G : Env → St → Res} (hc : c = .seq x y) (hy : g17X y K = G) : g17X c K = g17X x (kSeq G K) := seq_cut hc hy
theorem g17blk {c x : Code} {K : Kon} {i : Nat} (hc : c = .block i x) : g17X c K = g17X x (kBlk i K) := blk_cut hc
theorem g17loop {c x : Code} {K : Kon} (hc : c = .loop x) : g17X c K = aloop (g17X x) K big := loop_cut hc
theorem g17cond {c x y : Code} {K : Kon} {v : Operand} {F G : Env → St → Res} (hc : c = .cond v x y) (hx : g17X x K = F) (hy : g17X y K = G) : g17X c K = condF v F G := cond_cut hc hx hy
noncomputable def g17k0 : Kon := kSeq (g17X (g17C [1, 1, 1]) (g17kr)) (g17kr)
noncomputable def g17k1 : Kon := kBlk 0 (g17k0)
noncomputable def g17k2 (L11010 : V → V → V → V → V → St → Res) : Kon := kSeq (fun env st => L11010 (env 0) (env 1) (env 2) (env 7) (env 8) st) (g17k1)
noncomputable def g17k3 (L11010 : V → V → V → V → V → St → Res) : Kon := kSeq (g17X (g17C [1, 1, 0, 1, 0, 0, 1, 1]) (g17k2 L11010)) (g17k2 L11010)
noncomputable def g17k4 (L11010 : V → V → V → V → V → St → Res) : Kon := kBlk 1 (g17k3 L11010)
noncomputable def g17k5 (L11010 : V → V → V → V → V → St → Res) : Kon := kSeq (g17X (g17C [1, 1, 0, 1, 0, 0, 1, 0, 0, 1, 1]) (g17k4 L11010)) (g17k4 L11010)
noncomputable def g17k6 (L11010 : V → V → V → V → V → St → Res) : Kon := kBlk 2 (g17k5 L11010)
noncomputable def g17k7 (L11010 : V → V → V → V → V → St → Res) (L1101001001010 : V → V → V → V → V → V → V → St → Res) : Kon := kSeq (fun env st => L1101001001010 (env 0) (env 1) (env 2) (env 7) (env 8) (env 9) (env 10) st) (g17k6 L11010)
noncomputable def g17k8 (L11010 : V → V → V → V → V → St → Res) (L1101001001010 : V → V → V → V → V → V → V → St → Res) : Kon := kSeq (g17X (g17C [1, 1, 0, 1, 0, 0, 1, 0, 0, 1, 0, 1, 0, 0, 1, 1]) (g17k7 L11010 L1101001001010)) (g17k7 L11010 L1101001001010)
noncomputable def g17k9 (L11010 : V → V → V → V → V → St → Res) (L1101001001010 : V → V → V → V → V → V → V → St → Res) : Kon := kBlk 3 (g17k8 L11010 L1101001001010)
noncomputable def g17b110100100101001001 (L11010 : V → V → V → V → V → St → Res) (L1101001001010 : V → V → V → V → V → V → V → St → Res) (x0 : V) (x1 : V) (x2 : V) (x7 : V) (x8 : V) (x9 : V) (x10 : V) (x46 : V) (st : St) : Res :=
 A.cond x46
 (A.iaddr 1 x1 x8 fun a1 =>
 A.load false 1 a1 st fun a2 z3 =>
 A.iaddr 1 a2 x10 fun a4 =>
 A.load false 1 a4 z3 fun a5 z6 =>
 A.iaddr 1 x0 a5 fun a7 =>
 A.load false 1 a7 z6 fun a8 z9 =>
 A.bin .mul x9 a8 fun a10 =>
 A.bin .add x10 (.int .i64 1) fun a11 =>
 L1101001001010 x0 x1 x2 x7 x8 a10 a11 z9)
 (A.bin .add x10 (.int .i64 1) fun a12 =>
 L1101001001010 x0 x1 x2 x7 x8 x9 a12 st)
theorem g17e110100100101001001 (L11010 : V → V → V → V → V → St → Res) (L1101001001010 : V → V → V → V → V → V → V → St → Res) : g17X (g17C [1, 1, 0, 1, 0, 0, 1, 0, 0, 1, 0, 1, 0, 0, 1, 0, 0, 1]) (g17k9 L11010 L1101001001010) = fun env st => g17b110100100101001001 L11010 L1101001001010 (env 0) (env 1) (env 2) (env 7) (env 8) (env 9) (env 10) (env 46) st := by
  refine Eq.trans (Eq.refl (g17X (g17C [1, 1, 0, 1, 0, 0, 1, 0, 0, 1, 0, 1, 0, 0, 1, 0, 0, 1]) (g17k9 L11010 L1101001001010))) ?_
  funext env st
  kernel_rfl
noncomputable def g17b1101001001010 (L11010 : V → V → V → V → V → St → Res) : Nat → V → V → V → V → V → V → V → St → Res
| 0, _, _, _, _, _, _, _, _ => none
| n + 1, x0, x1, x2, x7, x8, x9, x10, st =>
 A.iaddr 1 x1 x8 fun a1 =>
 A.load false 1 a1 st fun a2 z3 =>
 A.lenL a2 fun a4 =>
 A.bin .lss x10 a4 fun a5 =>
 A.cond a5
 (A.iaddr 1 x1 x8 fun a6 =>
 A.load false 1 a6 z3 fun a7 _ =>
 A.slice 1 a7 none (some x10) none fun a8 =>
 A.iaddr 1 x1 x8 fun a9 =>
 A.load false 1 a9 z3 fun a10 _ =>
 A.iaddr 1 a10 x10 fun a11 =>
 A.load false 1 a11 z3 fun a12 _ =>
 A.noP (A.ret (s32 [a8.er1, a12.er1] z3) kid) fun a13 z14 =>
 A.un .not a13 fun a15 =>
 g17b110100100101001001 L11010 (g17b1101001001010 L11010 n) x0 x1 x2 x7 x8 x9 x10 a15 z14)
 (A.iaddr 1 x2 x8 fun a16 =>
 A.load false 1 a16 z3 fun a17 z18 =>
 A.bin .add a17 x9 fun a19 =>
 A.bin .sub a19 (.int .i64 1) fun a20 =>
 A.bin .quo a20 x9 fun a21 =>
 A.bin .add x7 a21 fun a22 =>
 A.bin .add x8 (.int .i64 1) fun a23 =>
 L11010 x0 x1 x2 a22 a23 z18)
theorem g17n1101001001010 : g17C [1, 1, 0, 1, 0, 0, 1, 0, 0, 1, 0, 1, 0] = .loop (g17C [1, 1, 0, 1, 0, 0, 1, 0, 0, 1, 0, 1, 0, 0]) := by kernel_rfl
theorem g17n11010010010100 : g17C [1, 1, 0, 1, 0, 0, 1, 0, 0, 1, 0, 1, 0, 0] = .seq (g17C [1, 1, 0, 1, 0, 0, 1, 0, 0, 1, 0, 1, 0, 0, 0]) (g17C [1, 1, 0, 1, 0, 0, 1, 0, 0, 1, 0, 1, 0, 0, 1]) := by kernel_rfl
theorem g17n110100100101001 : g17C [1, 1, 0, 1, 0, 0, 1, 0, 0, 1, 0, 1, 0, 0, 1] = .seq (g17C [1, 1, 0, 1, 0, 0, 1, 0, 0, 1, 0, 1, 0, 0, 1, 0]) (g17C [1, 1, 0, 1, 0, 0, 1, 0, 0, 1, 0, 1, 0, 0, 1, 1]) := by kernel_rfl
theorem g17n1101001001010010 : g17C [1, 1, 0, 1, 0, 0, 1, 0, 0, 1, 0, 1, 0, 0, 1, 0] = .block 3 (g17C [1, 1, 0, 1, 0, 0, 1, 0, 0, 1, 0, 1, 0, 0, 1, 0, 0]) := by kernel_rfl
theorem g17n11010010010100100 : g17C [1, 1, 0, 1, 0, 0, 1, 0, 0, 1, 0, 1, 0, 0, 1, 0, 0] = .seq (g17C [1, 1, 0, 1, 0, 0, 1, 0, 0, 1, 0, 1, 0, 0, 1, 0, 0, 0]) (g17C [1, 1, 0, 1, 0, 0, 1, 0, 0, 1, 0, 1, 0, 0, 1, 0, 0, 1]) := by kernel_rfl
theorem g17e1101001001010 (L11010 : V → V → V → V → V → St → Res) : g17X (g17C [1, 1, 0, 1, 0, 0, 1, 0, 0, 1, 0, 1, 0]) (g17k6 L11010) = fun env st => g17b1101001001010 L11010 big (env 0) (env 1) (env 2) (env 7) (env 8) (env 9) (env 10) st := by
  have key : ∀ n, aloop (g17X (g17C [1, 1, 0, 1, 0, 0, 1, 0, 0, 1, 0, 1, 0, 0])) (g17k6 L11010) n = fun env st => g17b1101001001010 L11010 n (env 0) (env 1) (env 2) (env 7) (env 8) (env 9) (env 10) st := by
    intro n
    induction n with
    | zero => rfl
    | succ n ih =>
      have h : aloop (g17X (g17C [1, 1, 0, 1, 0, 0, 1, 0, 0, 1, 0, 1, 0, 0])) (g17k6 L11010) (n + 1) = g17X (g17C [1, 1, 0, 1, 0, 0, 1, 0, 0, 1, 0, 1, 0, 0]) (kSeq (aloop (g17X (g17C [1, 1, 0, 1, 0, 0, 1, 0, 0, 1, 0, 1, 0, 0])) (g17k6 L11010) n) (g17k6 L11010)) := rfl
      rw [h, ih]
      refine Eq.trans (g17seq g17n11010010010100 ((g17seq g17n110100100101001 rfl).trans ((g17blk g17n1101001001010010).trans (g17seq g17n11010010010100100 (g17e110100100101001001 L11010 (g17b1101001001010 L11010 n)))))) ?_
      funext env st
      kernel_rfl
  exact (g17loop g17n1101001001010).trans (key big)
noncomputable def g17b1101001 (L11010 : V → V → V → V → V → St → Res) (x0 : V) (x1 : V) (x2 : V) (x7 : V) (x8 : V) (st : St) : Res :=
 g17b1101001001010 L11010 big x0 x1 x2 x7 x8 (.int .i64 1) (.int .i64 0) st
theorem g17n1101001 : g17C [1, 1, 0, 1, 0, 0, 1] = .seq (g17C [1, 1, 0, 1, 0, 0, 1, 0]) (g17C [1, 1, 0, 1, 0, 0, 1, 1]) := by kernel_rfl
theorem g17n11010010 : g17C [1, 1, 0, 1, 0, 0, 1, 0] = .block 1 (g17C [1, 1, 0, 1, 0, 0, 1, 0, 0]) := by kernel_rfl
theorem g17n110100100 : g17C [1, 1, 0, 1, 0, 0, 1, 0, 0] = .seq (g17C [1, 1, 0, 1, 0, 0, 1, 0, 0, 0]) (g17C [1, 1, 0, 1, 0, 0, 1, 0, 0, 1]) := by kernel_rfl
theorem g17n1101001001 : g17C [1, 1, 0, 1, 0, 0, 1, 0, 0, 1] = .seq (g17C [1, 1, 0, 1, 0, 0, 1, 0, 0, 1, 0]) (g17C [1, 1, 0, 1, 0, 0, 1, 0, 0, 1, 1]) := by kernel_rfl
theorem g17n11010010010 : g17C [1, 1, 0, 1, 0, 0, 1, 0, 0, 1, 0] = .seq (g17C [1, 1, 0, 1, 0, 0, 1, 0, 0, 1, 0, 0]) (g17C [1, 1, 0, 1, 0, 0, 1, 0, 0, 1, 0, 1]) := by kernel_rfl
theorem g17n110100100101 : g17C [1, 1, 0, 1, 0, 0, 1, 0, 0, 1, 0, 1] = .block 2 (g17C [1, 1, 0, 1, 0, 0, 1, 0, 0, 1, 0, 1, 0]) := by kernel_rfl
theorem g17e1101001 (L11010 : V → V → V → V → V → St → Res) : g17X (g17C [1, 1, 0, 1, 0, 0, 1]) (g17k2 L11010) = fun env st => g17b1101001 L11010 (env 0) (env 1) (env 2) (env 7) (env 8) st := by
  refine Eq.trans ((g17seq g17n1101001 rfl).trans ((g17blk g17n11010010).trans (g17seq g17n110100100 ((g17seq g17n1101001001 rfl).trans (g17seq g17n11010010010 ((g17blk g17n110100100101).trans (g17e1101001001010 L11010))))))) ?_
  funext env st
  kernel_rfl
noncomputable def g17b11010 : Nat → V → V → V → V → V → St → Res
| 0, _, _, _, _, _, _ => none
| n + 1, x0, x1, x2, x7, x8, st =>
 A.lenL x1 fun a1 =>
 A.bin .lss x8 a1 fun a2 =>
 A.guard a2 true
 (A.lenL x2 fun a3 =>
 A.bin .lss x8 a3 fun a4 =>
 A.cond a4
 (g17b1101001 (g17b11010 n) x0 x1 x2 x7 x8 st)
 (some (.ret x7.er1, st)))
 (some (.ret x7.er1, st))
theorem g17n11010 : g17C [1, 1, 0, 1, 0] = .loop (g17C [1, 1, 0, 1, 0, 0]) := by kernel_rfl
theorem g17n110100 : g17C [1, 1, 0, 1, 0, 0] = .seq (g17C [1, 1, 0, 1, 0, 0, 0]) (g17C [1, 1, 0, 1, 0, 0, 1]) := by kernel_rfl
theorem g17e11010 : g17X (g17C [1, 1, 0, 1, 0]) (g17k1) = fun env st => g17b11010 big (env 0) (env 1) (env 2) (env 7) (env 8) st := by
  have key : ∀ n, aloop (g17X (g17C [1, 1, 0, 1, 0, 0])) (g17k1) n = fun env st => g17b11010 n (env 0) (env 1) (env 2) (env 7) (env 8) st := by
    intro n
    induction n with
    | zero => rfl
    | succ n ih =>
      have h : aloop (g17X (g17C [1, 1, 0, 1, 0, 0])) (g17k1) (n + 1) = g17X (g17C [1, 1, 0, 1, 0, 0]) (kSeq (aloop (g17X (g17C [1, 1, 0, 1, 0, 0])) (g17k1) n) (g17k1)) := rfl
      rw [h, ih]
      refine Eq.trans (g17seq g17n110100 (g17e1101001 (g17b11010 n))) ?_
      funext env st
      kernel_rfl
  exact (g17loop g17n11010).trans (key big)
noncomputable def f17 (x0 : V) (x1 : V) (x2 : V) (st : St) : Res :=
 g17b11010 big x0 x1 x2 (.int .i64 0) (.int .i64 0) st
theorem g17nr : g17C [] = .seq (g17C [0]) (g17C [1]) := by kernel_rfl
theorem g17n1 : g17C [1] = .seq (g17C [1, 0]) (g17C [1, 1]) := by kernel_rfl
theorem g17n11 : g17C [1, 1] = .seq (g17C [1, 1, 0]) (g17C [1, 1, 1]) := by kernel_rfl
theorem g17n110 : g17C [1, 1, 0] = .seq (g17C [1, 1, 0, 0]) (g17C [1, 1, 0, 1]) := by kernel_rfl
theorem g17n1101 : g17C [1, 1, 0, 1] = .block 0 (g17C [1, 1, 0, 1, 0]) := by kernel_rfl
theorem g17er (env : Env) (st : St) : g17X (g17C []) g17kr env st = f17 (env 0) (env 1) (env 2) st := by
  rw [(g17seq g17nr (g17seq g17n1 ((g17seq g17n11 rfl).trans (g17seq g17n110 ((g17blk g17n1101).trans (g17e11010))))))]
  kernel_rfl
theorem s17_eq (x0 : V) (x1 : V) (x2 : V) (st : St) : s17 [x0, x1, x2] st = f17 x0 x1 x2 st := by
  have h : afn Try.prog g17mu g17T big (areg Try.prog g17mu g17T) 17 [x0, x1, x2] st = g17X (g17C []) g17kr (fun t => [x0, x1, x2].getD t (.tup [])) st := by kernel_rfl
  rw [s17, sealF_eq]
  exact h.trans (g17er _ st)
/-! sinew/sinewref13.asks -/
def g29mu : Nat → Bool := fun _ => false
noncomputable def g29T : Tbl := tget []
theorem g29t : SimT Try.prog g29T := simT_nil
noncomputable def s29 : Fn := sealF (afn Try.prog g29mu g29T big (areg Try.prog g29mu g29T) 29)
theorem sim29 : Sim Try.prog 29 s29 := (afn_sim g29t (fun m => areg_sound g29t hmix m) 29 (by kernel_rfl)).sealed
noncomputable def g29C (p : List Nat) : Code := sub (match Try.f29.body with | some c => c | none => .skip) p
noncomputable def g29X (c : Code) (K : Kon) : Env → St → Res := aexec Try.prog g29mu g29T big 83 (areg Try.prog g29mu g29T 83) c K
noncomputable def g29kr : Kon := aresK Try.prog Try.f29.results.toList
theorem g29reg {c : Code} {K : Kon} {G : Env → St → Res} {id : Nat} {ops : Array Oper} {l1 l2 : List Nat} (hc : c = .region id ops false) (hl : List.range ops.size = l1 ++ l2) (h : (fun env st => aops Try.prog g29mu g29T 83 ops l2 env st (K .normal)) = G) : g29X c K = fun env st => aops Try.prog g29mu g29T 83 ops l1 env st G := reg_cut hc hl h
theorem g29seq {c x y : Code} {K : Kon} {G : Env → St → Res} (hc : c = .seq x y) (hy : g29X y K = G) : g29X c K = g29X x (kSeq G K) := seq_cut hc hy
theorem g29blk {c x : Code} {K : Kon} {i : Nat} (hc : c = .block i x) : g29X c K = g29X x (kBlk i K) := blk_cut hc
theorem g29loop {c x : Code} {K : Kon} (hc : c = .loop x) : g29X c K = aloop (g29X x) K big := loop_cut hc
theorem g29cond {c x y : Code} {K : Kon} {v : Operand} {F G : Env → St → Res} (hc : c = .cond v x y) (hx : g29X x K = F) (hy : g29X y K = G) : g29X c K = condF v F G := cond_cut hc hx hy
noncomputable def g29k0 : Kon := kSeq (g29X (g29C [1, 1, 1]) (g29kr)) (g29kr)
noncomputable def g29k1 : Kon := kBlk 0 (g29k0)
noncomputable def g29k2 (L11010 : V → V → V → V → St → Res) : Kon := kSeq (fun env st => L11010 (env 1) (env 2) (env 3) (env 9) st) (g29k1)
noncomputable def g29k3 (L11010 : V → V → V → V → St → Res) : Kon := kSeq (g29X (g29C [1, 1, 0, 1, 0, 0, 1, 1]) (g29k2 L11010)) (g29k2 L11010)
noncomputable def g29k4 (L11010 : V → V → V → V → St → Res) : Kon := kBlk 1 (g29k3 L11010)
noncomputable def g29k5 (L11010 : V → V → V → V → St → Res) : Kon := kBlk 2 (g29k4 L11010)
noncomputable def g29k6 (L11010 : V → V → V → V → St → Res) (L110100100110 : V → V → V → V → V → St → Res) : Kon := kSeq (fun env st => L110100100110 (env 1) (env 2) (env 3) (env 9) (env 10) st) (g29k5 L11010)
noncomputable def g29k7 (L11010 : V → V → V → V → St → Res) (L110100100110 : V → V → V → V → V → St → Res) : Kon := kSeq (g29X (g29C [1, 1, 0, 1, 0, 0, 1, 0, 0, 1, 1, 0, 0, 1, 1]) (g29k6 L11010 L110100100110)) (g29k6 L11010 L110100100110)
noncomputable def g29k8 (L11010 : V → V → V → V → St → Res) (L110100100110 : V → V → V → V → V → St → Res) : Kon := kBlk 3 (g29k7 L11010 L110100100110)
noncomputable def g29k9 (L11010 : V → V → V → V → St → Res) (L110100100110 : V → V → V → V → V → St → Res) : Kon := kSeq (g29X (g29C [1, 1, 0, 1, 0, 0, 1, 0, 0, 1, 1, 0, 0, 1, 0, 0, 1]) (g29k8 L11010 L110100100110)) (g29k8 L11010 L110100100110)
noncomputable def g29b11010010011001000_9 (L11010 : V → V → V → V → St → Res) (L110100100110 : V → V → V → V → V → St → Res) (x1 : V) (x2 : V) (x3 : V) (x9 : V) (x10 : V) (x72 : V) (st : St) : Res :=
 A.guard x72 false
 (A.iaddr 1 x2 x9 fun a1 =>
 A.load false 1 a1 st fun a2 z3 =>
 A.iaddr 1 a2 x10 fun a4 =>
 A.load false 1 a4 z3 fun a5 z6 =>
 A.bin .geq a5 x1 fun a7 =>
 A.cond a7
 (some (.ret ((.bool false) : V).er1, z6))
 (A.bin .add x10 (.int .i64 1) fun a8 =>
 L110100100110 x1 x2 x3 x9 a8 z6))
 (some (.ret ((.bool false) : V).er1, st))
theorem g29e11010010011001000_9 (L11010 : V → V → V → V → St → Res) (L110100100110 : V → V → V → V → V → St → Res) : (fun env st => aops Try.prog g29mu g29T 83 (rops (g29C [1, 1, 0, 1, 0, 0, 1, 0, 0, 1, 1, 0, 0, 1, 0, 0, 0])) [9, 10, 11, 12, 13, 14, 15, 16, 17, 18] env st ((g29k9 L11010 L110100100110) .normal)) = fun env st => g29b11010010011001000_9 L11010 L110100100110 (env 1) (env 2) (env 3) (env 9) (env 10) (env 72) st := by
  refine Eq.trans (Eq.refl _) ?_
  funext env st
  kernel_rfl
noncomputable def g29b110100100110 (L11010 : V → V → V → V → St → Res) : Nat → V → V → V → V → V → St → Res
| 0, _, _, _, _, _, _ => none
| n + 1, x1, x2, x3, x9, x10, st =>
 A.iaddr 1 x2 x9 fun a1 =>
 A.load false 1 a1 st fun a2 z3 =>
 A.lenL a2 fun a4 =>
 A.bin .lss x10 a4 fun a5 =>
 A.cond a5
 (A.iaddr 1 x2 x9 fun a6 =>
 A.load false 1 a6 z3 fun a7 z8 =>
 A.iaddr 1 a7 x10 fun a9 =>
 A.load false 1 a9 z8 fun a10 z11 =>
 A.bin .lss a10 (.int .i64 0) fun a12 =>
 g29b11010010011001000_9 L11010 (g29b110100100110 L11010 n) x1 x2 x3 x9 x10 a12 z11)
 (A.bin .add x9 (.int .i64 1) fun a13 =>
 L11010 x1 x2 x3 a13 z3)
theorem g29n110100100110 : g29C [1, 1, 0, 1, 0, 0, 1, 0, 0, 1, 1, 0] = .loop (g29C [1, 1, 0, 1, 0, 0, 1, 0, 0, 1, 1, 0, 0]) := by kernel_rfl
theorem g29n1101001001100 : g29C [1, 1, 0, 1, 0, 0, 1, 0, 0, 1, 1, 0, 0] = .seq (g29C [1, 1, 0, 1, 0, 0, 1, 0, 0, 1, 1, 0, 0, 0]) (g29C [1, 1, 0, 1, 0, 0, 1, 0, 0, 1, 1, 0, 0, 1]) := by kernel_rfl
theorem g29n11010010011001 : g29C [1, 1, 0, 1, 0, 0, 1, 0, 0, 1, 1, 0, 0, 1] = .seq (g29C [1, 1, 0, 1, 0, 0, 1, 0, 0, 1, 1, 0, 0, 1, 0]) (g29C [1, 1, 0, 1, 0, 0, 1, 0, 0, 1, 1, 0, 0, 1, 1]) := by kernel_rfl
theorem g29n110100100110010 : g29C [1, 1, 0, 1, 0, 0, 1, 0, 0, 1, 1, 0, 0, 1, 0] = .block 3 (g29C [1, 1, 0, 1, 0, 0, 1, 0, 0, 1, 1, 0, 0, 1, 0, 0]) := by kernel_rfl
theorem g29n1101001001100100 : g29C [1, 1, 0, 1, 0, 0, 1, 0, 0, 1, 1, 0, 0, 1, 0, 0] = .seq (g29C [1, 1, 0, 1, 0, 0, 1, 0, 0, 1, 1, 0, 0, 1, 0, 0, 0]) (g29C [1, 1, 0, 1, 0, 0, 1, 0, 0, 1, 1, 0, 0, 1, 0, 0, 1]) := by kernel_rfl
theorem g29rg11010010011001000 : g29C [1, 1, 0, 1, 0, 0, 1, 0, 0, 1, 1, 0, 0, 1, 0, 0, 0] = .region 11 (rops (g29C [1, 1, 0, 1, 0, 0, 1, 0, 0, 1, 1, 0, 0, 1, 0, 0, 0])) false := by kernel_rfl
theorem g29rg11010010011001000l : List.range (rops (g29C [1, 1, 0, 1, 0, 0, 1, 0, 0, 1, 1, 0, 0, 1, 0, 0, 0])).size = [0, 1, 2, 3, 4, 5, 6, 7, 8] ++ [9, 10, 11, 12, 13, 14, 15, 16, 17, 18] := by kernel_rfl
theorem g29e110100100110 (L11010 : V → V → V → V → St → Res) : g29X (g29C [1, 1, 0, 1, 0, 0, 1, 0, 0, 1, 1, 0]) (g29k5 L11010) = fun env st => g29b110100100110 L11010 big (env 1) (env 2) (env 3) (env 9) (env 10) st := by
  have key : ∀ n, aloop (g29X (g29C [1, 1, 0, 1, 0, 0, 1, 0, 0, 1, 1, 0, 0])) (g29k5 L11010) n = fun env st => g29b110100100110 L11010 n (env 1) (env 2) (env 3) (env 9) (env 10) st := by
    intro n
    induction n with
    | zero => rfl
    | succ n ih =>
      have h : aloop (g29X (g29C [1, 1, 0, 1, 0, 0, 1, 0, 0, 1, 1, 0, 0])) (g29k5 L11010) (n + 1) = g29X (g29C [1, 1, 0, 1, 0, 0, 1, 0, 0, 1, 1, 0, 0]) (kSeq (aloop (g29X (g29C [1, 1, 0, 1, 0, 0, 1, 0, 0, 1, 1, 0, 0])) (g29k5 L11010) n) (g29k5 L11010)) := rfl
      rw [h, ih]
      refine Eq.trans (g29seq g29n1101001001100 ((g29seq g29n11010010011001 rfl).trans ((g29blk g29n110100100110010).trans ((g29seq g29n1101001001100100 rfl).trans (g29reg g29rg11010010011001000 g29rg11010010011001000l (g29e11010010011001000_9 L11010 (g29b110100100110 L11010 n))))))) ?_
      funext env st
      kernel_rfl
  exact (g29loop g29n110100100110).trans (key big)
noncomputable def g29b1101001001 (L11010 : V → V → V → V → St → Res) (x1 : V) (x2 : V) (x3 : V) (x9 : V) (st : St) : Res :=
 g29b110100100110 L11010 big x1 x2 x3 x9 (.int .i64 0) st
theorem g29n1101001001 : g29C [1, 1, 0, 1, 0, 0, 1, 0, 0, 1] = .seq (g29C [1, 1, 0, 1, 0, 0, 1, 0, 0, 1, 0]) (g29C [1, 1, 0, 1, 0, 0, 1, 0, 0, 1, 1]) := by kernel_rfl
theorem g29n11010010011 : g29C [1, 1, 0, 1, 0, 0, 1, 0, 0, 1, 1] = .block 2 (g29C [1, 1, 0, 1, 0, 0, 1, 0, 0, 1, 1, 0]) := by kernel_rfl
theorem g29e1101001001 (L11010 : V → V → V → V → St → Res) : g29X (g29C [1, 1, 0, 1, 0, 0, 1, 0, 0, 1]) (g29k4 L11010) = fun env st => g29b1101001001 L11010 (env 1) (env 2) (env 3) (env 9) st := by
  refine Eq.trans (g29seq g29n1101001001 ((g29blk g29n11010010011).trans (g29e110100100110 L11010))) ?_
  funext env st
  kernel_rfl
noncomputable def g29b11010 : Nat → V → V → V → V → St → Res
| 0, _, _, _, _, _ => none
| n + 1, x1, x2, x3, x9, st =>
 A.lenL x2 fun a1 =>
 A.bin .lss x9 a1 fun a2 =>
 A.cond a2
 (A.iaddr 1 x3 x9 fun a3 =>
 A.load false 1 a3 st fun a4 z5 =>
 A.bin .lss a4 (.int .i64 0) fun a6 =>
 A.guard a6 false
 (A.iaddr 1 x3 x9 fun a7 =>
 A.load false 1 a7 z5 fun a8 z9 =>
 A.bin .gtr a8 (.int .i64 1048576) fun a10 =>
 A.cond a10
 (some (.ret ((.bool false) : V).er1, z9))
 (g29b1101001001 (g29b11010 n) x1 x2 x3 x9 z9))
 (some (.ret ((.bool false) : V).er1, z5)))
 (some (.ret ((.bool true) : V).er1, st))
theorem g29n11010 : g29C [1, 1, 0, 1, 0] = .loop (g29C [1, 1, 0, 1, 0, 0]) := by kernel_rfl
theorem g29n110100 : g29C [1, 1, 0, 1, 0, 0] = .seq (g29C [1, 1, 0, 1, 0, 0, 0]) (g29C [1, 1, 0, 1, 0, 0, 1]) := by kernel_rfl
theorem g29n1101001 : g29C [1, 1, 0, 1, 0, 0, 1] = .seq (g29C [1, 1, 0, 1, 0, 0, 1, 0]) (g29C [1, 1, 0, 1, 0, 0, 1, 1]) := by kernel_rfl
theorem g29n11010010 : g29C [1, 1, 0, 1, 0, 0, 1, 0] = .block 1 (g29C [1, 1, 0, 1, 0, 0, 1, 0, 0]) := by kernel_rfl
theorem g29n110100100 : g29C [1, 1, 0, 1, 0, 0, 1, 0, 0] = .seq (g29C [1, 1, 0, 1, 0, 0, 1, 0, 0, 0]) (g29C [1, 1, 0, 1, 0, 0, 1, 0, 0, 1]) := by kernel_rfl
theorem g29e11010 : g29X (g29C [1, 1, 0, 1, 0]) (g29k1) = fun env st => g29b11010 big (env 1) (env 2) (env 3) (env 9) st := by
  have key : ∀ n, aloop (g29X (g29C [1, 1, 0, 1, 0, 0])) (g29k1) n = fun env st => g29b11010 n (env 1) (env 2) (env 3) (env 9) st := by
    intro n
    induction n with
    | zero => rfl
    | succ n ih =>
      have h : aloop (g29X (g29C [1, 1, 0, 1, 0, 0])) (g29k1) (n + 1) = g29X (g29C [1, 1, 0, 1, 0, 0]) (kSeq (aloop (g29X (g29C [1, 1, 0, 1, 0, 0])) (g29k1) n) (g29k1)) := rfl
      rw [h, ih]
      refine Eq.trans (g29seq g29n110100 ((g29seq g29n1101001 rfl).trans ((g29blk g29n11010010).trans (g29seq g29n110100100 (g29e1101001001 (g29b11010 n)))))) ?_
      funext env st
      kernel_rfl
  exact (g29loop g29n11010).trans (key big)
noncomputable def g29b11 (x1 : V) (x2 : V) (x3 : V) (st : St) : Res :=
 g29b11010 big x1 x2 x3 (.int .i64 0) st
theorem g29n11 : g29C [1, 1] = .seq (g29C [1, 1, 0]) (g29C [1, 1, 1]) := by kernel_rfl
theorem g29n110 : g29C [1, 1, 0] = .seq (g29C [1, 1, 0, 0]) (g29C [1, 1, 0, 1]) := by kernel_rfl
theorem g29n1101 : g29C [1, 1, 0, 1] = .block 0 (g29C [1, 1, 0, 1, 0]) := by kernel_rfl
theorem g29e11 : g29X (g29C [1, 1]) (g29kr) = fun env st => g29b11 (env 1) (env 2) (env 3) st := by
  refine Eq.trans ((g29seq g29n11 rfl).trans (g29seq g29n110 ((g29blk g29n1101).trans (g29e11010)))) ?_
  funext env st
  kernel_rfl
noncomputable def g29k10 : Kon := kSeq (fun env st => g29b11 (env 1) (env 2) (env 3) st) (g29kr)
noncomputable def g29k11 : Kon := kSeq (g29X (g29C [1, 0, 1]) (g29k10)) (g29k10)
noncomputable def g29b100_22 (x1 : V) (x2 : V) (x3 : V) (x32 : V) (st : St) : Res :=
 A.guard x32 false
 (A.lenL x2 fun a1 =>
 A.bin .gtr a1 (.int .i64 12) fun a2 =>
 A.cond a2
 (some (.ret ((.bool false) : V).er1, st))
 (g29b11 x1 x2 x3 st))
 (some (.ret ((.bool false) : V).er1, st))
theorem g29e100_22 : (fun env st => aops Try.prog g29mu g29T 83 (rops (g29C [1, 0, 0])) [22, 23, 24, 25] env st ((g29k11) .normal)) = fun env st => g29b100_22 (env 1) (env 2) (env 3) (env 32) st := by
  refine Eq.trans (Eq.refl _) ?_
  funext env st
  kernel_rfl
noncomputable def g29b100_15 (x1 : V) (x2 : V) (x3 : V) (x25 : V) (st : St) : Res :=
 A.guard x25 false
 (A.lenL x2 fun a1 =>
 A.lenL x3 fun a2 =>
 A.eql 2 true a1 a2 fun a3 =>
 g29b100_22 x1 x2 x3 a3 st)
 (g29b100_22 x1 x2 x3 (.bool true) st)
theorem g29e100_15 : (fun env st => aops Try.prog g29mu g29T 83 (rops (g29C [1, 0, 0])) [15, 16, 17, 18, 19, 20, 21, 22, 23, 24, 25] env st ((g29k11) .normal)) = fun env st => g29b100_15 (env 1) (env 2) (env 3) (env 25) st := by
  refine Eq.trans (ops_cut (l1 := [15, 16, 17, 18, 19, 20, 21]) (l2 := [22, 23, 24, 25]) (g29e100_22)) ?_
  funext env st
  kernel_rfl
noncomputable def g29b100_7 (x1 : V) (x2 : V) (x3 : V) (x17 : V) (st : St) : Res :=
 A.guard x17 false
 (A.bin .lss x1 (.int .i64 0) fun a1 =>
 A.guard a1 false
 (A.bin .gtr x1 (.int .i64 6) fun a2 =>
 g29b100_15 x1 x2 x3 a2 st)
 (g29b100_15 x1 x2 x3 (.bool true) st))
 (g29b100_15 x1 x2 x3 (.bool true) st)
theorem g29e100_7 : (fun env st => aops Try.prog g29mu g29T 83 (rops (g29C [1, 0, 0])) [7, 8, 9, 10, 11, 12, 13, 14, 15, 16, 17, 18, 19, 20, 21, 22, 23, 24, 25] env st ((g29k11) .normal)) = fun env st => g29b100_7 (env 1) (env 2) (env 3) (env 17) st := by
  refine Eq.trans (ops_cut (l1 := [7, 8, 9, 10, 11, 12, 13, 14]) (l2 := [15, 16, 17, 18, 19, 20, 21, 22, 23, 24, 25]) (g29e100_15)) ?_
  funext env st
  kernel_rfl
noncomputable def f29 (x0 : V) (x1 : V) (x2 : V) (x3 : V) (st : St) : Res :=
 A.bin .lss x0 (.int .i64 1) fun a1 =>
 A.guard a1 false
 (A.bin .gtr x0 (.int .i64 64) fun a2 =>
 g29b100_7 x1 x2 x3 a2 st)
 (g29b100_7 x1 x2 x3 (.bool true) st)
theorem g29nr : g29C [] = .seq (g29C [0]) (g29C [1]) := by kernel_rfl
theorem g29n1 : g29C [1] = .seq (g29C [1, 0]) (g29C [1, 1]) := by kernel_rfl
theorem g29n10 : g29C [1, 0] = .seq (g29C [1, 0, 0]) (g29C [1, 0, 1]) := by kernel_rfl
theorem g29rg100 : g29C [1, 0, 0] = .region 1 (rops (g29C [1, 0, 0])) false := by kernel_rfl
theorem g29rg100l : List.range (rops (g29C [1, 0, 0])).size = [0, 1, 2, 3, 4, 5, 6] ++ [7, 8, 9, 10, 11, 12, 13, 14, 15, 16, 17, 18, 19, 20, 21, 22, 23, 24, 25] := by kernel_rfl
theorem g29er (env : Env) (st : St) : g29X (g29C []) g29kr env st = f29 (env 0) (env 1) (env 2) (env 3) st := by
  rw [(g29seq g29nr ((g29seq g29n1 (g29e11)).trans ((g29seq g29n10 rfl).trans (g29reg g29rg100 g29rg100l (g29e100_7)))))]
  kernel_rfl
theorem s29_eq (x0 : V) (x1 : V) (x2 : V) (x3 : V) (st : St) : s29 [x0, x1, x2, x3] st = f29 x0 x1 x2 x3 st := by
  have h : afn Try.prog g29mu g29T big (areg Try.prog g29mu g29T) 29 [x0, x1, x2, x3] st = g29X (g29C []) g29kr (fun t => [x0, x1, x2, x3].getD t (.tup [])) st := by kernel_rfl
  rw [s29, sealF_eq]
  exact h.trans (g29er _ st)
/-! sinew/sinewref13.all -/
def g30mu : Nat → Bool := fun _ => false
noncomputable def g30T (R : Fn) : Tbl := tget [(30, R)]
theorem g30t (R : Fn) (hR : Sim Try.prog 30 R) : SimT Try.prog (g30T R) := simT_cons hR (simT_nil)
noncomputable def s30n : Nat → Fn
| 0 => fun _ _ => none
| n + 1 => fun args st => fg (afn Try.prog g30mu (g30T (s30n n)) big (areg Try.prog g30mu (g30T (s30n n))) 30 args st) st
theorem sim30n : ∀ n, Sim Try.prog 30 (s30n n)
| 0 => ⟨by kernel_rfl, fun _ _ _ _ _ _ _ h => by cases h⟩
| n + 1 => (afn_sim (g30t (s30n n) (sim30n n)) (fun m => areg_sound (g30t (s30n n) (sim30n n)) hmix m) 30 (by kernel_rfl)).fg
noncomputable def s30 : Fn := sealF (s30n big)
theorem sim30 : Sim Try.prog 30 s30 := (sim30n big).sealed
theorem s30_n : s30 = s30n big := sealF_eq _
noncomputable def g30C (p : List Nat) : Code := sub (match Try.f30.body with | some c => c | none => .skip) p
noncomputable def g30X (R : Fn) (c : Code) (K : Kon) : Env → St → Res := aexec Try.prog g30mu (g30T R) big 40 (areg Try.prog g30mu (g30T R) 40) c K
noncomputable def g30kr (R : Fn) : Kon := aresK Try.prog Try.f30.results.toList
theorem g30reg (R : Fn) {c : Code} {K : Kon} {G : Env → St → Res} {id : Nat} {ops : Array Oper} {l1 l2 : List Nat} (hc : c = .region id ops false) (hl : List.range ops.size = l1 ++ l2) (h : (fun env st => aops Try.prog g30mu (g30T R) 40 ops l2 env st (K .normal)) = G) : (g30X R) c K = fun env st => aops Try.prog g30mu (g30T R) 40 ops l1 env st G := reg_cut hc hl h
theorem g30seq (R : Fn) {c x y : Code} {K : Kon} {G : Env → St → Res} (hc : c = .seq x y) (hy : (g30X R) y K = G) : (g30X R) c K = (g30X R) x (kSeq G K) := seq_cut hc hy
theorem g30blk (R : Fn) {c x : Code} {K : Kon} {i : Nat} (hc : c = .block i x) : (g30X R) c K = (g30X R) x (kBlk i K) := blk_cut hc
theorem g30loop (R : Fn) {c x : Code} {K : Kon} (hc : c = .loop x) : (g30X R) c K = aloop ((g30X R) x) K big := loop_cut hc
theorem g30cond (R : Fn) {c x y : Code} {K : Kon} {v : Operand} {F G : Env → St → Res} (hc : c = .cond v x y) (hx : (g30X R) x K = F) (hy : (g30X R) y K = G) : (g30X R) c K = condF v F G := cond_cut hc hx hy
noncomputable def g30k0 (R : Fn) : Kon := kSeq ((g30X R) (g30C [1, 1, 1, 1]) ((g30kr R))) ((g30kr R))
noncomputable def g30k1 (R : Fn) : Kon := kBlk 0 ((g30k0 R))
noncomputable def g30k2 (R : Fn) (L111010 : V → V → V → V → St → Res) : Kon := kSeq (fun env st => L111010 (env 0) (env 1) (env 5) (env 6) st) ((g30k1 R))
noncomputable def g30k3 (R : Fn) (L111010 : V → V → V → V → St → Res) : Kon := kSeq ((g30X R) (g30C [1, 1, 1, 0, 1, 0, 0, 1, 1]) ((g30k2 R) L111010)) ((g30k2 R) L111010)
noncomputable def g30k4 (R : Fn) (L111010 : V → V → V → V → St → Res) : Kon := kBlk 1 ((g30k3 R) L111010)
noncomputable def g30k5 (R : Fn) (L111010 : V → V → V → V → St → Res) : Kon := kBlk 2 ((g30k4 R) L111010)
noncomputable def g30b1110100100110 (R : Fn) (L111010 : V → V → V → V → St → Res) : Nat → V → V → V → V → V → V → St → Res
| 0, _, _, _, _, _, _, _ => none
| n + 1, x0, x1, x5, x6, x7, x8, st =>
 A.lenL x7 fun a1 =>
 A.bin .lss x8 a1 fun a2 =>
 A.cond a2
 (A.bslice 1 (.int .i64 0) 1 [(0, x6)] fun a3 =>
 A.iaddr 1 x7 x8 fun a4 =>
 A.load false 1 a4 st fun a5 z6 =>
 A.app 1 a3 (elemsOf 5 1 a5 z6) z6 fun a7 z8 =>
 A.bslice 1 (.lst [] 1) 1 [(0, a7)] fun a9 =>
 A.app 1 x5 (elemsOf 5 1 a9 z8) z8 fun a10 z11 =>
 A.bin .add x8 (.int .i64 1) fun a12 =>
 ((g30b1110100100110 R) L111010 n) x0 x1 a10 x6 x7 a12 z11)
 (A.bin .add x6 (.int .i64 1) fun a13 =>
 L111010 x0 x1 x5 a13 st)
theorem g30n1110100100110 : g30C [1, 1, 1, 0, 1, 0, 0, 1, 0, 0, 1, 1, 0] = .loop (g30C [1, 1, 1, 0, 1, 0, 0, 1, 0, 0, 1, 1, 0, 0]) := by kernel_rfl
noncomputable def g30k6 (R : Fn) (L111010 : V → V → V → V → St → Res) (L1110100100110 : V → V → V → V → V → V → St → Res) : Kon := kSeq (fun env st => L1110100100110 (env 0) (env 1) (env 5) (env 6) (env 7) (env 8) st) ((g30k5 R) L111010)
theorem g30e1110100100110 (R : Fn) (L111010 : V → V → V → V → St → Res) : (g30X R) (g30C [1, 1, 1, 0, 1, 0, 0, 1, 0, 0, 1, 1, 0]) ((g30k5 R) L111010) = fun env st => (g30b1110100100110 R) L111010 big (env 0) (env 1) (env 5) (env 6) (env 7) (env 8) st := by
  have key : ∀ n, aloop ((g30X R) (g30C [1, 1, 1, 0, 1, 0, 0, 1, 0, 0, 1, 1, 0, 0])) ((g30k5 R) L111010) n = fun env st => (g30b1110100100110 R) L111010 n (env 0) (env 1) (env 5) (env 6) (env 7) (env 8) st := by
    intro n
    induction n with
    | zero => rfl
    | succ n ih =>
      have h : aloop ((g30X R) (g30C [1, 1, 1, 0, 1, 0, 0, 1, 0, 0, 1, 1, 0, 0])) ((g30k5 R) L111010) (n + 1) = (g30X R) (g30C [1, 1, 1, 0, 1, 0, 0, 1, 0, 0, 1, 1, 0, 0]) (kSeq (aloop ((g30X R) (g30C [1, 1, 1, 0, 1, 0, 0, 1, 0, 0, 1, 1, 0, 0])) ((g30k5 R) L111010) n) ((g30k5 R) L111010)) := rfl
      rw [h, ih]
      refine Eq.trans (Eq.refl _) ?_
      funext env st
      kernel_rfl
  exact ((g30loop R) g30n1110100100110).trans (key big)
noncomputable def g30b111010010011 (R : Fn) (L111010 : V → V → V → V → St → Res) (x0 : V) (x1 : V) (x5 : V) (x6 : V) (x7 : V) (x8 : V) (st : St) : Res :=
 (g30b1110100100110 R) L111010 big x0 x1 x5 x6 x7 x8 st
theorem g30n111010010011 : g30C [1, 1, 1, 0, 1, 0, 0, 1, 0, 0, 1, 1] = .block 2 (g30C [1, 1, 1, 0, 1, 0, 0, 1, 0, 0, 1, 1, 0]) := by kernel_rfl
theorem g30e111010010011 (R : Fn) (L111010 : V → V → V → V → St → Res) : (g30X R) (g30C [1, 1, 1, 0, 1, 0, 0, 1, 0, 0, 1, 1]) ((g30k4 R) L111010) = fun env st => (g30b111010010011 R) L111010 (env 0) (env 1) (env 5) (env 6) (env 7) (env 8) st := by
  refine Eq.trans (((g30blk R) g30n111010010011).trans ((g30e1110100100110 R) L111010)) ?_
  funext env st
  kernel_rfl
noncomputable def g30b111010 (R : Fn) : Nat → V → V → V → V → St → Res
| 0, _, _, _, _, _ => none
| n + 1, x0, x1, x5, x6, st =>
 A.bin .leq x6 x1 fun a1 =>
 A.cond a1
 (A.bin .sub x0 (.int .i64 1) fun a2 =>
 A.bin .quo x1 x6 fun a3 =>
 A.ret (R [a2.er1, a3.er1] st) fun a4 z5 =>
 (g30b111010010011 R) ((g30b111010 R) n) x0 x1 x5 x6 a4 (.int .i64 0) z5)
 (some (.ret x5.er1, st))
theorem g30n111010 : g30C [1, 1, 1, 0, 1, 0] = .loop (g30C [1, 1, 1, 0, 1, 0, 0]) := by kernel_rfl
theorem g30n1110100 : g30C [1, 1, 1, 0, 1, 0, 0] = .seq (g30C [1, 1, 1, 0, 1, 0, 0, 0]) (g30C [1, 1, 1, 0, 1, 0, 0, 1]) := by kernel_rfl
theorem g30n11101001 : g30C [1, 1, 1, 0, 1, 0, 0, 1] = .seq (g30C [1, 1, 1, 0, 1, 0, 0, 1, 0]) (g30C [1, 1, 1, 0, 1, 0, 0, 1, 1]) := by kernel_rfl
theorem g30n111010010 : g30C [1, 1, 1, 0, 1, 0, 0, 1, 0] = .block 1 (g30C [1, 1, 1, 0, 1, 0, 0, 1, 0, 0]) := by kernel_rfl
theorem g30n1110100100 : g30C [1, 1, 1, 0, 1, 0, 0, 1, 0, 0] = .seq (g30C [1, 1, 1, 0, 1, 0, 0, 1, 0, 0, 0]) (g30C [1, 1, 1, 0, 1, 0, 0, 1, 0, 0, 1]) := by kernel_rfl
theorem g30n11101001001 : g30C [1, 1, 1, 0, 1, 0, 0, 1, 0, 0, 1] = .seq (g30C [1, 1, 1, 0, 1, 0, 0, 1, 0, 0, 1, 0]) (g30C [1, 1, 1, 0, 1, 0, 0, 1, 0, 0, 1, 1]) := by kernel_rfl
theorem g30e111010 (R : Fn) : (g30X R) (g30C [1, 1, 1, 0, 1, 0]) ((g30k1 R)) = fun env st => (g30b111010 R) big (env 0) (env 1) (env 5) (env 6) st := by
  have key : ∀ n, aloop ((g30X R) (g30C [1, 1, 1, 0, 1, 0, 0])) ((g30k1 R)) n = fun env st => (g30b111010 R) n (env 0) (env 1) (env 5) (env 6) st := by
    intro n
    induction n with
    | zero => rfl
    | succ n ih =>
      have h : aloop ((g30X R) (g30C [1, 1, 1, 0, 1, 0, 0])) ((g30k1 R)) (n + 1) = (g30X R) (g30C [1, 1, 1, 0, 1, 0, 0]) (kSeq (aloop ((g30X R) (g30C [1, 1, 1, 0, 1, 0, 0])) ((g30k1 R)) n) ((g30k1 R))) := rfl
      rw [h, ih]
      refine Eq.trans ((g30seq R) g30n1110100 (((g30seq R) g30n11101001 rfl).trans (((g30blk R) g30n111010010).trans ((g30seq R) g30n1110100100 ((g30seq R) g30n11101001001 ((g30e111010010011 R) ((g30b111010 R) n))))))) ?_
      funext env st
      kernel_rfl
  exact ((g30loop R) g30n111010).trans (key big)
noncomputable def f30 (R : Fn) (x0 : V) (x1 : V) (st : St) : Res :=
 A.eql 2 false x0 (.int .i64 0) fun a1 =>
 A.cond a1
 (A.bslice 1 (.lst [] 1) 1 [(0, (.lst [] 1))] fun a2 =>
 some (.ret a2.er1, st))
 ((g30b111010 R) big x0 x1 (.lst [] 1) (.int .i64 1) st)
theorem g30nr : g30C [] = .seq (g30C [0]) (g30C [1]) := by kernel_rfl
theorem g30n1 : g30C [1] = .seq (g30C [1, 0]) (g30C [1, 1]) := by kernel_rfl
theorem g30n11 : g30C [1, 1] = .seq (g30C [1, 1, 0]) (g30C [1, 1, 1]) := by kernel_rfl
theorem g30n111 : g30C [1, 1, 1] = .seq (g30C [1, 1, 1, 0]) (g30C [1, 1, 1, 1]) := by kernel_rfl
theorem g30n1110 : g30C [1, 1, 1, 0] = .seq (g30C [1, 1, 1, 0, 0]) (g30C [1, 1, 1, 0, 1]) := by kernel_rfl
theorem g30n11101 : g30C [1, 1, 1, 0, 1] = .block 0 (g30C [1, 1, 1, 0, 1, 0]) := by kernel_rfl
theorem g30er (R : Fn) (env : Env) (st : St) : (g30X R) (g30C []) (g30kr R) env st = (f30 R) (env 0) (env 1) st := by
  rw [((g30seq R) g30nr ((g30seq R) g30n1 ((g30seq R) g30n11 (((g30seq R) g30n111 rfl).trans ((g30seq R) g30n1110 (((g30blk R) g30n11101).trans ((g30e111010 R))))))))]
  kernel_rfl
theorem s30n_eq (n : Nat) (x0 : V) (x1 : V) (st : St) : s30n (n + 1) [x0, x1] st = fg ((f30 (s30n n)) x0 x1 st) st := by
  have h : afn Try.prog g30mu (g30T (s30n n)) big (areg Try.prog g30mu (g30T (s30n n))) 30 [x0, x1] st = (g30X (s30n n)) (g30C []) (g30kr (s30n n)) (fun t => [x0, x1].getD t (.tup [])) st := by kernel_rfl
  show fg (afn Try.prog g30mu (g30T (s30n n)) big (areg Try.prog g30mu (g30T (s30n n))) 30 _ st) st = fg _ st
  refine congrArg (fun r => fg r st) ?_
  exact h.trans ((g30er (s30n n)) _ st)
/-! sinew/sinewref13.Shares -/
def g13mu : Nat → Bool := fun _ => false
noncomputable def g13T : Tbl := tget [(17, s17), (29, s29), (30, s30)]
theorem g13t : SimT Try.prog g13T := simT_cons sim17 ( simT_cons sim29 ( simT_cons sim30 (simT_nil)))
noncomputable def s13 : Fn := sealF (fun args st => fg (afn Try.prog g13mu g13T big (areg Try.prog g13mu g13T) 13 args st) st)
theorem sim13 : Sim Try.prog 13 s13 := (afn_sim g13t (fun m => areg_sound g13t hmix m) 13 (by kernel_rfl)).fg.sealed
noncomputable def g13C (p : List Nat) : Code := sub (match Try.f13.body with | some c => c | none => .skip) p
noncomputable def g13X (c : Code) (K : Kon) : Env → St → Res := aexec Try.prog g13mu g13T big 48 (areg Try.prog g13mu g13T 48) c K
noncomputable def g13kr : Kon := aresK Try.prog Try.f13.results.toList
theorem g13reg {c : Code} {K : Kon} {G : Env → St → Res} {id : Nat} {ops : Array Oper} {l1 l2 : List Nat} (hc : c = .region id ops false) (hl : List.range ops.size = l1 ++ l2) (h : (fun env st => aops Try.prog g13mu g13T 48 ops l2 env st (K .normal)) = G) : g13X c K = fun env st => aops Try.prog g13mu g13T 48 ops l1 env st G := reg_cut hc hl h
theorem g13seq {c x y : Code} {K : Kon} {G : Env → St → Res} (hc : c = .seq x y) (hy : g13X y K = G) : g13X c K = g13X x (kSeq G K) := seq_cut hc hy
theorem g13blk {c x : Code} {K : Kon} {i : Nat} (hc : c = .block i x) : g13X c K = g13X x (kBlk i K) := blk_cut hc
theorem g13loop {c x : Code} {K : Kon} (hc : c = .loop x) : g13X c K = aloop (g13X x) K big := loop_cut hc
theorem g13cond {c x y : Code} {K : Kon} {v : Operand} {F G : Env → St → Res} (hc : c = .cond v x y) (hx : g13X x K = F) (hy : g13X y K = G) : g13X c K = condF v F G := cond_cut hc hx hy
noncomputable def g13k0 : Kon := kSeq (g13X (g13C [1, 1, 1, 1, 1]) (g13kr)) (g13kr)
noncomputable def g13k1 : Kon := kBlk 0 (g13k0)
noncomputable def g13b1111010 : Nat → V → V → V → V → V → St → Res
| 0, _, _, _, _, _, _ => none
| n + 1, x2, x3, x10, x11, x12, st =>
 A.lenL x10 fun a1 =>
 A.bin .lss x12 a1 fun a2 =>
 A.cond a2
 (A.iaddr 1 x10 x12 fun a3 =>
 A.load false 1 a3 st fun a4 _ =>
 A.noP (A.ret (s17 [a4.er1, x2.er1, x3.er1] st) kid) fun a5 z6 =>
 A.iaddr 1 x10 x11 fun a7 =>
 A.load false 1 a7 z6 fun a8 _ =>
 A.chk (ldv false 1 a7 st) a8
 (A.noP (A.ret (s17 [a8.er1, x2.er1, x3.er1] z6) kid) fun a9 z10 =>
 A.bin .lss a5 a9 fun a11 =>
 A.cond a11
 (A.bin .add x12 (.int .i64 1) fun a12 =>
 (g13b1111010 n) x2 x3 x10 x12 a12 z10)
 (A.bin .add x12 (.int .i64 1) fun a13 =>
 (g13b1111010 n) x2 x3 x10 x11 a13 z10)))
 (A.iaddr 1 x10 x11 fun a14 =>
 A.load false 1 a14 st fun a15 z16 =>
 some (.ret (.tup [a15.er1, ((.int .i64 0) : V).er1]), z16))
theorem g13n1111010 : g13C [1, 1, 1, 1, 0, 1, 0] = .loop (g13C [1, 1, 1, 1, 0, 1, 0, 0]) := by kernel_rfl
noncomputable def g13k2 (L1111010 : V → V → V → V → V → St → Res) : Kon := kSeq (fun env st => L1111010 (env 2) (env 3) (env 10) (env 11) (env 12) st) (g13k1)
theorem g13e1111010 : g13X (g13C [1, 1, 1, 1, 0, 1, 0]) (g13k1) = fun env st => g13b1111010 big (env 2) (env 3) (env 10) (env 11) (env 12) st := by
  have key : ∀ n, aloop (g13X (g13C [1, 1, 1, 1, 0, 1, 0, 0])) (g13k1) n = fun env st => g13b1111010 n (env 2) (env 3) (env 10) (env 11) (env 12) st := by
    intro n
    induction n with
    | zero => rfl
    | succ n ih =>
      have h : aloop (g13X (g13C [1, 1, 1, 1, 0, 1, 0, 0])) (g13k1) (n + 1) = g13X (g13C [1, 1, 1, 1, 0, 1, 0, 0]) (kSeq (aloop (g13X (g13C [1, 1, 1, 1, 0, 1, 0, 0])) (g13k1) n) (g13k1)) := rfl
      rw [h, ih]
      refine Eq.trans (Eq.refl _) ?_
      funext env st
      kernel_rfl
  exact (g13loop g13n1111010).trans (key big)
noncomputable def g13b111 (x2 : V) (x3 : V) (x10 : V) (st : St) : Res :=
 g13b1111010 big x2 x3 x10 (.int .i64 0) (.int .i64 1) st
theorem g13n111 : g13C [1, 1, 1] = .seq (g13C [1, 1, 1, 0]) (g13C [1, 1, 1, 1]) := by kernel_rfl
theorem g13n1111 : g13C [1, 1, 1, 1] = .seq (g13C [1, 1, 1, 1, 0]) (g13C [1, 1, 1, 1, 1]) := by kernel_rfl
theorem g13n11110 : g13C [1, 1, 1, 1, 0] = .seq (g13C [1, 1, 1, 1, 0, 0]) (g13C [1, 1, 1, 1, 0, 1]) := by kernel_rfl
theorem g13n111101 : g13C [1, 1, 1, 1, 0, 1] = .block 0 (g13C [1, 1, 1, 1, 0, 1, 0]) := by kernel_rfl
theorem g13e111 : g13X (g13C [1, 1, 1]) (g13kr) = fun env st => g13b111 (env 2) (env 3) (env 10) st := by
  refine Eq.trans (g13seq g13n111 ((g13seq g13n1111 rfl).trans (g13seq g13n11110 ((g13blk g13n111101).trans (g13e1111010))))) ?_
  funext env st
  kernel_rfl
noncomputable def f13 (x0 : V) (x1 : V) (x2 : V) (x3 : V) (st : St) : Res :=
 A.ret (s29 [x0.er1, x1.er1, x2.er1, x3.er1] st) fun a1 z2 =>
 A.un .not a1 fun a3 =>
 A.cond a3
 (some (.ret (.tup [((.lst [] 1) : V).er1, ((.int .i64 1) : V).er1]), z2))
 (A.ret (s30 [x1.er1, x0.er1] z2) fun a4 z5 =>
 g13b111 x2 x3 a4 z5)
theorem g13nr : g13C [] = .seq (g13C [0]) (g13C [1]) := by kernel_rfl
theorem g13n1 : g13C [1] = .seq (g13C [1, 0]) (g13C [1, 1]) := by kernel_rfl
theorem g13n11 : g13C [1, 1] = .seq (g13C [1, 1, 0]) (g13C [1, 1, 1]) := by kernel_rfl
theorem g13er (env : Env) (st : St) : g13X (g13C []) g13kr env st = f13 (env 0) (env 1) (env 2) (env 3) st := by
  rw [(g13seq g13nr (g13seq g13n1 (g13seq g13n11 (g13e111))))]
  kernel_rfl
theorem s13_eq (x0 : V) (x1 : V) (x2 : V) (x3 : V) (st : St) : s13 [x0, x1, x2, x3] st = fg (f13 x0 x1 x2 x3 st) st := by
  have h : afn Try.prog g13mu g13T big (areg Try.prog g13mu g13T) 13 [x0, x1, x2, x3] st = g13X (g13C []) g13kr (fun t => [x0, x1, x2, x3].getD t (.tup [])) st := by kernel_rfl
  rw [s13, sealF_eq]
  show fg _ st = fg _ st
  refine congrArg (fun r => fg r st) ?_
  exact h.trans (g13er _ st)
/-! sinew/sinewlaw13.ShareShares -/
def g3mu : Nat → Bool := fun _ => false
noncomputable def g3T : Tbl := tget [(10, s10), (11, s11), (12, s12), (13, s13), (14, s14)]
theorem g3t : SimT Try.prog g3T := simT_cons sim10 ( simT_cons sim11 ( simT_cons sim12 ( simT_cons sim13 ( simT_cons sim14 (simT_nil)))))
noncomputable def s3 : Fn := sealF (afn Try.prog g3mu g3T big (areg Try.prog g3mu g3T) 3)
theorem sim3 : Sim Try.prog 3 s3 := (afn_sim g3t (fun m => areg_sound g3t hmix m) 3 (by kernel_rfl)).sealed
noncomputable def g3C (p : List Nat) : Code := sub (match Try.f3.body with | some c => c | none => .skip) p
noncomputable def g3X (c : Code) (K : Kon) : Env → St → Res := aexec Try.prog g3mu g3T big 66 (areg Try.prog g3mu g3T 66) c K
noncomputable def g3kr : Kon := aresK Try.prog Try.f3.results.toList
theorem g3reg {c : Code} {K : Kon} {G : Env → St → Res} {id : Nat} {ops : Array Oper} {l1 l2 : List Nat} (hc : c = .region id ops false) (hl : List.range ops.size = l1 ++ l2) (h : (fun env st => aops Try.prog g3mu g3T 66 ops l2 env st (K .normal)) = G) : g3X c K = fun env st => aops Try.prog g3mu g3T 66 ops l1 env st G := reg_cut hc hl h
theorem g3seq {c x y : Code} {K : Kon} {G : Env → St → Res} (hc : c = .seq x y) (hy : g3X y K = G) : g3X c K = g3X x (kSeq G K) := seq_cut hc hy
theorem g3blk {c x : Code} {K : Kon} {i : Nat} (hc : c = .block i x) : g3X c K = g3X x (kBlk i K) := blk_cut hc
theorem g3loop {c x : Code} {K : Kon} (hc : c = .loop x) : g3X c K = aloop (g3X x) K big := loop_cut hc
theorem g3cond {c x y : Code} {K : Kon} {v : Operand} {F G : Env → St → Res} (hc : c = .cond v x y) (hx : g3X x K = F) (hy : g3X y K = G) : g3X c K = condF v F G := cond_cut hc hx hy
noncomputable def g3b1111 (x7 : V) (x8 : V) (x9 : V) (x10 : V) (st : St) : Res :=
 A.ret (s14 [x7.er1, x9.er1] st) fun a1 z2 =>
 A.guard a1 true
 (A.eql 2 false x8 x10 fun a3 =>
 A.guard a3 true
 (A.ret (s11 [] z2) fun a4 z5 =>
 some (.ret a4.er1, z5))
 (some (.ret ((.bool false) : V).er1, z2)))
 (some (.ret ((.bool false) : V).er1, z2))
theorem g3e1111 : g3X (g3C [1, 1, 1, 1]) (g3kr) = fun env st => g3b1111 (env 7) (env 8) (env 9) (env 10) st := by
  refine Eq.trans (Eq.refl (g3X (g3C [1, 1, 1, 1]) (g3kr))) ?_
  funext env st
  kernel_rfl
noncomputable def g3b111 (x1 : V) (x2 : V) (x3 : V) (x7 : V) (x8 : V) (st : St) : Res :=
 A.iaddrA 2 1 x3 (.int .i64 0) fun a1 =>
 A.load false 1 a1 st fun a2 z3 =>
 A.iaddrA 2 1 x3 (.int .i64 1) fun a4 =>
 A.load false 1 a4 z3 fun a5 z6 =>
 A.ret (s13 [a2.er1, a5.er1, x1.er1, x2.er1] z6) fun a7 z8 =>
 A.ext a7 0 fun a9 =>
 A.ext a7 1 fun a10 =>
 g3b1111 x7 x8 a9 a10 z8
theorem g3n111 : g3C [1, 1, 1] = .seq (g3C [1, 1, 1, 0]) (g3C [1, 1, 1, 1]) := by kernel_rfl
theorem g3e111 : g3X (g3C [1, 1, 1]) (g3kr) = fun env st => g3b111 (env 1) (env 2) (env 3) (env 7) (env 8) st := by
  refine Eq.trans (g3seq g3n111 (g3e1111)) ?_
  funext env st
  kernel_rfl
noncomputable def g3b11 (x1 : V) (x2 : V) (x3 : V) (st : St) : Res :=
 A.iaddrA 2 1 x3 (.int .i64 0) fun a1 =>
 A.load false 1 a1 st fun a2 z3 =>
 A.iaddrA 2 1 x3 (.int .i64 1) fun a4 =>
 A.load false 1 a4 z3 fun a5 z6 =>
 A.ret (s12 [a2.er1, a5.er1, x1.er1, x2.er1] z6) fun a7 z8 =>
 A.ext a7 0 fun a9 =>
 A.ext a7 1 fun a10 =>
 g3b111 x1 x2 x3 a9 a10 z8
theorem g3n11 : g3C [1, 1] = .seq (g3C [1, 1, 0]) (g3C [1, 1, 1]) := by kernel_rfl
theorem g3e11 : g3X (g3C [1, 1]) (g3kr) = fun env st => g3b11 (env 1) (env 2) (env 3) st := by
  refine Eq.trans (g3seq g3n11 (g3e111)) ?_
  funext env st
  kernel_rfl
noncomputable def f3 (x0 : V) (x1 : V) (x2 : V) (st : St) : Res :=
 A.box x0 st fun a1 z2 =>
 A.ret (s10 [x1.er1] z2) fun a3 z4 =>
 A.un .not a3 fun a5 =>
 A.guard a5 false
 (A.iaddrA 2 1 a1 (.int .i64 0) fun a6 =>
 A.load false 1 a6 z4 fun a7 z8 =>
 A.bin .gtr a7 (.int .i64 16) fun a9 =>
 A.guardT a9 true
 (A.iaddrA 2 1 a1 (.int .i64 0) fun a10 =>
 A.load false 1 a10 z8 fun a11 z12 =>
 A.bin .leq a11 (.int .i64 64) fun a13 =>
 A.guardT a13 true
 (A.iaddrA 2 1 a1 (.int .i64 1) fun a14 =>
 A.load false 1 a14 z12 fun a15 z16 =>
 A.bin .gtr a15 (.int .i64 4) fun a17 =>
 A.guardT a17 true
 (A.iaddrA 2 1 a1 (.int .i64 1) fun a18 =>
 A.load false 1 a18 z16 fun a19 z20 =>
 A.bin .leq a19 (.int .i64 6) fun a21 =>
 A.cond a21
 (A.ret (s11 [] z20) fun a22 z23 =>
 some (.ret a22.er1, z23))
 (g3b11 x1 x2 a1 z20))
 (g3b11 x1 x2 a1 z16)
 (A.guardT a17 true
 (A.load false 1 (.tup []) z16 fun a24 z25 =>
 A.bin .leq a24 (.int .i64 6) fun a26 =>
 A.cond a26
 (A.ret (s11 [] z25) fun a27 z28 =>
 some (.ret a27.er1, z28))
 (g3b11 x1 x2 a1 z25))
 (g3b11 x1 x2 a1 z16)
 (A.guardT a17 true
 (A.bin .leq (.tup []) (.int .i64 6) fun a29 =>
 A.cond a29
 (A.ret (s11 [] z16) fun a30 z31 =>
 some (.ret a30.er1, z31))
 (g3b11 x1 x2 a1 z16))
 (g3b11 x1 x2 a1 z16)
 (A.pick a17 (.tup []) (.bool false) fun a32 =>
 A.cond a32
 (A.ret (s11 [] z16) fun a33 z34 =>
 some (.ret a33.er1, z34))
 (g3b11 x1 x2 a1 z16)))))
 (g3b11 x1 x2 a1 z12)
 (A.guardT a13 true
 (A.load false 1 (.tup []) z12 fun a35 z36 =>
 A.bin .gtr a35 (.int .i64 4) fun a37 =>
 A.guardT a37 true
 (A.iaddrA 2 1 a1 (.int .i64 1) fun a38 =>
 A.load false 1 a38 z36 fun a39 z40 =>
 A.bin .leq a39 (.int .i64 6) fun a41 =>
 A.cond a41
 (A.ret (s11 [] z40) fun a42 z43 =>
 some (.ret a42.er1, z43))
 (g3b11 x1 x2 a1 z40))
 (g3b11 x1 x2 a1 z36)
 (A.guardT a37 true
 (A.load false 1 (.tup []) z36 fun a44 z45 =>
 A.bin .leq a44 (.int .i64 6) fun a46 =>
 A.cond a46
 (A.ret (s11 [] z45) fun a47 z48 =>
 some (.ret a47.er1, z48))
 (g3b11 x1 x2 a1 z45))
 (g3b11 x1 x2 a1 z36)
 (A.guardT a37 true
 (A.bin .leq (.tup []) (.int .i64 6) fun a49 =>
 A.cond a49
 (A.ret (s11 [] z36) fun a50 z51 =>
 some (.ret a50.er1, z51))
 (g3b11 x1 x2 a1 z36))
 (g3b11 x1 x2 a1 z36)
 (A.pick a37 (.tup []) (.bool false) fun a52 =>
 A.cond a52
 (A.ret (s11 [] z36) fun a53 z54 =>
 some (.ret a53.er1, z54))
 (g3b11 x1 x2 a1 z36)))))
 (g3b11 x1 x2 a1 z12)
 (A.guardT a13 true
 (A.bin .gtr (.tup []) (.int .i64 4) fun a55 =>
 A.guardT a55 true
 (A.iaddrA 2 1 a1 (.int .i64 1) fun a56 =>
 A.load false 1 a56 z12 fun a57 z58 =>
 A.bin .leq a57 (.int .i64 6) fun a59 =>
 A.cond a59
 (A.ret (s11 [] z58) fun a60 z61 =>
 some (.ret a60.er1, z61))
 (g3b11 x1 x2 a1 z58))
 (g3b11 x1 x2 a1 z12)
 (A.guardT a55 true
 (A.load false 1 (.tup []) z12 fun a62 z63 =>
 A.bin .leq a62 (.int .i64 6) fun a64 =>
 A.cond a64
 (A.ret (s11 [] z63) fun a65 z66 =>
 some (.ret a65.er1, z66))
 (g3b11 x1 x2 a1 z63))
 (g3b11 x1 x2 a1 z12)
 (A.guardT a55 true
 (A.bin .leq (.tup []) (.int .i64 6) fun a67 =>
 A.cond a67
 (A.ret (s11 [] z12) fun a68 z69 =>
 some (.ret a68.er1, z69))
 (g3b11 x1 x2 a1 z12))
 (g3b11 x1 x2 a1 z12)
 (A.pick a55 (.tup []) (.bool false) fun a70 =>
 A.cond a70
 (A.ret (s11 [] z12) fun a71 z72 =>
 some (.ret a71.er1, z72))
 (g3b11 x1 x2 a1 z12)))))
 (g3b11 x1 x2 a1 z12)
 (A.pick a13 (.tup []) (.bool false) fun a73 =>
 A.guardT a73 true
 (A.iaddrA 2 1 a1 (.int .i64 1) fun a74 =>
 A.load false 1 a74 z12 fun a75 z76 =>
 A.bin .leq a75 (.int .i64 6) fun a77 =>
 A.cond a77
 (A.ret (s11 [] z76) fun a78 z79 =>
 some (.ret a78.er1, z79))
 (g3b11 x1 x2 a1 z76))
 (g3b11 x1 x2 a1 z12)
 (A.guardT a73 true
 (A.load false 1 (.tup []) z12 fun a80 z81 =>
 A.bin .leq a80 (.int .i64 6) fun a82 =>
 A.cond a82
 (A.ret (s11 [] z81) fun a83 z84 =>
 some (.ret a83.er1, z84))
 (g3b11 x1 x2 a1 z81))
 (g3b11 x1 x2 a1 z12)
 (A.guardT a73 true
 (A.bin .leq (.tup []) (.int .i64 6) fun a85 =>
 A.cond a85
 (A.ret (s11 [] z12) fun a86 z87 =>
 some (.ret a86.er1, z87))
 (g3b11 x1 x2 a1 z12))
 (g3b11 x1 x2 a1 z12)
 (A.pick a73 (.tup []) (.bool false) fun a88 =>
 A.cond a88
 (A.ret (s11 [] z12) fun a89 z90 =>
 some (.ret a89.er1, z90))
 (g3b11 x1 x2 a1 z12))))))))
 (g3b11 x1 x2 a1 z8)
 (A.guardT a9 true
 (A.load false 1 (.tup []) z8 fun a91 z92 =>
 A.bin .leq a91 (.int .i64 64) fun a93 =>
 A.guardT a93 true
 (A.iaddrA 2 1 a1 (.int .i64 1) fun a94 =>
 A.load false 1 a94 z92 fun a95 z96 =>
 A.bin .gtr a95 (.int .i64 4) fun a97 =>
 A.guardT a97 true
 (A.iaddrA 2 1 a1 (.int .i64 1) fun a98 =>
 A.load false 1 a98 z96 fun a99 z100 =>
 A.bin .leq a99 (.int .i64 6) fun a101 =>
 A.cond a101
 (A.ret (s11 [] z100) fun a102 z103 =>
 some (.ret a102.er1, z103))
 (g3b11 x1 x2 a1 z100))
 (g3b11 x1 x2 a1 z96)
 (A.guardT a97 true
 (A.load false 1 (.tup []) z96 fun a104 z105 =>
 A.bin .leq a104 (.int .i64 6) fun a106 =>
 A.cond a106
 (A.ret (s11 [] z105) fun a107 z108 =>
 some (.ret a107.er1, z108))
 (g3b11 x1 x2 a1 z105))
 (g3b11 x1 x2 a1 z96)
 (A.guardT a97 true
 (A.bin .leq (.tup []) (.int .i64 6) fun a109 =>
 A.cond a109
 (A.ret (s11 [] z96) fun a110 z111 =>
 some (.ret a110.er1, z111))
 (g3b11 x1 x2 a1 z96))
 (g3b11 x1 x2 a1 z96)
 (A.pick a97 (.tup []) (.bool false) fun a112 =>
 A.cond a112
 (A.ret (s11 [] z96) fun a113 z114 =>
 some (.ret a113.er1, z114))
 (g3b11 x1 x2 a1 z96)))))
 (g3b11 x1 x2 a1 z92)
 (A.guardT a93 true
 (A.load false 1 (.tup []) z92 fun a115 z116 =>
 A.bin .gtr a115 (.int .i64 4) fun a117 =>
 A.guardT a117 true
 (A.iaddrA 2 1 a1 (.int .i64 1) fun a118 =>
 A.load false 1 a118 z116 fun a119 z120 =>
 A.bin .leq a119 (.int .i64 6) fun a121 =>
 A.cond a121
 (A.ret (s11 [] z120) fun a122 z123 =>
 some (.ret a122.er1, z123))
 (g3b11 x1 x2 a1 z120))
 (g3b11 x1 x2 a1 z116)
 (A.guardT a117 true
 (A.load false 1 (.tup []) z116 fun a124 z125 =>
 A.bin .leq a124 (.int .i64 6) fun a126 =>
 A.cond a126
 (A.ret (s11 [] z125) fun a127 z128 =>
 some (.ret a127.er1, z128))
 (g3b11 x1 x2 a1 z125))
 (g3b11 x1 x2 a1 z116)
 (A.guardT a117 true
 (A.bin .leq (.tup []) (.int .i64 6) fun a129 =>
 A.cond a129
 (A.ret (s11 [] z116) fun a130 z131 =>
 some (.ret a130.er1, z131))
 (g3b11 x1 x2 a1 z116))
 (g3b11 x1 x2 a1 z116)
 (A.pick a117 (.tup []) (.bool false) fun a132 =>
 A.cond a132
 (A.ret (s11 [] z116) fun a133 z134 =>
 some (.ret a133.er1, z134))
 (g3b11 x1 x2 a1 z116)))))
 (g3b11 x1 x2 a1 z92)
 (A.guardT a93 true
 (A.bin .gtr (.tup []) (.int .i64 4) fun a135 =>
 A.guardT a135 true
 (A.iaddrA 2 1 a1 (.int .i64 1) fun a136 =>
 A.load false 1 a136 z92 fun a137 z138 =>
 A.bin .leq a137 (.int .i64 6) fun a139 =>
 A.cond a139
 (A.ret (s11 [] z138) fun a140 z141 =>
 some (.ret a140.er1, z141))
 (g3b11 x1 x2 a1 z138))
 (g3b11 x1 x2 a1 z92)
 (A.guardT a135 true
 (A.load false 1 (.tup []) z92 fun a142 z143 =>
 A.bin .leq a142 (.int .i64 6) fun a144 =>
 A.cond a144
 (A.ret (s11 [] z143) fun a145 z146 =>
 some (.ret a145.er1, z146))
 (g3b11 x1 x2 a1 z143))
 (g3b11 x1 x2 a1 z92)
 (A.guardT a135 true
 (A.bin .leq (.tup []) (.int .i64 6) fun a147 =>
 A.cond a147
 (A.ret (s11 [] z92) fun a148 z149 =>
 some (.ret a148.er1, z149))
 (g3b11 x1 x2 a1 z92))
 (g3b11 x1 x2 a1 z92)
 (A.pick a135 (.tup []) (.bool false) fun a150 =>
 A.cond a150
 (A.ret (s11 [] z92) fun a151 z152 =>
 some (.ret a151.er1, z152))
 (g3b11 x1 x2 a1 z92)))))
 (g3b11 x1 x2 a1 z92)
 (A.pick a93 (.tup []) (.bool false) fun a153 =>
 A.guardT a153 true
 (A.iaddrA 2 1 a1 (.int .i64 1) fun a154 =>
 A.load false 1 a154 z92 fun a155 z156 =>
 A.bin .leq a155 (.int .i64 6) fun a157 =>
 A.cond a157
 (A.ret (s11 [] z156) fun a158 z159 =>
 some (.ret a158.er1, z159))
 (g3b11 x1 x2 a1 z156))
 (g3b11 x1 x2 a1 z92)
 (A.guardT a153 true
 (A.load false 1 (.tup []) z92 fun a160 z161 =>
 A.bin .leq a160 (.int .i64 6) fun a162 =>
 A.cond a162
 (A.ret (s11 [] z161) fun a163 z164 =>
 some (.ret a163.er1, z164))
 (g3b11 x1 x2 a1 z161))
 (g3b11 x1 x2 a1 z92)
 (A.guardT a153 true
 (A.bin .leq (.tup []) (.int .i64 6) fun a165 =>
 A.cond a165
 (A.ret (s11 [] z92) fun a166 z167 =>
 some (.ret a166.er1, z167))
 (g3b11 x1 x2 a1 z92))
 (g3b11 x1 x2 a1 z92)
 (A.pick a153 (.tup []) (.bool false) fun a168 =>
 A.cond a168
 (A.ret (s11 [] z92) fun a169 z170 =>
 some (.ret a169.er1, z170))
 (g3b11 x1 x2 a1 z92))))))))
 (g3b11 x1 x2 a1 z8)
 (A.guardT a9 true
 (A.bin .leq (.tup []) (.int .i64 64) fun a171 =>
 A.guardT a171 true
 (A.iaddrA 2 1 a1 (.int .i64 1) fun a172 =>
 A.load false 1 a172 z8 fun a173 z174 =>
 A.bin .gtr a173 (.int .i64 4) fun a175 =>
 A.guardT a175 true
 (A.iaddrA 2 1 a1 (.int .i64 1) fun a176 =>
 A.load false 1 a176 z174 fun a177 z178 =>
 A.bin .leq a177 (.int .i64 6) fun a179 =>
 A.cond a179
 (A.ret (s11 [] z178) fun a180 z181 =>
 some (.ret a180.er1, z181))
 (g3b11 x1 x2 a1 z178))
 (g3b11 x1 x2 a1 z174)
 (A.guardT a175 true
 (A.load false 1 (.tup []) z174 fun a182 z183 =>
 A.bin .leq a182 (.int .i64 6) fun a184 =>
 A.cond a184
 (A.ret (s11 [] z183) fun a185 z186 =>
 some (.ret a185.er1, z186))
 (g3b11 x1 x2 a1 z183))
 (g3b11 x1 x2 a1 z174)
 (A.guardT a175 true
 (A.bin .leq (.tup []) (.int .i64 6) fun a187 =>
 A.cond a187
 (A.ret (s11 [] z174) fun a188 z189 =>
 some (.ret a188.er1, z189))
 (g3b11 x1 x2 a1 z174))
 (g3b11 x1 x2 a1 z174)
 (A.pick a175 (.tup []) (.bool false) fun a190 =>
 A.cond a190
 (A.ret (s11 [] z174) fun a191 z192 =>
 some (.ret a191.er1, z192))
 (g3b11 x1 x2 a1 z174)))))
 (g3b11 x1 x2 a1 z8)
 (A.guardT a171 true
 (A.load false 1 (.tup []) z8 fun a193 z194 =>
 A.bin .gtr a193 (.int .i64 4) fun a195 =>
 A.guardT a195 true
 (A.iaddrA 2 1 a1 (.int .i64 1) fun a196 =>
 A.load false 1 a196 z194 fun a197 z198 =>
 A.bin .leq a197 (.int .i64 6) fun a199 =>
 A.cond a199
 (A.ret (s11 [] z198) fun a200 z201 =>
 some (.ret a200.er1, z201))
 (g3b11 x1 x2 a1 z198))
 (g3b11 x1 x2 a1 z194)
 (A.guardT a195 true
 (A.load false 1 (.tup []) z194 fun a202 z203 =>
 A.bin .leq a202 (.int .i64 6) fun a204 =>
 A.cond a204
 (A.ret (s11 [] z203) fun a205 z206 =>
 some (.ret a205.er1, z206))
 (g3b11 x1 x2 a1 z203))
 (g3b11 x1 x2 a1 z194)
 (A.guardT a195 true
 (A.bin .leq (.tup []) (.int .i64 6) fun a207 =>
 A.cond a207
 (A.ret (s11 [] z194) fun a208 z209 =>
 some (.ret a208.er1, z209))
 (g3b11 x1 x2 a1 z194))
 (g3b11 x1 x2 a1 z194)
 (A.pick a195 (.tup []) (.bool false) fun a210 =>
 A.cond a210
 (A.ret (s11 [] z194) fun a211 z212 =>
 some (.ret a211.er1, z212))
 (g3b11 x1 x2 a1 z194)))))
 (g3b11 x1 x2 a1 z8)
 (A.guardT a171 true
 (A.bin .gtr (.tup []) (.int .i64 4) fun a213 =>
 A.guardT a213 true
 (A.iaddrA 2 1 a1 (.int .i64 1) fun a214 =>
 A.load false 1 a214 z8 fun a215 z216 =>
 A.bin .leq a215 (.int .i64 6) fun a217 =>
 A.cond a217
 (A.ret (s11 [] z216) fun a218 z219 =>
 some (.ret a218.er1, z219))
 (g3b11 x1 x2 a1 z216))
 (g3b11 x1 x2 a1 z8)
 (A.guardT a213 true
 (A.load false 1 (.tup []) z8 fun a220 z221 =>
 A.bin .leq a220 (.int .i64 6) fun a222 =>
 A.cond a222
 (A.ret (s11 [] z221) fun a223 z224 =>
 some (.ret a223.er1, z224))
 (g3b11 x1 x2 a1 z221))
 (g3b11 x1 x2 a1 z8)
 (A.guardT a213 true
 (A.bin .leq (.tup []) (.int .i64 6) fun a225 =>
 A.cond a225
 (A.ret (s11 [] z8) fun a226 z227 =>
 some (.ret a226.er1, z227))
 (g3b11 x1 x2 a1 z8))
 (g3b11 x1 x2 a1 z8)
 (A.pick a213 (.tup []) (.bool false) fun a228 =>
 A.cond a228
 (A.ret (s11 [] z8) fun a229 z230 =>
 some (.ret a229.er1, z230))
 (g3b11 x1 x2 a1 z8)))))
 (g3b11 x1 x2 a1 z8)
 (A.pick a171 (.tup []) (.bool false) fun a231 =>
 A.guardT a231 true
 (A.iaddrA 2 1 a1 (.int .i64 1) fun a232 =>
 A.load false 1 a232 z8 fun a233 z234 =>
 A.bin .leq a233 (.int .i64 6) fun a235 =>
 A.cond a235
 (A.ret (s11 [] z234) fun a236 z237 =>
 some (.ret a236.er1, z237))
 (g3b11 x1 x2 a1 z234))
 (g3b11 x1 x2 a1 z8)
 (A.guardT a231 true
 (A.load false 1 (.tup []) z8 fun a238 z239 =>
 A.bin .leq a238 (.int .i64 6) fun a240 =>
 A.cond a240
 (A.ret (s11 [] z239) fun a241 z242 =>
 some (.ret a241.er1, z242))
 (g3b11 x1 x2 a1 z239))
 (g3b11 x1 x2 a1 z8)
 (A.guardT a231 true
 (A.bin .leq (.tup []) (.int .i64 6) fun a243 =>
 A.cond a243
 (A.ret (s11 [] z8) fun a244 z245 =>
 some (.ret a244.er1, z245))
 (g3b11 x1 x2 a1 z8))
 (g3b11 x1 x2 a1 z8)
 (A.pick a231 (.tup []) (.bool false) fun a246 =>
 A.cond a246
 (A.ret (s11 [] z8) fun a247 z248 =>
 some (.ret a247.er1, z248))
 (g3b11 x1 x2 a1 z8))))))))
 (g3b11 x1 x2 a1 z8)
 (A.pick a9 (.tup []) (.bool false) fun a249 =>
 A.guardT a249 true
 (A.iaddrA 2 1 a1 (.int .i64 1) fun a250 =>
 A.load false 1 a250 z8 fun a251 z252 =>
 A.bin .gtr a251 (.int .i64 4) fun a253 =>
 A.guardT a253 true
 (A.iaddrA 2 1 a1 (.int .i64 1) fun a254 =>
 A.load false 1 a254 z252 fun a255 z256 =>
 A.bin .leq a255 (.int .i64 6) fun a257 =>
 A.cond a257
 (A.ret (s11 [] z256) fun a258 z259 =>
 some (.ret a258.er1, z259))
 (g3b11 x1 x2 a1 z256))
 (g3b11 x1 x2 a1 z252)
 (A.guardT a253 true
 (A.load false 1 (.tup []) z252 fun a260 z261 =>
 A.bin .leq a260 (.int .i64 6) fun a262 =>
 A.cond a262
 (A.ret (s11 [] z261) fun a263 z264 =>
 some (.ret a263.er1, z264))
 (g3b11 x1 x2 a1 z261))
 (g3b11 x1 x2 a1 z252)
 (A.guardT a253 true
 (A.bin .leq (.tup []) (.int .i64 6) fun a265 =>
 A.cond a265
 (A.ret (s11 [] z252) fun a266 z267 =>
 some (.ret a266.er1, z267))
 (g3b11 x1 x2 a1 z252))
 (g3b11 x1 x2 a1 z252)
 (A.pick a253 (.tup []) (.bool false) fun a268 =>
 A.cond a268
 (A.ret (s11 [] z252) fun a269 z270 =>
 some (.ret a269.er1, z270))
 (g3b11 x1 x2 a1 z252)))))
 (g3b11 x1 x2 a1 z8)
 (A.guardT a249 true
 (A.load false 1 (.tup []) z8 fun a271 z272 =>
 A.bin .gtr a271 (.int .i64 4) fun a273 =>
 A.guardT a273 true
 (A.iaddrA 2 1 a1 (.int .i64 1) fun a274 =>
 A.load false 1 a274 z272 fun a275 z276 =>
 A.bin .leq a275 (.int .i64 6) fun a277 =>
 A.cond a277
 (A.ret (s11 [] z276) fun a278 z279 =>
 some (.ret a278.er1, z279))
 (g3b11 x1 x2 a1 z276))
 (g3b11 x1 x2 a1 z272)
 (A.guardT a273 true
 (A.load false 1 (.tup []) z272 fun a280 z281 =>
 A.bin .leq a280 (.int .i64 6) fun a282 =>
 A.cond a282
 (A.ret (s11 [] z281) fun a283 z284 =>
 some (.ret a283.er1, z284))
 (g3b11 x1 x2 a1 z281))
 (g3b11 x1 x2 a1 z272)
 (A.guardT a273 true
 (A.bin .leq (.tup []) (.int .i64 6) fun a285 =>
 A.cond a285
 (A.ret (s11 [] z272) fun a286 z287 =>
 some (.ret a286.er1, z287))
 (g3b11 x1 x2 a1 z272))
 (g3b11 x1 x2 a1 z272)
 (A.pick a273 (.tup []) (.bool false) fun a288 =>
 A.cond a288
 (A.ret (s11 [] z272) fun a289 z290 =>
 some (.ret a289.er1, z290))
 (g3b11 x1 x2 a1 z272)))))
 (g3b11 x1 x2 a1 z8)
 (A.guardT a249 true
 (A.bin .gtr (.tup []) (.int .i64 4) fun a291 =>
 A.guardT a291 true
 (A.iaddrA 2 1 a1 (.int .i64 1) fun a292 =>
 A.load false 1 a292 z8 fun a293 z294 =>
 A.bin .leq a293 (.int .i64 6) fun a295 =>
 A.cond a295
 (A.ret (s11 [] z294) fun a296 z297 =>
 some (.ret a296.er1, z297))
 (g3b11 x1 x2 a1 z294))
 (g3b11 x1 x2 a1 z8)
 (A.guardT a291 true
 (A.load false 1 (.tup []) z8 fun a298 z299 =>
 A.bin .leq a298 (.int .i64 6) fun a300 =>
 A.cond a300
 (A.ret (s11 [] z299) fun a301 z302 =>
 some (.ret a301.er1, z302))
 (g3b11 x1 x2 a1 z299))
 (g3b11 x1 x2 a1 z8)
 (A.guardT a291 true
 (A.bin .leq (.tup []) (.int .i64 6) fun a303 =>
 A.cond a303
 (A.ret (s11 [] z8) fun a304 z305 =>
 some (.ret a304.er1, z305))
 (g3b11 x1 x2 a1 z8))
 (g3b11 x1 x2 a1 z8)
 (A.pick a291 (.tup []) (.bool false) fun a306 =>
 A.cond a306
 (A.ret (s11 [] z8) fun a307 z308 =>
 some (.ret a307.er1, z308))
 (g3b11 x1 x2 a1 z8)))))
 (g3b11 x1 x2 a1 z8)
 (A.pick a249 (.tup []) (.bool false) fun a309 =>
 A.guardT a309 true
 (A.iaddrA 2 1 a1 (.int .i64 1) fun a310 =>
 A.load false 1 a310 z8 fun a311 z312 =>
 A.bin .leq a311 (.int .i64 6) fun a313 =>
 A.cond a313
 (A.ret (s11 [] z312) fun a314 z315 =>
 some (.ret a314.er1, z315))
 (g3b11 x1 x2 a1 z312))
 (g3b11 x1 x2 a1 z8)
 (A.guardT a309 true
 (A.load false 1 (.tup []) z8 fun a316 z317 =>
 A.bin .leq a316 (.int .i64 6) fun a318 =>
 A.cond a318
 (A.ret (s11 [] z317) fun a319 z320 =>
 some (.ret a319.er1, z320))
 (g3b11 x1 x2 a1 z317))
 (g3b11 x1 x2 a1 z8)
 (A.guardT a309 true
 (A.bin .leq (.tup []) (.int .i64 6) fun a321 =>
 A.cond a321
 (A.ret (s11 [] z8) fun a322 z323 =>
 some (.ret a322.er1, z323))
 (g3b11 x1 x2 a1 z8))
 (g3b11 x1 x2 a1 z8)
 (A.pick a309 (.tup []) (.bool false) fun a324 =>
 A.cond a324
 (A.ret (s11 [] z8) fun a325 z326 =>
 some (.ret a325.er1, z326))
 (g3b11 x1 x2 a1 z8)))))))))))
 (A.ret (s11 [] z4) fun a327 z328 =>
 some (.ret a327.er1, z328))
theorem g3nr : g3C [] = .seq (g3C [0]) (g3C [1]) := by kernel_rfl
theorem g3n1 : g3C [1] = .seq (g3C [1, 0]) (g3C [1, 1]) := by kernel_rfl
theorem g3er (env : Env) (st : St) : g3X (g3C []) g3kr env st = f3 (env 0) (env 1) (env 2) st := by
  rw [(g3seq g3nr (g3seq g3n1 (g3e11)))]
  kernel_rfl
theorem s3_eq (x0 : V) (x1 : V) (x2 : V) (st : St) : s3 [x0, x1, x2] st = f3 x0 x1 x2 st := by
  have h : afn Try.prog g3mu g3T big (areg Try.prog g3mu g3T) 3 [x0, x1, x2] st = g3X (g3C []) g3kr (fun t => [x0, x1, x2].getD t (.tup [])) st := by kernel_rfl
  rw [s3, sealF_eq]
  exact h.trans (g3er _ st)
/-! sinew/sinewref13.May -/
def g15mu : Nat → Bool := fun _ => false
noncomputable def g15T : Tbl := tget []
theorem g15t : SimT Try.prog g15T := simT_nil
noncomputable def s15 : Fn := sealF (afn Try.prog g15mu g15T big (areg Try.prog g15mu g15T) 15)
theorem sim15 : Sim Try.prog 15 s15 := (afn_sim g15t (fun m => areg_sound g15t hmix m) 15 (by kernel_rfl)).sealed
noncomputable def g15C (p : List Nat) : Code := sub (match Try.f15.body with | some c => c | none => .skip) p
noncomputable def g15X (c : Code) (K : Kon) : Env → St → Res := aexec Try.prog g15mu g15T big 40 (areg Try.prog g15mu g15T 40) c K
noncomputable def g15kr : Kon := aresK Try.prog Try.f15.results.toList
theorem g15reg {c : Code} {K : Kon} {G : Env → St → Res} {id : Nat} {ops : Array Oper} {l1 l2 : List Nat} (hc : c = .region id ops false) (hl : List.range ops.size = l1 ++ l2) (h : (fun env st => aops Try.prog g15mu g15T 40 ops l2 env st (K .normal)) = G) : g15X c K = fun env st => aops Try.prog g15mu g15T 40 ops l1 env st G := reg_cut hc hl h
theorem g15seq {c x y : Code} {K : Kon} {G : Env → St → Res} (hc : c = .seq x y) (hy : g15X y K = G) : g15X c K = g15X x (kSeq G K) := seq_cut hc hy
theorem g15blk {c x : Code} {K : Kon} {i : Nat} (hc : c = .block i x) : g15X c K = g15X x (kBlk i K) := blk_cut hc
theorem g15loop {c x : Code} {K : Kon} (hc : c = .loop x) : g15X c K = aloop (g15X x) K big := loop_cut hc
theorem g15cond {c x y : Code} {K : Kon} {v : Operand} {F G : Env → St → Res} (hc : c = .cond v x y) (hx : g15X x K = F) (hy : g15X y K = G) : g15X c K = condF v F G := cond_cut hc hx hy
noncomputable def g15k0 : Kon := kSeq (g15X (g15C [1, 1, 1]) (g15kr)) (g15kr)
noncomputable def g15k1 : Kon := kBlk 0 (g15k0)
noncomputable def g15k2 (L11010 : V → V → V → St → Res) : Kon := kSeq (fun env st => L11010 (env 0) (env 3) (env 4) st) (g15k1)
noncomputable def g15k3 (L11010 : V → V → V → St → Res) : Kon := kSeq (g15X (g15C [1, 1, 0, 1, 0, 0, 1, 1]) (g15k2 L11010)) (g15k2 L11010)
noncomputable def g15k4 (L11010 : V → V → V → St → Res) : Kon := kBlk 1 (g15k3 L11010)
noncomputable def g15k5 (L11010 : V → V → V → St → Res) : Kon := kSeq (g15X (g15C [1, 1, 0, 1, 0, 0, 1, 0, 0, 1]) (g15k4 L11010)) (g15k4 L11010)
noncomputable def g15k6 (L11010 : V → V → V → St → Res) : Kon := kSeq (g15X (g15C [1, 1, 0, 1, 0, 0, 1, 0, 0, 0, 1]) (g15k5 L11010)) (g15k5 L11010)
noncomputable def g15b11010010000_13 (L11010 : V → V → V → St → Res) (x0 : V) (x3 : V) (x4 : V) (x23 : V) (st : St) : Res :=
 A.guard x23 false
 (A.bin .gtr x3 (.int .i64 64) fun a1 =>
 A.cond a1
 (some (.ret ((.bool false) : V).er1, st))
 (A.iaddr 1 x0 x4 fun a2 =>
 A.load false 1 a2 st fun a3 z4 =>
 A.bin .mul x3 a3 fun a5 =>
 A.bin .add x4 (.int .i64 1) fun a6 =>
 L11010 x0 a5 a6 z4))
 (some (.ret ((.bool false) : V).er1, st))
theorem g15e11010010000_13 (L11010 : V → V → V → St → Res) : (fun env st => aops Try.prog g15mu g15T 40 (rops (g15C [1, 1, 0, 1, 0, 0, 1, 0, 0, 0, 0])) [13, 14, 15] env st ((g15k6 L11010) .normal)) = fun env st => g15b11010010000_13 L11010 (env 0) (env 3) (env 4) (env 23) st := by
  refine Eq.trans (Eq.refl _) ?_
  funext env st
  kernel_rfl
noncomputable def g15b11010010000_6 (L11010 : V → V → V → St → Res) (x0 : V) (x3 : V) (x4 : V) (x16 : V) (st : St) : Res :=
 A.guard x16 false
 (A.iaddr 1 x0 x4 fun a1 =>
 A.load false 1 a1 st fun a2 z3 =>
 A.bin .gtr a2 (.int .i64 64) fun a4 =>
 g15b11010010000_13 L11010 x0 x3 x4 a4 z3)
 (g15b11010010000_13 L11010 x0 x3 x4 (.bool true) st)
theorem g15e11010010000_6 (L11010 : V → V → V → St → Res) : (fun env st => aops Try.prog g15mu g15T 40 (rops (g15C [1, 1, 0, 1, 0, 0, 1, 0, 0, 0, 0])) [6, 7, 8, 9, 10, 11, 12, 13, 14, 15] env st ((g15k6 L11010) .normal)) = fun env st => g15b11010010000_6 L11010 (env 0) (env 3) (env 4) (env 16) st := by
  refine Eq.trans (ops_cut (l1 := [6, 7, 8, 9, 10, 11, 12]) (l2 := [13, 14, 15]) (g15e11010010000_13 L11010)) ?_
  funext env st
  kernel_rfl
noncomputable def g15b11010 : Nat → V → V → V → St → Res
| 0, _, _, _, _ => none
| n + 1, x0, x3, x4, st =>
 A.lenL x0 fun a1 =>
 A.bin .lss x4 a1 fun a2 =>
 A.cond a2
 (A.iaddr 1 x0 x4 fun a3 =>
 A.load false 1 a3 st fun a4 z5 =>
 A.bin .lss a4 (.int .i64 1) fun a6 =>
 g15b11010010000_6 (g15b11010 n) x0 x3 x4 a6 z5)
 (A.lenL x0 fun a7 =>
 A.bin .leq a7 (.int .i64 16) fun a8 =>
 A.guard a8 true
 (A.bin .leq x3 (.int .i64 64) fun a9 =>
 some (.ret a9.er1, st))
 (some (.ret ((.bool false) : V).er1, st)))
theorem g15n11010 : g15C [1, 1, 0, 1, 0] = .loop (g15C [1, 1, 0, 1, 0, 0]) := by kernel_rfl
theorem g15n110100 : g15C [1, 1, 0, 1, 0, 0] = .seq (g15C [1, 1, 0, 1, 0, 0, 0]) (g15C [1, 1, 0, 1, 0, 0, 1]) := by kernel_rfl
theorem g15n1101001 : g15C [1, 1, 0, 1, 0, 0, 1] = .seq (g15C [1, 1, 0, 1, 0, 0, 1, 0]) (g15C [1, 1, 0, 1, 0, 0, 1, 1]) := by kernel_rfl
theorem g15n11010010 : g15C [1, 1, 0, 1, 0, 0, 1, 0] = .block 1 (g15C [1, 1, 0, 1, 0, 0, 1, 0, 0]) := by kernel_rfl
theorem g15n110100100 : g15C [1, 1, 0, 1, 0, 0, 1, 0, 0] = .seq (g15C [1, 1, 0, 1, 0, 0, 1, 0, 0, 0]) (g15C [1, 1, 0, 1, 0, 0, 1, 0, 0, 1]) := by kernel_rfl
theorem g15n1101001000 : g15C [1, 1, 0, 1, 0, 0, 1, 0, 0, 0] = .seq (g15C [1, 1, 0, 1, 0, 0, 1, 0, 0, 0, 0]) (g15C [1, 1, 0, 1, 0, 0, 1, 0, 0, 0, 1]) := by kernel_rfl
theorem g15rg11010010000 : g15C [1, 1, 0, 1, 0, 0, 1, 0, 0, 0, 0] = .region 5 (rops (g15C [1, 1, 0, 1, 0, 0, 1, 0, 0, 0, 0])) false := by kernel_rfl
theorem g15rg11010010000l : List.range (rops (g15C [1, 1, 0, 1, 0, 0, 1, 0, 0, 0, 0])).size = [0, 1, 2, 3, 4, 5] ++ [6, 7, 8, 9, 10, 11, 12, 13, 14, 15] := by kernel_rfl
theorem g15e11010 : g15X (g15C [1, 1, 0, 1, 0]) (g15k1) = fun env st => g15b11010 big (env 0) (env 3) (env 4) st := by
  have key : ∀ n, aloop (g15X (g15C [1, 1, 0, 1, 0, 0])) (g15k1) n = fun env st => g15b11010 n (env 0) (env 3) (env 4) st := by
    intro n
    induction n with
    | zero => rfl
    | succ n ih =>
      have h : aloop (g15X (g15C [1, 1, 0, 1, 0, 0])) (g15k1) (n + 1) = g15X (g15C [1, 1, 0, 1, 0, 0]) (kSeq (aloop (g15X (g15C [1, 1, 0, 1, 0, 0])) (g15k1) n) (g15k1)) := rfl
      rw [h, ih]
      refine Eq.trans (g15seq g15n110100 ((g15seq g15n1101001 rfl).trans ((g15blk g15n11010010).trans ((g15seq g15n110100100 rfl).trans ((g15seq g15n1101001000 rfl).trans (g15reg g15rg11010010000 g15rg11010010000l (g15e11010010000_6 (g15b11010 n)))))))) ?_
      funext env st
      kernel_rfl
  exact (g15loop g15n11010).trans (key big)
noncomputable def f15 (x0 : V) (st : St) : Res :=
 g15b11010 big x0 (.int .i64 1) (.int .i64 0) st
theorem g15nr : g15C [] = .seq (g15C [0]) (g15C [1]) := by kernel_rfl
theorem g15n1 : g15C [1] = .seq (g15C [1, 0]) (g15C [1, 1]) := by kernel_rfl
theorem g15n11 : g15C [1, 1] = .seq (g15C [1, 1, 0]) (g15C [1, 1, 1]) := by kernel_rfl
theorem g15n110 : g15C [1, 1, 0] = .seq (g15C [1, 1, 0, 0]) (g15C [1, 1, 0, 1]) := by kernel_rfl
theorem g15n1101 : g15C [1, 1, 0, 1] = .block 0 (g15C [1, 1, 0, 1, 0]) := by kernel_rfl
theorem g15er (env : Env) (st : St) : g15X (g15C []) g15kr env st = f15 (env 0) st := by
  rw [(g15seq g15nr (g15seq g15n1 ((g15seq g15n11 rfl).trans (g15seq g15n110 ((g15blk g15n1101).trans (g15e11010))))))]
  kernel_rfl
theorem s15_eq (x0 : V) (st : St) : s15 [x0] st = f15 x0 st := by
  have h : afn Try.prog g15mu g15T big (areg Try.prog g15mu g15T) 15 [x0] st = g15X (g15C []) g15kr (fun t => [x0].getD t (.tup [])) st := by kernel_rfl
  rw [s15, sealF_eq]
  exact h.trans (g15er _ st)
/-! sinew/sinewlaw13.ShareLeast -/
def g4mu : Nat → Bool := fun i => Nat.beq i 85
noncomputable def g4T : Tbl := tget [(10, s10), (11, s11), (12, s12), (15, s15), (16, s16), (17, s17)]
theorem g4t : SimT Try.prog g4T := simT_cons sim10 ( simT_cons sim11 ( simT_cons sim12 ( simT_cons sim15 ( simT_cons sim16 ( simT_cons sim17 (simT_nil))))))
noncomputable def s4 : Fn := sealF (afn Try.prog g4mu g4T big (areg Try.prog g4mu g4T) 4)
theorem sim4 : Sim Try.prog 4 s4 := (afn_sim g4t (fun m => areg_sound g4t hmix m) 4 (by kernel_rfl)).sealed
noncomputable def g4C (p : List Nat) : Code := sub (match Try.f4.body with | some c => c | none => .skip) p
noncomputable def g4X (c : Code) (K : Kon) : Env → St → Res := aexec Try.prog g4mu g4T big 130 (areg Try.prog g4mu g4T 130) c K
noncomputable def g4kr : Kon := aresK Try.prog Try.f4.results.toList
theorem g4reg {c : Code} {K : Kon} {G : Env → St → Res} {id : Nat} {ops : Array Oper} {l1 l2 : List Nat} (hc : c = .region id ops false) (hl : List.range ops.size = l1 ++ l2) (h : (fun env st => aops Try.prog g4mu g4T 130 ops l2 env st (K .normal)) = G) : g4X c K = fun env st => aops Try.prog g4mu g4T 130 ops l1 env st G := reg_cut hc hl h
theorem g4seq {c x y : Code} {K : Kon} {G : Env → St → Res} (hc : c = .seq x y) (hy : g4X y K = G) : g4X c K = g4X x (kSeq G K) := seq_cut hc hy
theorem g4blk {c x : Code} {K : Kon} {i : Nat} (hc : c = .block i x) : g4X c K = g4X x (kBlk i K) := blk_cut hc
theorem g4loop {c x : Code} {K : Kon} (hc : c = .loop x) : g4X c K = aloop (g4X x) K big := loop_cut hc
theorem g4cond {c x y : Code} {K : Kon} {v : Operand} {F G : Env → St → Res} (hc : c = .cond v x y) (hx : g4X x K = F) (hy : g4X y K = G) : g4X c K = condF v F G := cond_cut hc hx hy
noncomputable def g4k0 : Kon := kSeq (g4X (g4C [1, 1, 1, 1, 1, 1, 1, 1, 1]) (g4kr)) (g4kr)
noncomputable def g4k1 : Kon := kBlk 0 (g4k0)
noncomputable def g4k2 (L11111111010 : V → V → V → V → V → V → St → Res) : Kon := kSeq (fun env st => L11111111010 (env 1) (env 2) (env 3) (env 7) (env 11) (env 12) st) (g4k1)
noncomputable def g4k3 (L11111111010 : V → V → V → V → V → V → St → Res) : Kon := kSeq (g4X (g4C [1, 1, 1, 1, 1, 1, 1, 1, 0, 1, 0, 0, 1, 1]) (g4k2 L11111111010)) (g4k2 L11111111010)
noncomputable def g4k4 (L11111111010 : V → V → V → V → V → V → St → Res) : Kon := kBlk 1 (g4k3 L11111111010)
noncomputable def g4k5 (L11111111010 : V → V → V → V → V → V → St → Res) : Kon := kBlk 2 (g4k4 L11111111010)
noncomputable def g4k6 (L11111111010 : V → V → V → V → V → V → St → Res) (L11111111010010010 : V → V → V → V → V → V → V → St → Res) : Kon := kSeq (fun env st => L11111111010010010 (env 1) (env 2) (env 3) (env 7) (env 11) (env 12) (env 13) st) (g4k5 L11111111010)
noncomputable def g4k7 (L11111111010 : V → V → V → V → V → V → St → Res) (L11111111010010010 : V → V → V → V → V → V → V → St → Res) : Kon := kSeq (g4X (g4C [1, 1, 1, 1, 1, 1, 1, 1, 0, 1, 0, 0, 1, 0, 0, 1, 0, 0, 1, 1]) (g4k6 L11111111010 L11111111010010010)) (g4k6 L11111111010 L11111111010010010)
noncomputable def g4k8 (L11111111010 : V → V → V → V → V → V → St → Res) (L11111111010010010 : V → V → V → V → V → V → V → St → Res) : Kon := kBlk 3 (g4k7 L11111111010 L11111111010010010)
noncomputable def g4k9 (L11111111010 : V → V → V → V → V → V → St → Res) (L11111111010010010 : V → V → V → V → V → V → V → St → Res) : Kon := kSeq (g4X (g4C [1, 1, 1, 1, 1, 1, 1, 1, 0, 1, 0, 0, 1, 0, 0, 1, 0, 0, 1, 0, 0, 1, 1, 1, 1, 1, 1]) (g4k8 L11111111010 L11111111010010010)) (g4k8 L11111111010 L11111111010010010)
noncomputable def g4b111111110100100100100111110_9 (L11111111010 : V → V → V → V → V → V → St → Res) (L11111111010010010 : V → V → V → V → V → V → V → St → Res) (x1 : V) (x2 : V) (x3 : V) (x7 : V) (x11 : V) (x12 : V) (x13 : V) (x14 : V) (x121 : V) (st : St) : Res :=
 A.guard x121 true
 (A.ret (s17 [x14.er1, x1.er1, x2.er1] st) fun a1 z2 =>
 A.bin .lss a1 x11 fun a3 =>
 A.cond a3
 (some (.ret ((.bool false) : V).er1, z2))
 (A.bin .add x13 (.int .i64 1) fun a4 =>
 L11111111010010010 x1 x2 x3 x7 x11 x12 a4 z2))
 (A.bin .add x13 (.int .i64 1) fun a5 =>
 L11111111010010010 x1 x2 x3 x7 x11 x12 a5 st)
theorem g4e111111110100100100100111110_9 (L11111111010 : V → V → V → V → V → V → St → Res) (L11111111010010010 : V → V → V → V → V → V → V → St → Res) : (fun env st => aops Try.prog g4mu g4T 130 (rops (g4C [1, 1, 1, 1, 1, 1, 1, 1, 0, 1, 0, 0, 1, 0, 0, 1, 0, 0, 1, 0, 0, 1, 1, 1, 1, 1, 0])) [9, 10, 11, 12, 13, 14, 15] env st ((g4k9 L11111111010 L11111111010010010) .normal)) = fun env st => g4b111111110100100100100111110_9 L11111111010 L11111111010010010 (env 1) (env 2) (env 3) (env 7) (env 11) (env 12) (env 13) (env 14) (env 121) st := by
  refine Eq.trans (Eq.refl _) ?_
  funext env st
  kernel_rfl
noncomputable def g4b1111111101001001001001111 (L11111111010 : V → V → V → V → V → V → St → Res) (L11111111010010010 : V → V → V → V → V → V → V → St → Res) (x1 : V) (x2 : V) (x3 : V) (x7 : V) (x11 : V) (x12 : V) (x13 : V) (x14 : V) (st : St) : Res :=
 A.ret (s16 [x14.er1] st) fun a1 z2 =>
 A.ext a1 0 fun a3 =>
 A.ext a1 1 fun a4 =>
 A.eql 2 false a4 (.int .i64 0) fun a5 =>
 A.guard a5 true
 (A.iaddrA 2 1 x3 (.int .i64 0) fun a6 =>
 A.load false 1 a6 z2 fun a7 z8 =>
 A.bin .leq a3 a7 fun a9 =>
 g4b111111110100100100100111110_9 L11111111010 L11111111010010010 x1 x2 x3 x7 x11 x12 x13 x14 a9 z8)
 (g4b111111110100100100100111110_9 L11111111010 L11111111010010010 x1 x2 x3 x7 x11 x12 x13 x14 (.bool false) z2)
theorem g4n1111111101001001001001111 : g4C [1, 1, 1, 1, 1, 1, 1, 1, 0, 1, 0, 0, 1, 0, 0, 1, 0, 0, 1, 0, 0, 1, 1, 1, 1] = .seq (g4C [1, 1, 1, 1, 1, 1, 1, 1, 0, 1, 0, 0, 1, 0, 0, 1, 0, 0, 1, 0, 0, 1, 1, 1, 1, 0]) (g4C [1, 1, 1, 1, 1, 1, 1, 1, 0, 1, 0, 0, 1, 0, 0, 1, 0, 0, 1, 0, 0, 1, 1, 1, 1, 1]) := by kernel_rfl
theorem g4n11111111010010010010011111 : g4C [1, 1, 1, 1, 1, 1, 1, 1, 0, 1, 0, 0, 1, 0, 0, 1, 0, 0, 1, 0, 0, 1, 1, 1, 1, 1] = .seq (g4C [1, 1, 1, 1, 1, 1, 1, 1, 0, 1, 0, 0, 1, 0, 0, 1, 0, 0, 1, 0, 0, 1, 1, 1, 1, 1, 0]) (g4C [1, 1, 1, 1, 1, 1, 1, 1, 0, 1, 0, 0, 1, 0, 0, 1, 0, 0, 1, 0, 0, 1, 1, 1, 1, 1, 1]) := by kernel_rfl
theorem g4rg111111110100100100100111110 : g4C [1, 1, 1, 1, 1, 1, 1, 1, 0, 1, 0, 0, 1, 0, 0, 1, 0, 0, 1, 0, 0, 1, 1, 1, 1, 1, 0] = .region 24 (rops (g4C [1, 1, 1, 1, 1, 1, 1, 1, 0, 1, 0, 0, 1, 0, 0, 1, 0, 0, 1, 0, 0, 1, 1, 1, 1, 1, 0])) false := by kernel_rfl
theorem g4rg111111110100100100100111110l : List.range (rops (g4C [1, 1, 1, 1, 1, 1, 1, 1, 0, 1, 0, 0, 1, 0, 0, 1, 0, 0, 1, 0, 0, 1, 1, 1, 1, 1, 0])).size = [0, 1, 2, 3, 4, 5, 6, 7, 8] ++ [9, 10, 11, 12, 13, 14, 15] := by kernel_rfl
theorem g4e1111111101001001001001111 (L11111111010 : V → V → V → V → V → V → St → Res) (L11111111010010010 : V → V → V → V → V → V → V → St → Res) : g4X (g4C [1, 1, 1, 1, 1, 1, 1, 1, 0, 1, 0, 0, 1, 0, 0, 1, 0, 0, 1, 0, 0, 1, 1, 1, 1]) (g4k8 L11111111010 L11111111010010010) = fun env st => g4b1111111101001001001001111 L11111111010 L11111111010010010 (env 1) (env 2) (env 3) (env 7) (env 11) (env 12) (env 13) (env 14) st := by
  refine Eq.trans (g4seq g4n1111111101001001001001111 ((g4seq g4n11111111010010010010011111 rfl).trans (g4reg g4rg111111110100100100100111110 g4rg111111110100100100100111110l (g4e111111110100100100100111110_9 L11111111010 L11111111010010010)))) ?_
  funext env st
  kernel_rfl
noncomputable def g4k10 (L11111111010 : V → V → V → V → V → V → St → Res) (L11111111010010010 : V → V → V → V → V → V → V → St → Res) : Kon := kSeq (fun env st => g4b1111111101001001001001111 L11111111010 L11111111010010010 (env 1) (env 2) (env 3) (env 7) (env 11) (env 12) (env 13) (env 14) st) (g4k8 L11111111010 L11111111010010010)
noncomputable def g4b11111111010010010010011101 (L11111111010 : V → V → V → V → V → V → St → Res) (L11111111010010010 : V → V → V → V → V → V → V → St → Res) (x1 : V) (x2 : V) (x3 : V) (x7 : V) (x11 : V) (x12 : V) (x13 : V) (x14 : V) (x101 : V) (st : St) : Res :=
 A.cond x101
 (A.iaddr 1 x14 x13 fun a1 =>
 A.load false 1 a1 st fun a2 z3 =>
 A.bin .sub a2 (.int .i64 1) fun a4 =>
 A.iaddr 1 x14 x13 fun a5 =>
 A.store 1 a5 a4 z3 fun z6 =>
 g4b1111111101001001001001111 L11111111010 L11111111010010010 x1 x2 x3 x7 x11 x12 x13 x14 z6)
 (g4b1111111101001001001001111 L11111111010 L11111111010010010 x1 x2 x3 x7 x11 x12 x13 x14 st)
theorem g4e11111111010010010010011101 (L11111111010 : V → V → V → V → V → V → St → Res) (L11111111010010010 : V → V → V → V → V → V → V → St → Res) : g4X (g4C [1, 1, 1, 1, 1, 1, 1, 1, 0, 1, 0, 0, 1, 0, 0, 1, 0, 0, 1, 0, 0, 1, 1, 1, 0, 1]) (g4k10 L11111111010 L11111111010010010) = fun env st => g4b11111111010010010010011101 L11111111010 L11111111010010010 (env 1) (env 2) (env 3) (env 7) (env 11) (env 12) (env 13) (env 14) (env 101) st := by
  refine Eq.trans (Eq.refl (g4X (g4C [1, 1, 1, 1, 1, 1, 1, 1, 0, 1, 0, 0, 1, 0, 0, 1, 0, 0, 1, 0, 0, 1, 1, 1, 0, 1]) (g4k10 L11111111010 L11111111010010010))) ?_
  funext env st
  kernel_rfl
noncomputable def g4b111111110100100100100111 (L11111111010 : V → V → V → V → V → V → St → Res) (L11111111010010010 : V → V → V → V → V → V → V → St → Res) (x1 : V) (x2 : V) (x3 : V) (x7 : V) (x11 : V) (x12 : V) (x13 : V) (x14 : V) (st : St) : Res :=
 A.eql 2 true x13 x12 fun a1 =>
 A.guard a1 true
 (A.iaddr 1 x14 x13 fun a2 =>
 A.load false 1 a2 st fun a3 z4 =>
 A.bin .gtr a3 (.int .i64 1) fun a5 =>
 g4b11111111010010010010011101 L11111111010 L11111111010010010 x1 x2 x3 x7 x11 x12 x13 x14 a5 z4)
 (g4b11111111010010010010011101 L11111111010 L11111111010010010 x1 x2 x3 x7 x11 x12 x13 x14 (.bool false) st)
theorem g4n111111110100100100100111 : g4C [1, 1, 1, 1, 1, 1, 1, 1, 0, 1, 0, 0, 1, 0, 0, 1, 0, 0, 1, 0, 0, 1, 1, 1] = .seq (g4C [1, 1, 1, 1, 1, 1, 1, 1, 0, 1, 0, 0, 1, 0, 0, 1, 0, 0, 1, 0, 0, 1, 1, 1, 0]) (g4C [1, 1, 1, 1, 1, 1, 1, 1, 0, 1, 0, 0, 1, 0, 0, 1, 0, 0, 1, 0, 0, 1, 1, 1, 1]) := by kernel_rfl
theorem g4n1111111101001001001001110 : g4C [1, 1, 1, 1, 1, 1, 1, 1, 0, 1, 0, 0, 1, 0, 0, 1, 0, 0, 1, 0, 0, 1, 1, 1, 0] = .seq (g4C [1, 1, 1, 1, 1, 1, 1, 1, 0, 1, 0, 0, 1, 0, 0, 1, 0, 0, 1, 0, 0, 1, 1, 1, 0, 0]) (g4C [1, 1, 1, 1, 1, 1, 1, 1, 0, 1, 0, 0, 1, 0, 0, 1, 0, 0, 1, 0, 0, 1, 1, 1, 0, 1]) := by kernel_rfl
theorem g4e111111110100100100100111 (L11111111010 : V → V → V → V → V → V → St → Res) (L11111111010010010 : V → V → V → V → V → V → V → St → Res) : g4X (g4C [1, 1, 1, 1, 1, 1, 1, 1, 0, 1, 0, 0, 1, 0, 0, 1, 0, 0, 1, 0, 0, 1, 1, 1]) (g4k8 L11111111010 L11111111010010010) = fun env st => g4b111111110100100100100111 L11111111010 L11111111010010010 (env 1) (env 2) (env 3) (env 7) (env 11) (env 12) (env 13) (env 14) st := by
  refine Eq.trans ((g4seq g4n111111110100100100100111 (g4e1111111101001001001001111 L11111111010 L11111111010010010)).trans (g4seq g4n1111111101001001001001110 (g4e11111111010010010010011101 L11111111010 L11111111010010010))) ?_
  funext env st
  kernel_rfl
noncomputable def g4b11111111010010010 (L11111111010 : V → V → V → V → V → V → St → Res) : Nat → V → V → V → V → V → V → V → St → Res
| 0, _, _, _, _, _, _, _, _ => none
| n + 1, x1, x2, x3, x7, x11, x12, x13, st =>
 A.lenL x7 fun a1 =>
 A.bin .lss x13 a1 fun a2 =>
 A.cond a2
 (A.appM 1 (.lst [] 1) (elemsOf 5 1 x7 st) st fun a3 z4 =>
 A.iaddr 1 a3 x12 fun a5 =>
 A.load false 1 a5 z4 fun a6 z7 =>
 A.bin .add a6 (.int .i64 1) fun a8 =>
 A.iaddr 1 a3 x12 fun a9 =>
 A.store 1 a9 a8 z7 fun z10 =>
 g4b111111110100100100100111 L11111111010 (g4b11111111010010010 L11111111010 n) x1 x2 x3 x7 x11 x12 x13 a3 z10)
 (A.bin .add x12 (.int .i64 1) fun a11 =>
 L11111111010 x1 x2 x3 x7 x11 a11 st)
theorem g4n11111111010010010 : g4C [1, 1, 1, 1, 1, 1, 1, 1, 0, 1, 0, 0, 1, 0, 0, 1, 0] = .loop (g4C [1, 1, 1, 1, 1, 1, 1, 1, 0, 1, 0, 0, 1, 0, 0, 1, 0, 0]) := by kernel_rfl
theorem g4n111111110100100100 : g4C [1, 1, 1, 1, 1, 1, 1, 1, 0, 1, 0, 0, 1, 0, 0, 1, 0, 0] = .seq (g4C [1, 1, 1, 1, 1, 1, 1, 1, 0, 1, 0, 0, 1, 0, 0, 1, 0, 0, 0]) (g4C [1, 1, 1, 1, 1, 1, 1, 1, 0, 1, 0, 0, 1, 0, 0, 1, 0, 0, 1]) := by kernel_rfl
theorem g4n1111111101001001001 : g4C [1, 1, 1, 1, 1, 1, 1, 1, 0, 1, 0, 0, 1, 0, 0, 1, 0, 0, 1] = .seq (g4C [1, 1, 1, 1, 1, 1, 1, 1, 0, 1, 0, 0, 1, 0, 0, 1, 0, 0, 1, 0]) (g4C [1, 1, 1, 1, 1, 1, 1, 1, 0, 1, 0, 0, 1, 0, 0, 1, 0, 0, 1, 1]) := by kernel_rfl
theorem g4n11111111010010010010 : g4C [1, 1, 1, 1, 1, 1, 1, 1, 0, 1, 0, 0, 1, 0, 0, 1, 0, 0, 1, 0] = .block 3 (g4C [1, 1, 1, 1, 1, 1, 1, 1, 0, 1, 0, 0, 1, 0, 0, 1, 0, 0, 1, 0, 0]) := by kernel_rfl
theorem g4n111111110100100100100 : g4C [1, 1, 1, 1, 1, 1, 1, 1, 0, 1, 0, 0, 1, 0, 0, 1, 0, 0, 1, 0, 0] = .seq (g4C [1, 1, 1, 1, 1, 1, 1, 1, 0, 1, 0, 0, 1, 0, 0, 1, 0, 0, 1, 0, 0, 0]) (g4C [1, 1, 1, 1, 1, 1, 1, 1, 0, 1, 0, 0, 1, 0, 0, 1, 0, 0, 1, 0, 0, 1]) := by kernel_rfl
theorem g4n1111111101001001001001 : g4C [1, 1, 1, 1, 1, 1, 1, 1, 0, 1, 0, 0, 1, 0, 0, 1, 0, 0, 1, 0, 0, 1] = .seq (g4C [1, 1, 1, 1, 1, 1, 1, 1, 0, 1, 0, 0, 1, 0, 0, 1, 0, 0, 1, 0, 0, 1, 0]) (g4C [1, 1, 1, 1, 1, 1, 1, 1, 0, 1, 0, 0, 1, 0, 0, 1, 0, 0, 1, 0, 0, 1, 1]) := by kernel_rfl
theorem g4n11111111010010010010011 : g4C [1, 1, 1, 1, 1, 1, 1, 1, 0, 1, 0, 0, 1, 0, 0, 1, 0, 0, 1, 0, 0, 1, 1] = .seq (g4C [1, 1, 1, 1, 1, 1, 1, 1, 0, 1, 0, 0, 1, 0, 0, 1, 0, 0, 1, 0, 0, 1, 1, 0]) (g4C [1, 1, 1, 1, 1, 1, 1, 1, 0, 1, 0, 0, 1, 0, 0, 1, 0, 0, 1, 0, 0, 1, 1, 1]) := by kernel_rfl
theorem g4e11111111010010010 (L11111111010 : V → V → V → V → V → V → St → Res) : g4X (g4C [1, 1, 1, 1, 1, 1, 1, 1, 0, 1, 0, 0, 1, 0, 0, 1, 0]) (g4k5 L11111111010) = fun env st => g4b11111111010010010 L11111111010 big (env 1) (env 2) (env 3) (env 7) (env 11) (env 12) (env 13) st := by
  have key : ∀ n, aloop (g4X (g4C [1, 1, 1, 1, 1, 1, 1, 1, 0, 1, 0, 0, 1, 0, 0, 1, 0, 0])) (g4k5 L11111111010) n = fun env st => g4b11111111010010010 L11111111010 n (env 1) (env 2) (env 3) (env 7) (env 11) (env 12) (env 13) st := by
    intro n
    induction n with
    | zero => rfl
    | succ n ih =>
      have h : aloop (g4X (g4C [1, 1, 1, 1, 1, 1, 1, 1, 0, 1, 0, 0, 1, 0, 0, 1, 0, 0])) (g4k5 L11111111010) (n + 1) = g4X (g4C [1, 1, 1, 1, 1, 1, 1, 1, 0, 1, 0, 0, 1, 0, 0, 1, 0, 0]) (kSeq (aloop (g4X (g4C [1, 1, 1, 1, 1, 1, 1, 1, 0, 1, 0, 0, 1, 0, 0, 1, 0, 0])) (g4k5 L11111111010) n) (g4k5 L11111111010)) := rfl
      rw [h, ih]
      refine Eq.trans (g4seq g4n111111110100100100 ((g4seq g4n1111111101001001001 rfl).trans ((g4blk g4n11111111010010010010).trans (g4seq g4n111111110100100100100 (g4seq g4n1111111101001001001001 (g4seq g4n11111111010010010010011 (g4e111111110100100100100111 L11111111010 (g4b11111111010010010 L11111111010 n)))))))) ?_
      funext env st
      kernel_rfl
  exact (g4loop g4n11111111010010010).trans (key big)
noncomputable def g4b11111111010 : Nat → V → V → V → V → V → V → St → Res
| 0, _, _, _, _, _, _, _ => none
| n + 1, x1, x2, x3, x7, x11, x12, st =>
 A.lenL x7 fun a1 =>
 A.bin .lss x12 a1 fun a2 =>
 A.cond a2
 (g4b11111111010010010 (g4b11111111010 n) big x1 x2 x3 x7 x11 x12 (.int .i64 0) st)
 (A.ret (s11 [] st) fun a3 z4 =>
 some (.ret a3.er1, z4))
theorem g4n11111111010 : g4C [1, 1, 1, 1, 1, 1, 1, 1, 0, 1, 0] = .loop (g4C [1, 1, 1, 1, 1, 1, 1, 1, 0, 1, 0, 0]) := by kernel_rfl
theorem g4n111111110100 : g4C [1, 1, 1, 1, 1, 1, 1, 1, 0, 1, 0, 0] = .seq (g4C [1, 1, 1, 1, 1, 1, 1, 1, 0, 1, 0, 0, 0]) (g4C [1, 1, 1, 1, 1, 1, 1, 1, 0, 1, 0, 0, 1]) := by kernel_rfl
theorem g4n1111111101001 : g4C [1, 1, 1, 1, 1, 1, 1, 1, 0, 1, 0, 0, 1] = .seq (g4C [1, 1, 1, 1, 1, 1, 1, 1, 0, 1, 0, 0, 1, 0]) (g4C [1, 1, 1, 1, 1, 1, 1, 1, 0, 1, 0, 0, 1, 1]) := by kernel_rfl
theorem g4n11111111010010 : g4C [1, 1, 1, 1, 1, 1, 1, 1, 0, 1, 0, 0, 1, 0] = .block 1 (g4C [1, 1, 1, 1, 1, 1, 1, 1, 0, 1, 0, 0, 1, 0, 0]) := by kernel_rfl
theorem g4n111111110100100 : g4C [1, 1, 1, 1, 1, 1, 1, 1, 0, 1, 0, 0, 1, 0, 0] = .seq (g4C [1, 1, 1, 1, 1, 1, 1, 1, 0, 1, 0, 0, 1, 0, 0, 0]) (g4C [1, 1, 1, 1, 1, 1, 1, 1, 0, 1, 0, 0, 1, 0, 0, 1]) := by kernel_rfl
theorem g4n1111111101001001 : g4C [1, 1, 1, 1, 1, 1, 1, 1, 0, 1, 0, 0, 1, 0, 0, 1] = .block 2 (g4C [1, 1, 1, 1, 1, 1, 1, 1, 0, 1, 0, 0, 1, 0, 0, 1, 0]) := by kernel_rfl
theorem g4e11111111010 : g4X (g4C [1, 1, 1, 1, 1, 1, 1, 1, 0, 1, 0]) (g4k1) = fun env st => g4b11111111010 big (env 1) (env 2) (env 3) (env 7) (env 11) (env 12) st := by
  have key : ∀ n, aloop (g4X (g4C [1, 1, 1, 1, 1, 1, 1, 1, 0, 1, 0, 0])) (g4k1) n = fun env st => g4b11111111010 n (env 1) (env 2) (env 3) (env 7) (env 11) (env 12) st := by
    intro n
    induction n with
    | zero => rfl
    | succ n ih =>
      have h : aloop (g4X (g4C [1, 1, 1, 1, 1, 1, 1, 1, 0, 1, 0, 0])) (g4k1) (n + 1) = g4X (g4C [1, 1, 1, 1, 1, 1, 1, 1, 0, 1, 0, 0]) (kSeq (aloop (g4X (g4C [1, 1, 1, 1, 1, 1, 1, 1, 0, 1, 0, 0])) (g4k1) n) (g4k1)) := rfl
      rw [h, ih]
      refine Eq.trans (g4seq g4n111111110100 ((g4seq g4n1111111101001 rfl).trans ((g4blk g4n11111111010010).trans (g4seq g4n111111110100100 ((g4blk g4n1111111101001001).trans (g4e11111111010010010 (g4b11111111010 n))))))) ?_
      funext env st
      kernel_rfl
  exact (g4loop g4n11111111010).trans (key big)
noncomputable def g4b1111111 (x1 : V) (x2 : V) (x3 : V) (x7 : V) (st : St) : Res :=
 A.ret (s17 [x7.er1, x1.er1, x2.er1] st) fun a1 z2 =>
 g4b11111111010 big x1 x2 x3 x7 a1 (.int .i64 0) z2
theorem g4n1111111 : g4C [1, 1, 1, 1, 1, 1, 1] = .seq (g4C [1, 1, 1, 1, 1, 1, 1, 0]) (g4C [1, 1, 1, 1, 1, 1, 1, 1]) := by kernel_rfl
theorem g4n11111111 : g4C [1, 1, 1, 1, 1, 1, 1, 1] = .seq (g4C [1, 1, 1, 1, 1, 1, 1, 1, 0]) (g4C [1, 1, 1, 1, 1, 1, 1, 1, 1]) := by kernel_rfl
theorem g4n111111110 : g4C [1, 1, 1, 1, 1, 1, 1, 1, 0] = .seq (g4C [1, 1, 1, 1, 1, 1, 1, 1, 0, 0]) (g4C [1, 1, 1, 1, 1, 1, 1, 1, 0, 1]) := by kernel_rfl
theorem g4n1111111101 : g4C [1, 1, 1, 1, 1, 1, 1, 1, 0, 1] = .block 0 (g4C [1, 1, 1, 1, 1, 1, 1, 1, 0, 1, 0]) := by kernel_rfl
theorem g4e1111111 : g4X (g4C [1, 1, 1, 1, 1, 1, 1]) (g4kr) = fun env st => g4b1111111 (env 1) (env 2) (env 3) (env 7) st := by
  refine Eq.trans (g4seq g4n1111111 ((g4seq g4n11111111 rfl).trans (g4seq g4n111111110 ((g4blk g4n1111111101).trans (g4e11111111010))))) ?_
  funext env st
  kernel_rfl
noncomputable def g4b11111 (x1 : V) (x2 : V) (x3 : V) (x7 : V) (st : St) : Res :=
 A.ret (s16 [x7.er1] st) fun a1 z2 =>
 A.ext a1 0 fun a3 =>
 A.ext a1 1 fun a4 =>
 A.eql 2 true a4 (.int .i64 0) fun a5 =>
 A.guard a5 false
 (A.iaddrA 2 1 x3 (.int .i64 0) fun a6 =>
 A.load false 1 a6 z2 fun a7 z8 =>
 A.bin .gtr a3 a7 fun a9 =>
 A.cond a9
 (some (.ret ((.bool false) : V).er1, z8))
 (g4b1111111 x1 x2 x3 x7 z8))
 (some (.ret ((.bool false) : V).er1, z2))
theorem g4n11111 : g4C [1, 1, 1, 1, 1] = .seq (g4C [1, 1, 1, 1, 1, 0]) (g4C [1, 1, 1, 1, 1, 1]) := by kernel_rfl
theorem g4n111111 : g4C [1, 1, 1, 1, 1, 1] = .seq (g4C [1, 1, 1, 1, 1, 1, 0]) (g4C [1, 1, 1, 1, 1, 1, 1]) := by kernel_rfl
theorem g4e11111 : g4X (g4C [1, 1, 1, 1, 1]) (g4kr) = fun env st => g4b11111 (env 1) (env 2) (env 3) (env 7) st := by
  refine Eq.trans (g4seq g4n11111 (g4seq g4n111111 (g4e1111111))) ?_
  funext env st
  kernel_rfl
noncomputable def g4b1111 (x1 : V) (x2 : V) (x3 : V) (x7 : V) (st : St) : Res :=
 A.lenL x7 fun a1 =>
 A.iaddrA 2 1 x3 (.int .i64 1) fun a2 =>
 A.load false 1 a2 st fun a3 z4 =>
 A.eql 2 true a1 a3 fun a5 =>
 A.guard a5 false
 (A.ret (s15 [x7.er1] z4) fun a6 z7 =>
 A.un .not a6 fun a8 =>
 A.cond a8
 (some (.ret ((.bool false) : V).er1, z7))
 (g4b11111 x1 x2 x3 x7 z7))
 (some (.ret ((.bool false) : V).er1, z4))
theorem g4n1111 : g4C [1, 1, 1, 1] = .seq (g4C [1, 1, 1, 1, 0]) (g4C [1, 1, 1, 1, 1]) := by kernel_rfl
theorem g4e1111 : g4X (g4C [1, 1, 1, 1]) (g4kr) = fun env st => g4b1111 (env 1) (env 2) (env 3) (env 7) st := by
  refine Eq.trans (g4seq g4n1111 (g4e11111)) ?_
  funext env st
  kernel_rfl
noncomputable def g4b111 (x1 : V) (x2 : V) (x3 : V) (x7 : V) (x8 : V) (st : St) : Res :=
 A.eql 2 true x8 (.int .i64 0) fun a1 =>
 A.cond a1
 (A.lenL x7 fun a2 =>
 A.eql 2 false a2 (.int .i64 0) fun a3 =>
 A.guard a3 true
 (A.ret (s11 [] st) fun a4 z5 =>
 some (.ret a4.er1, z5))
 (some (.ret ((.bool false) : V).er1, st)))
 (g4b1111 x1 x2 x3 x7 st)
theorem g4n111 : g4C [1, 1, 1] = .seq (g4C [1, 1, 1, 0]) (g4C [1, 1, 1, 1]) := by kernel_rfl
theorem g4e111 : g4X (g4C [1, 1, 1]) (g4kr) = fun env st => g4b111 (env 1) (env 2) (env 3) (env 7) (env 8) st := by
  refine Eq.trans (g4seq g4n111 (g4e1111)) ?_
  funext env st
  kernel_rfl
noncomputable def g4b11 (x1 : V) (x2 : V) (x3 : V) (st : St) : Res :=
 A.iaddrA 2 1 x3 (.int .i64 0) fun a1 =>
 A.load false 1 a1 st fun a2 z3 =>
 A.iaddrA 2 1 x3 (.int .i64 1) fun a4 =>
 A.load false 1 a4 z3 fun a5 z6 =>
 A.ret (s12 [a2.er1, a5.er1, x1.er1, x2.er1] z6) fun a7 z8 =>
 A.ext a7 0 fun a9 =>
 A.ext a7 1 fun a10 =>
 g4b111 x1 x2 x3 a9 a10 z8
theorem g4n11 : g4C [1, 1] = .seq (g4C [1, 1, 0]) (g4C [1, 1, 1]) := by kernel_rfl
theorem g4e11 : g4X (g4C [1, 1]) (g4kr) = fun env st => g4b11 (env 1) (env 2) (env 3) st := by
  refine Eq.trans (g4seq g4n11 (g4e111)) ?_
  funext env st
  kernel_rfl
noncomputable def f4 (x0 : V) (x1 : V) (x2 : V) (st : St) : Res :=
 A.box x0 st fun a1 z2 =>
 A.ret (s10 [x1.er1] z2) fun a3 z4 =>
 A.un .not a3 fun a5 =>
 A.guard a5 false
 (A.iaddrA 2 1 a1 (.int .i64 1) fun a6 =>
 A.load false 1 a6 z4 fun a7 z8 =>
 A.bin .gtr a7 (.int .i64 4) fun a9 =>
 A.cond a9
 (A.ret (s11 [] z8) fun a10 z11 =>
 some (.ret a10.er1, z11))
 (g4b11 x1 x2 a1 z8))
 (A.ret (s11 [] z4) fun a12 z13 =>
 some (.ret a12.er1, z13))
theorem g4nr : g4C [] = .seq (g4C [0]) (g4C [1]) := by kernel_rfl
theorem g4n1 : g4C [1] = .seq (g4C [1, 0]) (g4C [1, 1]) := by kernel_rfl
theorem g4er (env : Env) (st : St) : g4X (g4C []) g4kr env st = f4 (env 0) (env 1) (env 2) st := by
  rw [(g4seq g4nr (g4seq g4n1 (g4e11)))]
  kernel_rfl
theorem s4_eq (x0 : V) (x1 : V) (x2 : V) (st : St) : s4 [x0, x1, x2] st = f4 x0 x1 x2 st := by
  have h : afn Try.prog g4mu g4T big (areg Try.prog g4mu g4T) 4 [x0, x1, x2] st = g4X (g4C []) g4kr (fun t => [x0, x1, x2].getD t (.tup [])) st := by kernel_rfl
  rw [s4, sealF_eq]
  exact h.trans (g4er _ st)
/-! sinew/sinewref13.Cells -/
def g20mu : Nat → Bool := fun _ => false
noncomputable def g20T : Tbl := tget [(15, s15)]
theorem g20t : SimT Try.prog g20T := simT_cons sim15 (simT_nil)
noncomputable def s20 : Fn := sealF (afn Try.prog g20mu g20T big (areg Try.prog g20mu g20T) 20)
theorem sim20 : Sim Try.prog 20 s20 := (afn_sim g20t (fun m => areg_sound g20t hmix m) 20 (by kernel_rfl)).sealed
noncomputable def g20C (p : List Nat) : Code := sub (match Try.f20.body with | some c => c | none => .skip) p
noncomputable def g20X (c : Code) (K : Kon) : Env → St → Res := aexec Try.prog g20mu g20T big 22 (areg Try.prog g20mu g20T 22) c K
noncomputable def g20kr : Kon := aresK Try.prog Try.f20.results.toList
theorem g20reg {c : Code} {K : Kon} {G : Env → St → Res} {id : Nat} {ops : Array Oper} {l1 l2 : List Nat} (hc : c = .region id ops false) (hl : List.range ops.size = l1 ++ l2) (h : (fun env st => aops Try.prog g20mu g20T 22 ops l2 env st (K .normal)) = G) : g20X c K = fun env st => aops Try.prog g20mu g20T 22 ops l1 env st G := reg_cut hc hl h
theorem g20seq {c x y : Code} {K : Kon} {G : Env → St → Res} (hc : c = .seq x y) (hy : g20X y K = G) : g20X c K = g20X x (kSeq G K) := seq_cut hc hy
theorem g20blk {c x : Code} {K : Kon} {i : Nat} (hc : c = .block i x) : g20X c K = g20X x (kBlk i K) := blk_cut hc
theorem g20loop {c x : Code} {K : Kon} (hc : c = .loop x) : g20X c K = aloop (g20X x) K big := loop_cut hc
theorem g20cond {c x y : Code} {K : Kon} {v : Operand} {F G : Env → St → Res} (hc : c = .cond v x y) (hx : g20X x K = F) (hy : g20X y K = G) : g20X c K = condF v F G := cond_cut hc hx hy
noncomputable def g20k0 : Kon := kSeq (g20X (g20C [1, 1, 1, 1]) (g20kr)) (g20kr)
noncomputable def g20k1 : Kon := kBlk 0 (g20k0)
noncomputable def g20b111010 : Nat → V → V → V → St → Res
| 0, _, _, _, _ => none
| n + 1, x0, x4, x5, st =>
 A.lenL x0 fun a1 =>
 A.bin .lss x5 a1 fun a2 =>
 A.cond a2
 (A.iaddr 1 x0 x5 fun a3 =>
 A.load false 1 a3 st fun a4 z5 =>
 A.bin .mul x4 a4 fun a6 =>
 A.bin .add x5 (.int .i64 1) fun a7 =>
 (g20b111010 n) x0 a6 a7 z5)
 (some (.ret (.tup [x4.er1, ((.int .i64 0) : V).er1]), st))
theorem g20n111010 : g20C [1, 1, 1, 0, 1, 0] = .loop (g20C [1, 1, 1, 0, 1, 0, 0]) := by kernel_rfl
noncomputable def g20k2 (L111010 : V → V → V → St → Res) : Kon := kSeq (fun env st => L111010 (env 0) (env 4) (env 5) st) (g20k1)
theorem g20e111010 : g20X (g20C [1, 1, 1, 0, 1, 0]) (g20k1) = fun env st => g20b111010 big (env 0) (env 4) (env 5) st := by
  have key : ∀ n, aloop (g20X (g20C [1, 1, 1, 0, 1, 0, 0])) (g20k1) n = fun env st => g20b111010 n (env 0) (env 4) (env 5) st := by
    intro n
    induction n with
    | zero => rfl
    | succ n ih =>
      have h : aloop (g20X (g20C [1, 1, 1, 0, 1, 0, 0])) (g20k1) (n + 1) = g20X (g20C [1, 1, 1, 0, 1, 0, 0]) (kSeq (aloop (g20X (g20C [1, 1, 1, 0, 1, 0, 0])) (g20k1) n) (g20k1)) := rfl
      rw [h, ih]
      refine Eq.trans (Eq.refl _) ?_
      funext env st
      kernel_rfl
  exact (g20loop g20n111010).trans (key big)
noncomputable def f20 (x0 : V) (st : St) : Res :=
 A.ret (s15 [x0.er1] st) fun a1 z2 =>
 A.un .not a1 fun a3 =>
 A.cond a3
 (some (.ret (.tup [((.int .i64 0) : V).er1, ((.int .i64 1) : V).er1]), z2))
 (g20b111010 big x0 (.int .i64 1) (.int .i64 0) z2)
theorem g20nr : g20C [] = .seq (g20C [0]) (g20C [1]) := by kernel_rfl
theorem g20n1 : g20C [1] = .seq (g20C [1, 0]) (g20C [1, 1]) := by kernel_rfl
theorem g20n11 : g20C [1, 1] = .seq (g20C [1, 1, 0]) (g20C [1, 1, 1]) := by kernel_rfl
theorem g20n111 : g20C [1, 1, 1] = .seq (g20C [1, 1, 1, 0]) (g20C [1, 1, 1, 1]) := by kernel_rfl
theorem g20n1110 : g20C [1, 1, 1, 0] = .seq (g20C [1, 1, 1, 0, 0]) (g20C [1, 1, 1, 0, 1]) := by kernel_rfl
theorem g20n11101 : g20C [1, 1, 1, 0, 1] = .block 0 (g20C [1, 1, 1, 0, 1, 0]) := by kernel_rfl
theorem g20er (env : Env) (st : St) : g20X (g20C []) g20kr env st = f20 (env 0) st := by
  rw [(g20seq g20nr (g20seq g20n1 (g20seq g20n11 ((g20seq g20n111 rfl).trans (g20seq g20n1110 ((g20blk g20n11101).trans (g20e111010)))))))]
  kernel_rfl
theorem s20_eq (x0 : V) (st : St) : s20 [x0] st = f20 x0 st := by
  have h : afn Try.prog g20mu g20T big (areg Try.prog g20mu g20T) 20 [x0] st = g20X (g20C []) g20kr (fun t => [x0].getD t (.tup [])) st := by kernel_rfl
  rw [s20, sealF_eq]
  exact h.trans (g20er _ st)
end Go.Ab
