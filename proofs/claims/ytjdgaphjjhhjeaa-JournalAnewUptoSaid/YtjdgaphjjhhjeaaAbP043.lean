import Derived.Test.YtjdgaphjjhhjeaaAbForget
import Derived.Test.YtjdgaphjjhhjeaaAbP042
namespace Go.Ab
open Go.Proofs
set_option linter.unusedVariables false
set_option maxRecDepth 100000
/-! sinew/sinewref01.Same -/
def g37mu : Nat → Bool := fun _ => false
noncomputable def g37T : Tbl := tget []
theorem g37t : SimT Try.prog g37T := simT_nil
noncomputable def s37 : Fn := sealF (afn Try.prog g37mu g37T big (areg Try.prog g37mu g37T) 37)
theorem sim37 : Sim Try.prog 37 s37 := (afn_sim g37t (fun m => areg_sound g37t hmix m) 37 (by kernel_rfl)).sealed
noncomputable def g37C (p : List Nat) : Code := sub (match Try.f37.body with | some c => c | none => .skip) p
noncomputable def g37X (c : Code) (K : Kon) : Env → St → Res := aexec Try.prog g37mu g37T big 26 (areg Try.prog g37mu g37T 26) c K
noncomputable def g37kr : Kon := aresK Try.prog Try.f37.results.toList
theorem g37reg {c : Code} {K : Kon} {G : Env → St → Res} {id : Nat} {ops : Array Oper} {l1 l2 : List Nat} (hc : c = .region id ops false) (hl : List.range ops.size = l1 ++ l2) (h : (fun env st => aops Try.prog g37mu g37T 26 ops l2 env st (K .normal)) = G) : g37X c K = fun env st => aops Try.prog g37mu g37T 26 ops l1 env st G := reg_cut hc hl h
theorem g37seq {c x y : Code} {K : Kon} {G : Env → St → Res} (hc : c = .seq x y) (hy : g37X y K = G) : g37X c K = g37X x (kSeq G K) := seq_cut hc hy
theorem g37blk {c x : Code} {K : Kon} {i : Nat} (hc : c = .block i x) : g37X c K = g37X x (kBlk i K) := blk_cut hc
theorem g37loop {c x : Code} {K : Kon} (hc : c = .loop x) : g37X c K = aloop (g37X x) K big := loop_cut hc
theorem g37cond {c x y : Code} {K : Kon} {v : Operand} {F G : Env → St → Res} (hc : c = .cond v x y) (hx : g37X x K = F) (hy : g37X y K = G) : g37X c K = condF v F G := cond_cut hc hx hy
noncomputable def g37k0 : Kon := kSeq (g37X (g37C [1, 1, 1]) (g37kr)) (g37kr)
noncomputable def g37k1 : Kon := kBlk 0 (g37k0)
noncomputable def g37b11010 : Nat → V → V → V → St → Res
| 0, _, _, _, _ => none
| n + 1, x0, x1, x5, st =>
 A.lenL x0 fun a1 =>
 A.bin .lss x5 a1 fun a2 =>
 A.cond a2
 (A.iaddr 1 x0 x5 fun a3 =>
 A.load false 1 a3 st fun a4 _ =>
 A.iaddr 1 x1 x5 fun a5 =>
 A.load false 1 a5 st fun a6 _ =>
 A.eql 3 true a4 a6 fun a7 =>
 A.cond a7
 (some (.ret ((.bool false) : V).er1, st))
 (A.bin .add x5 (.int .i64 1) fun a8 =>
 (g37b11010 n) x0 x1 a8 st))
 (some (.ret ((.bool true) : V).er1, st))
theorem g37n11010 : g37C [1, 1, 0, 1, 0] = .loop (g37C [1, 1, 0, 1, 0, 0]) := by kernel_rfl
noncomputable def g37k2 (L11010 : V → V → V → St → Res) : Kon := kSeq (fun env st => L11010 (env 0) (env 1) (env 5) st) (g37k1)
theorem g37e11010 : g37X (g37C [1, 1, 0, 1, 0]) (g37k1) = fun env st => g37b11010 big (env 0) (env 1) (env 5) st := by
  have key : ∀ n, aloop (g37X (g37C [1, 1, 0, 1, 0, 0])) (g37k1) n = fun env st => g37b11010 n (env 0) (env 1) (env 5) st := by
    intro n
    induction n with
    | zero => rfl
    | succ n ih =>
      have h : aloop (g37X (g37C [1, 1, 0, 1, 0, 0])) (g37k1) (n + 1) = g37X (g37C [1, 1, 0, 1, 0, 0]) (kSeq (aloop (g37X (g37C [1, 1, 0, 1, 0, 0])) (g37k1) n) (g37k1)) := rfl
      rw [h, ih]
      refine Eq.trans (Eq.refl _) ?_
      funext env st
      kernel_rfl
  exact (g37loop g37n11010).trans (key big)
noncomputable def f37 (x0 : V) (x1 : V) (st : St) : Res :=
 A.lenL x0 fun a1 =>
 A.lenL x1 fun a2 =>
 A.eql 2 true a1 a2 fun a3 =>
 A.cond a3
 (some (.ret ((.bool false) : V).er1, st))
 (g37b11010 big x0 x1 (.int .i64 0) st)
theorem g37nr : g37C [] = .seq (g37C [0]) (g37C [1]) := by kernel_rfl
theorem g37n1 : g37C [1] = .seq (g37C [1, 0]) (g37C [1, 1]) := by kernel_rfl
theorem g37n11 : g37C [1, 1] = .seq (g37C [1, 1, 0]) (g37C [1, 1, 1]) := by kernel_rfl
theorem g37n110 : g37C [1, 1, 0] = .seq (g37C [1, 1, 0, 0]) (g37C [1, 1, 0, 1]) := by kernel_rfl
theorem g37n1101 : g37C [1, 1, 0, 1] = .block 0 (g37C [1, 1, 0, 1, 0]) := by kernel_rfl
theorem g37er (env : Env) (st : St) : g37X (g37C []) g37kr env st = f37 (env 0) (env 1) st := by
  rw [(g37seq g37nr (g37seq g37n1 ((g37seq g37n11 rfl).trans (g37seq g37n110 ((g37blk g37n1101).trans (g37e11010))))))]
  kernel_rfl
theorem s37_eq (x0 : V) (x1 : V) (st : St) : s37 [x0, x1] st = f37 x0 x1 st := by
  have h : afn Try.prog g37mu g37T big (areg Try.prog g37mu g37T) 37 [x0, x1] st = g37X (g37C []) g37kr (fun t => [x0, x1].getD t (.tup [])) st := by kernel_rfl
  rw [s37, sealF_eq]
  exact h.trans (g37er _ st)
/-! sinew/sinewref03.SameRows -/
def g38mu : Nat → Bool := fun _ => false
noncomputable def g38T : Tbl := tget [(37, s37)]
theorem g38t : SimT Try.prog g38T := simT_cons sim37 (simT_nil)
noncomputable def s38 : Fn := sealF (afn Try.prog g38mu g38T big (areg Try.prog g38mu g38T) 38)
theorem sim38 : Sim Try.prog 38 s38 := (afn_sim g38t (fun m => areg_sound g38t hmix m) 38 (by kernel_rfl)).sealed
noncomputable def g38C (p : List Nat) : Code := sub (match Try.f38.body with | some c => c | none => .skip) p
noncomputable def g38X (c : Code) (K : Kon) : Env → St → Res := aexec Try.prog g38mu g38T big 27 (areg Try.prog g38mu g38T 27) c K
noncomputable def g38kr : Kon := aresK Try.prog Try.f38.results.toList
theorem g38reg {c : Code} {K : Kon} {G : Env → St → Res} {id : Nat} {ops : Array Oper} {l1 l2 : List Nat} (hc : c = .region id ops false) (hl : List.range ops.size = l1 ++ l2) (h : (fun env st => aops Try.prog g38mu g38T 27 ops l2 env st (K .normal)) = G) : g38X c K = fun env st => aops Try.prog g38mu g38T 27 ops l1 env st G := reg_cut hc hl h
theorem g38seq {c x y : Code} {K : Kon} {G : Env → St → Res} (hc : c = .seq x y) (hy : g38X y K = G) : g38X c K = g38X x (kSeq G K) := seq_cut hc hy
theorem g38blk {c x : Code} {K : Kon} {i : Nat} (hc : c = .block i x) : g38X c K = g38X x (kBlk i K) := blk_cut hc
theorem g38loop {c x : Code} {K : Kon} (hc : c = .loop x) : g38X c K = aloop (g38X x) K big := loop_cut hc
theorem g38cond {c x y : Code} {K : Kon} {v : Operand} {F G : Env → St → Res} (hc : c = .cond v x y) (hx : g38X x K = F) (hy : g38X y K = G) : g38X c K = condF v F G := cond_cut hc hx hy
noncomputable def g38k0 : Kon := kSeq (g38X (g38C [1, 1, 1]) (g38kr)) (g38kr)
noncomputable def g38k1 : Kon := kBlk 0 (g38k0)
noncomputable def g38b11010 : Nat → V → V → V → St → Res
| 0, _, _, _, _ => none
| n + 1, x0, x1, x5, st =>
 A.lenL x0 fun a1 =>
 A.bin .lss x5 a1 fun a2 =>
 A.cond a2
 (A.iaddr 1 x0 x5 fun a3 =>
 A.load false 1 a3 st fun a4 _ =>
 A.iaddr 1 x1 x5 fun a5 =>
 A.load false 1 a5 st fun a6 _ =>
 A.noP (A.ret (s37 [a4.er1, a6.er1] st) kid) fun a7 z8 =>
 A.un .not a7 fun a9 =>
 A.cond a9
 (some (.ret ((.bool false) : V).er1, z8))
 (A.bin .add x5 (.int .i64 1) fun a10 =>
 (g38b11010 n) x0 x1 a10 z8))
 (some (.ret ((.bool true) : V).er1, st))
theorem g38n11010 : g38C [1, 1, 0, 1, 0] = .loop (g38C [1, 1, 0, 1, 0, 0]) := by kernel_rfl
noncomputable def g38k2 (L11010 : V → V → V → St → Res) : Kon := kSeq (fun env st => L11010 (env 0) (env 1) (env 5) st) (g38k1)
theorem g38e11010 : g38X (g38C [1, 1, 0, 1, 0]) (g38k1) = fun env st => g38b11010 big (env 0) (env 1) (env 5) st := by
  have key : ∀ n, aloop (g38X (g38C [1, 1, 0, 1, 0, 0])) (g38k1) n = fun env st => g38b11010 n (env 0) (env 1) (env 5) st := by
    intro n
    induction n with
    | zero => rfl
    | succ n ih =>
      have h : aloop (g38X (g38C [1, 1, 0, 1, 0, 0])) (g38k1) (n + 1) = g38X (g38C [1, 1, 0, 1, 0, 0]) (kSeq (aloop (g38X (g38C [1, 1, 0, 1, 0, 0])) (g38k1) n) (g38k1)) := rfl
      rw [h, ih]
      refine Eq.trans (Eq.refl _) ?_
      funext env st
      kernel_rfl
  exact (g38loop g38n11010).trans (key big)
noncomputable def f38 (x0 : V) (x1 : V) (st : St) : Res :=
 A.lenL x0 fun a1 =>
 A.lenL x1 fun a2 =>
 A.eql 2 true a1 a2 fun a3 =>
 A.cond a3
 (some (.ret ((.bool false) : V).er1, st))
 (g38b11010 big x0 x1 (.int .i64 0) st)
theorem g38nr : g38C [] = .seq (g38C [0]) (g38C [1]) := by kernel_rfl
theorem g38n1 : g38C [1] = .seq (g38C [1, 0]) (g38C [1, 1]) := by kernel_rfl
theorem g38n11 : g38C [1, 1] = .seq (g38C [1, 1, 0]) (g38C [1, 1, 1]) := by kernel_rfl
theorem g38n110 : g38C [1, 1, 0] = .seq (g38C [1, 1, 0, 0]) (g38C [1, 1, 0, 1]) := by kernel_rfl
theorem g38n1101 : g38C [1, 1, 0, 1] = .block 0 (g38C [1, 1, 0, 1, 0]) := by kernel_rfl
theorem g38er (env : Env) (st : St) : g38X (g38C []) g38kr env st = f38 (env 0) (env 1) st := by
  rw [(g38seq g38nr (g38seq g38n1 ((g38seq g38n11 rfl).trans (g38seq g38n110 ((g38blk g38n1101).trans (g38e11010))))))]
  kernel_rfl
theorem s38_eq (x0 : V) (x1 : V) (st : St) : s38 [x0, x1] st = f38 x0 x1 st := by
  have h : afn Try.prog g38mu g38T big (areg Try.prog g38mu g38T) 38 [x0, x1] st = g38X (g38C []) g38kr (fun t => [x0, x1].getD t (.tup [])) st := by kernel_rfl
  rw [s38, sealF_eq]
  exact h.trans (g38er _ st)
/-! sinew/sinewref03.Same -/
def g25mu : Nat → Bool := fun _ => false
noncomputable def g25T : Tbl := tget [(37, s37), (38, s38)]
theorem g25t : SimT Try.prog g25T := simT_cons sim37 ( simT_cons sim38 (simT_nil))
noncomputable def s25 : Fn := sealF (fun args st => fg (afn Try.prog g25mu g25T big (areg Try.prog g25mu g25T) 25 args st) st)
theorem sim25 : Sim Try.prog 25 s25 := (afn_sim g25t (fun m => areg_sound g25t hmix m) 25 (by kernel_rfl)).fg.sealed
noncomputable def g25C (p : List Nat) : Code := sub (match Try.f25.body with | some c => c | none => .skip) p
noncomputable def g25X (c : Code) (K : Kon) : Env → St → Res := aexec Try.prog g25mu g25T big 50 (areg Try.prog g25mu g25T 50) c K
noncomputable def g25kr : Kon := aresK Try.prog Try.f25.results.toList
theorem g25reg {c : Code} {K : Kon} {G : Env → St → Res} {id : Nat} {ops : Array Oper} {l1 l2 : List Nat} (hc : c = .region id ops false) (hl : List.range ops.size = l1 ++ l2) (h : (fun env st => aops Try.prog g25mu g25T 50 ops l2 env st (K .normal)) = G) : g25X c K = fun env st => aops Try.prog g25mu g25T 50 ops l1 env st G := reg_cut hc hl h
theorem g25seq {c x y : Code} {K : Kon} {G : Env → St → Res} (hc : c = .seq x y) (hy : g25X y K = G) : g25X c K = g25X x (kSeq G K) := seq_cut hc hy
theorem g25blk {c x : Code} {K : Kon} {i : Nat} (hc : c = .block i x) : g25X c K = g25X x (kBlk i K) := blk_cut hc
theorem g25loop {c x : Code} {K : Kon} (hc : c = .loop x) : g25X c K = aloop (g25X x) K big := loop_cut hc
theorem g25cond {c x y : Code} {K : Kon} {v : Operand} {F G : Env → St → Res} (hc : c = .cond v x y) (hx : g25X x K = F) (hy : g25X y K = G) : g25X c K = condF v F G := cond_cut hc hx hy
noncomputable def g25k0 : Kon := kSeq (g25X (g25C [1, 1, 1]) (g25kr)) (g25kr)
noncomputable def g25k1 : Kon := kBlk 0 (g25k0)
noncomputable def g25b11010 : Nat → V → V → V → St → Res
| 0, _, _, _, _ => none
| n + 1, x2, x3, x5, st =>
 A.faddr 1 x2 fun a1 =>
 A.load false 1 a1 st fun a2 z3 =>
 A.lenL a2 fun a4 =>
 A.bin .lss x5 a4 fun a5 =>
 A.cond a5
 (A.faddr 1 x2 fun a6 =>
 A.load false 1 a6 z3 fun a7 _ =>
 A.iaddr 1 a7 x5 fun a8 =>
 A.load false 1 a8 z3 fun a9 _ =>
 A.faddr 1 x3 fun a10 =>
 A.load false 1 a10 z3 fun a11 _ =>
 A.iaddr 1 a11 x5 fun a12 =>
 A.load false 1 a12 z3 fun a13 _ =>
 A.eql 2 true a9 a13 fun a14 =>
 A.cond a14
 (some (.ret ((.bool false) : V).er1, z3))
 (A.bin .add x5 (.int .i64 1) fun a15 =>
 (g25b11010 n) x2 x3 a15 z3))
 (A.faddr 2 x2 fun a16 =>
 A.load false 1 a16 z3 fun a17 z18 =>
 A.faddr 2 x3 fun a19 =>
 A.load false 1 a19 z18 fun a20 z21 =>
 A.ret (s37 [a17.er1, a20.er1] z21) fun a22 z23 =>
 A.guard a22 true
 (A.faddr 3 x2 fun a24 =>
 A.load false 1 a24 z23 fun a25 z26 =>
 A.faddr 3 x3 fun a27 =>
 A.load false 1 a27 z26 fun a28 z29 =>
 A.ret (s38 [a25.er1, a28.er1] z29) fun a30 z31 =>
 some (.ret a30.er1, z31))
 (some (.ret ((.bool false) : V).er1, z23)))
theorem g25n11010 : g25C [1, 1, 0, 1, 0] = .loop (g25C [1, 1, 0, 1, 0, 0]) := by kernel_rfl
noncomputable def g25k2 (L11010 : V → V → V → St → Res) : Kon := kSeq (fun env st => L11010 (env 2) (env 3) (env 5) st) (g25k1)
theorem g25e11010 : g25X (g25C [1, 1, 0, 1, 0]) (g25k1) = fun env st => g25b11010 big (env 2) (env 3) (env 5) st := by
  have key : ∀ n, aloop (g25X (g25C [1, 1, 0, 1, 0, 0])) (g25k1) n = fun env st => g25b11010 n (env 2) (env 3) (env 5) st := by
    intro n
    induction n with
    | zero => rfl
    | succ n ih =>
      have h : aloop (g25X (g25C [1, 1, 0, 1, 0, 0])) (g25k1) (n + 1) = g25X (g25C [1, 1, 0, 1, 0, 0]) (kSeq (aloop (g25X (g25C [1, 1, 0, 1, 0, 0])) (g25k1) n) (g25k1)) := rfl
      rw [h, ih]
      refine Eq.trans (Eq.refl _) ?_
      funext env st
      kernel_rfl
  exact (g25loop g25n11010).trans (key big)
noncomputable def g25b11 (x2 : V) (x3 : V) (st : St) : Res :=
 g25b11010 big x2 x3 (.int .i64 0) st
theorem g25n11 : g25C [1, 1] = .seq (g25C [1, 1, 0]) (g25C [1, 1, 1]) := by kernel_rfl
theorem g25n110 : g25C [1, 1, 0] = .seq (g25C [1, 1, 0, 0]) (g25C [1, 1, 0, 1]) := by kernel_rfl
theorem g25n1101 : g25C [1, 1, 0, 1] = .block 0 (g25C [1, 1, 0, 1, 0]) := by kernel_rfl
theorem g25e11 : g25X (g25C [1, 1]) (g25kr) = fun env st => g25b11 (env 2) (env 3) st := by
  refine Eq.trans ((g25seq g25n11 rfl).trans (g25seq g25n110 ((g25blk g25n1101).trans (g25e11010)))) ?_
  funext env st
  kernel_rfl
noncomputable def f25 (x0 : V) (x1 : V) (st : St) : Res :=
 A.box x0 st fun a1 z2 =>
 A.box x1 z2 fun a3 z4 =>
 A.faddr 0 a1 fun a5 =>
 A.load false 1 a5 z4 fun a6 z7 =>
 A.faddr 0 a3 fun a8 =>
 A.load false 1 a8 z7 fun a9 z10 =>
 A.eql 2 true a6 a9 fun a11 =>
 A.guard a11 false
 (A.faddr 1 a1 fun a12 =>
 A.load false 1 a12 z10 fun a13 z14 =>
 A.lenL a13 fun a15 =>
 A.faddr 1 a3 fun a16 =>
 A.load false 1 a16 z14 fun a17 z18 =>
 A.lenL a17 fun a19 =>
 A.eql 2 true a15 a19 fun a20 =>
 A.cond a20
 (some (.ret ((.bool false) : V).er1, z18))
 (g25b11 a1 a3 z18))
 (some (.ret ((.bool false) : V).er1, z10))
theorem g25nr : g25C [] = .seq (g25C [0]) (g25C [1]) := by kernel_rfl
theorem g25n1 : g25C [1] = .seq (g25C [1, 0]) (g25C [1, 1]) := by kernel_rfl
theorem g25er (env : Env) (st : St) : g25X (g25C []) g25kr env st = f25 (env 0) (env 1) st := by
  rw [(g25seq g25nr (g25seq g25n1 (g25e11)))]
  kernel_rfl
theorem s25_eq (x0 : V) (x1 : V) (st : St) : s25 [x0, x1] st = fg (f25 x0 x1 st) st := by
  have h : afn Try.prog g25mu g25T big (areg Try.prog g25mu g25T) 25 [x0, x1] st = g25X (g25C []) g25kr (fun t => [x0, x1].getD t (.tup [])) st := by kernel_rfl
  rw [s25, sealF_eq]
  show fg _ st = fg _ st
  refine congrArg (fun r => fg r st) ?_
  exact h.trans (g25er _ st)
/-! sinew/sinewref03.SameAll -/
def g16mu : Nat → Bool := fun _ => false
noncomputable def g16T : Tbl := tget [(25, s25)]
theorem g16t : SimT Try.prog g16T := simT_cons sim25 (simT_nil)
noncomputable def s16 : Fn := sealF (afn Try.prog g16mu g16T big (areg Try.prog g16mu g16T) 16)
theorem sim16 : Sim Try.prog 16 s16 := (afn_sim g16t (fun m => areg_sound g16t hmix m) 16 (by kernel_rfl)).sealed
noncomputable def g16C (p : List Nat) : Code := sub (match Try.f16.body with | some c => c | none => .skip) p
noncomputable def g16X (c : Code) (K : Kon) : Env → St → Res := aexec Try.prog g16mu g16T big 27 (areg Try.prog g16mu g16T 27) c K
noncomputable def g16kr : Kon := aresK Try.prog Try.f16.results.toList
theorem g16reg {c : Code} {K : Kon} {G : Env → St → Res} {id : Nat} {ops : Array Oper} {l1 l2 : List Nat} (hc : c = .region id ops false) (hl : List.range ops.size = l1 ++ l2) (h : (fun env st => aops Try.prog g16mu g16T 27 ops l2 env st (K .normal)) = G) : g16X c K = fun env st => aops Try.prog g16mu g16T 27 ops l1 env st G := reg_cut hc hl h
theorem g16seq {c x y : Code} {K : Kon} {G : Env → St → Res} (hc : c = .seq x y) (hy : g16X y K = G) : g16X c K = g16X x (kSeq G K) := seq_cut hc hy
theorem g16blk {c x : Code} {K : Kon} {i : Nat} (hc : c = .block i x) : g16X c K = g16X x (kBlk i K) := blk_cut hc
theorem g16loop {c x : Code} {K : Kon} (hc : c = .loop x) : g16X c K = aloop (g16X x) K big := loop_cut hc
theorem g16cond {c x y : Code} {K : Kon} {v : Operand} {F G : Env → St → Res} (hc : c = .cond v x y) (hx : g16X x K = F) (hy : g16X y K = G) : g16X c K = condF v F G := cond_cut hc hx hy
noncomputable def g16k0 : Kon := kSeq (g16X (g16C [1, 1, 1]) (g16kr)) (g16kr)
noncomputable def g16k1 : Kon := kBlk 0 (g16k0)
noncomputable def g16b11010 : Nat → V → V → V → St → Res
| 0, _, _, _, _ => none
| n + 1, x0, x1, x5, st =>
 A.lenL x0 fun a1 =>
 A.bin .lss x5 a1 fun a2 =>
 A.cond a2
 (A.iaddr 4 x0 x5 fun a3 =>
 A.load true 4 a3 st fun a4 _ =>
 A.iaddr 4 x1 x5 fun a5 =>
 A.load true 4 a5 st fun a6 _ =>
 A.noP (A.ret (s25 [a4.er1, a6.er1] st) kid) fun a7 z8 =>
 A.un .not a7 fun a9 =>
 A.cond a9
 (some (.ret ((.bool false) : V).er1, z8))
 (A.bin .add x5 (.int .i64 1) fun a10 =>
 (g16b11010 n) x0 x1 a10 z8))
 (some (.ret ((.bool true) : V).er1, st))
theorem g16n11010 : g16C [1, 1, 0, 1, 0] = .loop (g16C [1, 1, 0, 1, 0, 0]) := by kernel_rfl
noncomputable def g16k2 (L11010 : V → V → V → St → Res) : Kon := kSeq (fun env st => L11010 (env 0) (env 1) (env 5) st) (g16k1)
theorem g16e11010 : g16X (g16C [1, 1, 0, 1, 0]) (g16k1) = fun env st => g16b11010 big (env 0) (env 1) (env 5) st := by
  have key : ∀ n, aloop (g16X (g16C [1, 1, 0, 1, 0, 0])) (g16k1) n = fun env st => g16b11010 n (env 0) (env 1) (env 5) st := by
    intro n
    induction n with
    | zero => rfl
    | succ n ih =>
      have h : aloop (g16X (g16C [1, 1, 0, 1, 0, 0])) (g16k1) (n + 1) = g16X (g16C [1, 1, 0, 1, 0, 0]) (kSeq (aloop (g16X (g16C [1, 1, 0, 1, 0, 0])) (g16k1) n) (g16k1)) := rfl
      rw [h, ih]
      refine Eq.trans (Eq.refl _) ?_
      funext env st
      kernel_rfl
  exact (g16loop g16n11010).trans (key big)
noncomputable def f16 (x0 : V) (x1 : V) (st : St) : Res :=
 A.lenL x0 fun a1 =>
 A.lenL x1 fun a2 =>
 A.eql 2 true a1 a2 fun a3 =>
 A.cond a3
 (some (.ret ((.bool false) : V).er1, st))
 (g16b11010 big x0 x1 (.int .i64 0) st)
theorem g16nr : g16C [] = .seq (g16C [0]) (g16C [1]) := by kernel_rfl
theorem g16n1 : g16C [1] = .seq (g16C [1, 0]) (g16C [1, 1]) := by kernel_rfl
theorem g16n11 : g16C [1, 1] = .seq (g16C [1, 1, 0]) (g16C [1, 1, 1]) := by kernel_rfl
theorem g16n110 : g16C [1, 1, 0] = .seq (g16C [1, 1, 0, 0]) (g16C [1, 1, 0, 1]) := by kernel_rfl
theorem g16n1101 : g16C [1, 1, 0, 1] = .block 0 (g16C [1, 1, 0, 1, 0]) := by kernel_rfl
theorem g16er (env : Env) (st : St) : g16X (g16C []) g16kr env st = f16 (env 0) (env 1) st := by
  rw [(g16seq g16nr (g16seq g16n1 ((g16seq g16n11 rfl).trans (g16seq g16n110 ((g16blk g16n1101).trans (g16e11010))))))]
  kernel_rfl
theorem s16_eq (x0 : V) (x1 : V) (st : St) : s16 [x0, x1] st = f16 x0 x1 st := by
  have h : afn Try.prog g16mu g16T big (areg Try.prog g16mu g16T) 16 [x0, x1] st = g16X (g16C []) g16kr (fun t => [x0, x1].getD t (.tup [])) st := by kernel_rfl
  rw [s16, sealF_eq]
  exact h.trans (g16er _ st)
/-! sinew/sinewlaw04.JournalSure -/
def g3mu : Nat → Bool := fun _ => false
noncomputable def g3T : Tbl := tget [(9, s9), (10, s10), (11, s11), (12, s12), (13, s13), (14, s14), (15, s15), (16, s16)]
theorem g3t : SimT Try.prog g3T := simT_cons sim9 ( simT_cons sim10 ( simT_cons sim11 ( simT_cons sim12 ( simT_cons sim13 ( simT_cons sim14 ( simT_cons sim15 ( simT_cons sim16 (simT_nil))))))))
noncomputable def s3 : Fn := sealF (afn Try.prog g3mu g3T big (areg Try.prog g3mu g3T) 3)
theorem sim3 : Sim Try.prog 3 s3 := (afn_sim g3t (fun m => areg_sound g3t hmix m) 3 (by kernel_rfl)).sealed
noncomputable def g3C (p : List Nat) : Code := sub (match Try.f3.body with | some c => c | none => .skip) p
noncomputable def g3X (c : Code) (K : Kon) : Env → St → Res := aexec Try.prog g3mu g3T big 127 (areg Try.prog g3mu g3T 127) c K
noncomputable def g3kr : Kon := aresK Try.prog Try.f3.results.toList
theorem g3reg {c : Code} {K : Kon} {G : Env → St → Res} {id : Nat} {ops : Array Oper} {l1 l2 : List Nat} (hc : c = .region id ops false) (hl : List.range ops.size = l1 ++ l2) (h : (fun env st => aops Try.prog g3mu g3T 127 ops l2 env st (K .normal)) = G) : g3X c K = fun env st => aops Try.prog g3mu g3T 127 ops l1 env st G := reg_cut hc hl h
theorem g3seq {c x y : Code} {K : Kon} {G : Env → St → Res} (hc : c = .seq x y) (hy : g3X y K = G) : g3X c K = g3X x (kSeq G K) := seq_cut hc hy
theorem g3blk {c x : Code} {K : Kon} {i : Nat} (hc : c = .block i x) : g3X c K = g3X x (kBlk i K) := blk_cut hc
theorem g3loop {c x : Code} {K : Kon} (hc : c = .loop x) : g3X c K = aloop (g3X x) K big := loop_cut hc
theorem g3cond {c x y : Code} {K : Kon} {v : Operand} {F G : Env → St → Res} (hc : c = .cond v x y) (hx : g3X x K = F) (hy : g3X y K = G) : g3X c K = condF v F G := cond_cut hc hx hy
noncomputable def g3k0 : Kon := kSeq (g3X (g3C [1, 1, 1, 1, 1, 1, 1, 1, 1, 1, 1]) (g3kr)) (g3kr)
noncomputable def g3b11111111110_16 (x124 : V) (st : St) : Res :=
 A.guard x124 true
 (A.ret (s11 [] st) fun a1 z2 =>
 some (.ret a1.er1, z2))
 (some (.ret ((.bool false) : V).er1, st))
theorem g3e11111111110_16 : (fun env st => aops Try.prog g3mu g3T 127 (rops (g3C [1, 1, 1, 1, 1, 1, 1, 1, 1, 1, 0])) [16, 17, 18] env st ((g3k0) .normal)) = fun env st => g3b11111111110_16 (env 124) st := by
  refine Eq.trans (Eq.refl _) ?_
  funext env st
  kernel_rfl
noncomputable def g3b11111111110_7 (x14 : V) (x15 : V) (x115 : V) (st : St) : Res :=
 A.guard x115 true
 (A.lenL x14 fun a1 =>
 A.iaddr 4 x15 a1 fun a2 =>
 A.faddr 0 a2 fun a3 =>
 A.load false 1 a3 st fun a4 z5 =>
 A.eql 2 false a4 (.int .i64 9) fun a6 =>
 g3b11111111110_16 a6 z5)
 (g3b11111111110_16 (.bool false) st)
theorem g3e11111111110_7 : (fun env st => aops Try.prog g3mu g3T 127 (rops (g3C [1, 1, 1, 1, 1, 1, 1, 1, 1, 1, 0])) [7, 8, 9, 10, 11, 12, 13, 14, 15, 16, 17, 18] env st ((g3k0) .normal)) = fun env st => g3b11111111110_7 (env 14) (env 15) (env 115) st := by
  refine Eq.trans (ops_cut (l1 := [7, 8, 9, 10, 11, 12, 13, 14, 15]) (l2 := [16, 17, 18]) (g3e11111111110_16)) ?_
  funext env st
  kernel_rfl
noncomputable def g3b111111111 (x7 : V) (x14 : V) (st : St) : Res :=
 A.ret (s15 [x7.er1] st) fun a1 z2 =>
 A.lenL a1 fun a3 =>
 A.lenL x14 fun a4 =>
 A.bin .add a4 (.int .i64 1) fun a5 =>
 A.eql 2 false a3 a5 fun a6 =>
 g3b11111111110_7 x14 a1 a6 z2
theorem g3n111111111 : g3C [1, 1, 1, 1, 1, 1, 1, 1, 1] = .seq (g3C [1, 1, 1, 1, 1, 1, 1, 1, 1, 0]) (g3C [1, 1, 1, 1, 1, 1, 1, 1, 1, 1]) := by kernel_rfl
theorem g3n1111111111 : g3C [1, 1, 1, 1, 1, 1, 1, 1, 1, 1] = .seq (g3C [1, 1, 1, 1, 1, 1, 1, 1, 1, 1, 0]) (g3C [1, 1, 1, 1, 1, 1, 1, 1, 1, 1, 1]) := by kernel_rfl
theorem g3rg11111111110 : g3C [1, 1, 1, 1, 1, 1, 1, 1, 1, 1, 0] = .region 27 (rops (g3C [1, 1, 1, 1, 1, 1, 1, 1, 1, 1, 0])) false := by kernel_rfl
theorem g3rg11111111110l : List.range (rops (g3C [1, 1, 1, 1, 1, 1, 1, 1, 1, 1, 0])).size = [0, 1, 2, 3, 4, 5, 6] ++ [7, 8, 9, 10, 11, 12, 13, 14, 15, 16, 17, 18] := by kernel_rfl
theorem g3e111111111 : g3X (g3C [1, 1, 1, 1, 1, 1, 1, 1, 1]) (g3kr) = fun env st => g3b111111111 (env 7) (env 14) st := by
  refine Eq.trans (g3seq g3n111111111 ((g3seq g3n1111111111 rfl).trans (g3reg g3rg11111111110 g3rg11111111110l (g3e11111111110_7)))) ?_
  funext env st
  kernel_rfl
noncomputable def g3k1 : Kon := kSeq (fun env st => g3b111111111 (env 7) (env 14) st) (g3kr)
noncomputable def g3k2 : Kon := kSeq (g3X (g3C [1, 1, 1, 1, 1, 1, 1, 1, 0, 1]) (g3k1)) (g3k1)
noncomputable def g3b1111111100_20 (x7 : V) (x14 : V) (x101 : V) (st : St) : Res :=
 A.guard x101 false
 (A.build [(.int .i64 0), (.lst [] 1), (.lst [] 1), (.lst [] 1)] [(0, 1, (.int .i64 9))] fun a1 =>
 A.ret (s12 [x7.er1, a1.er1] st) fun a2 z3 =>
 A.eql 2 true a2 (.int .i64 0) fun a4 =>
 A.cond a4
 (some (.ret ((.bool false) : V).er1, z3))
 (g3b111111111 x7 x14 z3))
 (some (.ret ((.bool false) : V).er1, st))
theorem g3e1111111100_20 : (fun env st => aops Try.prog g3mu g3T 127 (rops (g3C [1, 1, 1, 1, 1, 1, 1, 1, 0, 0])) [20, 21, 22, 23, 24] env st ((g3k2) .normal)) = fun env st => g3b1111111100_20 (env 7) (env 14) (env 101) st := by
  refine Eq.trans (Eq.refl _) ?_
  funext env st
  kernel_rfl
noncomputable def g3b1111111100_11 (x7 : V) (x11 : V) (x14 : V) (x92 : V) (st : St) : Res :=
 A.guard x92 false
 (A.lenL x14 fun a1 =>
 A.slice 4 x11 none (some a1) none fun a2 =>
 A.ret (s16 [x14.er1, a2.er1] st) fun a3 z4 =>
 A.un .not a3 fun a5 =>
 g3b1111111100_20 x7 x14 a5 z4)
 (g3b1111111100_20 x7 x14 (.bool true) st)
theorem g3e1111111100_11 : (fun env st => aops Try.prog g3mu g3T 127 (rops (g3C [1, 1, 1, 1, 1, 1, 1, 1, 0, 0])) [11, 12, 13, 14, 15, 16, 17, 18, 19, 20, 21, 22, 23, 24] env st ((g3k2) .normal)) = fun env st => g3b1111111100_11 (env 7) (env 11) (env 14) (env 92) st := by
  refine Eq.trans (ops_cut (l1 := [11, 12, 13, 14, 15, 16, 17, 18, 19]) (l2 := [20, 21, 22, 23, 24]) (g3e1111111100_20)) ?_
  funext env st
  kernel_rfl
noncomputable def g3b111111 (x2 : V) (x7 : V) (x9 : V) (x10 : V) (x11 : V) (st : St) : Res :=
 A.ret (s14 [x7.er1, x2.er1] st) fun a1 z2 =>
 A.eql 2 true a1 (.int .i64 0) fun a3 =>
 A.cond a3
 (some (.ret ((.bool false) : V).er1, z2))
 (A.ret (s15 [x7.er1] z2) fun a4 z5 =>
 A.lenL a4 fun a6 =>
 A.bin .lss a6 x10 fun a7 =>
 A.guard a7 false
 (A.lenL a4 fun a8 =>
 A.bin .gtr a8 x9 fun a9 =>
 g3b1111111100_11 x7 x11 a4 a9 z5)
 (g3b1111111100_11 x7 x11 a4 (.bool true) z5))
theorem g3n111111 : g3C [1, 1, 1, 1, 1, 1] = .seq (g3C [1, 1, 1, 1, 1, 1, 0]) (g3C [1, 1, 1, 1, 1, 1, 1]) := by kernel_rfl
theorem g3n1111111 : g3C [1, 1, 1, 1, 1, 1, 1] = .seq (g3C [1, 1, 1, 1, 1, 1, 1, 0]) (g3C [1, 1, 1, 1, 1, 1, 1, 1]) := by kernel_rfl
theorem g3n11111111 : g3C [1, 1, 1, 1, 1, 1, 1, 1] = .seq (g3C [1, 1, 1, 1, 1, 1, 1, 1, 0]) (g3C [1, 1, 1, 1, 1, 1, 1, 1, 1]) := by kernel_rfl
theorem g3n111111110 : g3C [1, 1, 1, 1, 1, 1, 1, 1, 0] = .seq (g3C [1, 1, 1, 1, 1, 1, 1, 1, 0, 0]) (g3C [1, 1, 1, 1, 1, 1, 1, 1, 0, 1]) := by kernel_rfl
theorem g3rg1111111100 : g3C [1, 1, 1, 1, 1, 1, 1, 1, 0, 0] = .region 24 (rops (g3C [1, 1, 1, 1, 1, 1, 1, 1, 0, 0])) false := by kernel_rfl
theorem g3rg1111111100l : List.range (rops (g3C [1, 1, 1, 1, 1, 1, 1, 1, 0, 0])).size = [0, 1, 2, 3, 4, 5, 6, 7, 8, 9, 10] ++ [11, 12, 13, 14, 15, 16, 17, 18, 19, 20, 21, 22, 23, 24] := by kernel_rfl
theorem g3e111111 : g3X (g3C [1, 1, 1, 1, 1, 1]) (g3kr) = fun env st => g3b111111 (env 2) (env 7) (env 9) (env 10) (env 11) st := by
  refine Eq.trans (g3seq g3n111111 (g3seq g3n1111111 ((g3seq g3n11111111 (g3e111111111)).trans ((g3seq g3n111111110 rfl).trans (g3reg g3rg1111111100 g3rg1111111100l (g3e1111111100_11)))))) ?_
  funext env st
  kernel_rfl
noncomputable def g3k3 : Kon := kSeq (fun env st => g3b111111 (env 2) (env 7) (env 9) (env 10) (env 11) st) (g3kr)
noncomputable def g3k4 : Kon := kBlk 0 (g3k3)
noncomputable def g3k5 (L11111010 : V → V → V → V → V → V → V → V → St → Res) : Kon := kSeq (fun env st => L11111010 (env 0) (env 1) (env 2) (env 7) (env 9) (env 10) (env 11) (env 12) st) (g3k4)
noncomputable def g3k6 (L11111010 : V → V → V → V → V → V → V → V → St → Res) : Kon := kSeq (g3X (g3C [1, 1, 1, 1, 1, 0, 1, 0, 0, 1, 1]) (g3k5 L11111010)) (g3k5 L11111010)
noncomputable def g3k7 (L11111010 : V → V → V → V → V → V → V → V → St → Res) : Kon := kBlk 1 (g3k6 L11111010)
noncomputable def g3b1111101001001111 (L11111010 : V → V → V → V → V → V → V → V → St → Res) (x0 : V) (x1 : V) (x2 : V) (x7 : V) (x9 : V) (x10 : V) (x11 : V) (x12 : V) (st : St) : Res :=
 A.bin .and x12 (.int .i64 31) fun a1 =>
 A.bin .shr x1 a1 fun a2 =>
 A.bin .and a2 (.int .i64 1) fun a3 =>
 A.eql 2 false a3 (.int .i64 1) fun a4 =>
 A.cond a4
 (A.ret (s13 [x7.er1] st) fun a5 z6 =>
 A.eql 2 true a5 (.int .i64 0) fun a7 =>
 A.cond a7
 (some (.ret ((.bool false) : V).er1, z6))
 (A.bin .add x12 (.int .i64 1) fun a8 =>
 L11111010 x0 x1 x2 x7 x9 x9 x11 a8 z6))
 (A.bin .add x12 (.int .i64 1) fun a9 =>
 L11111010 x0 x1 x2 x7 x9 x10 x11 a9 st)
theorem g3e1111101001001111 (L11111010 : V → V → V → V → V → V → V → V → St → Res) : g3X (g3C [1, 1, 1, 1, 1, 0, 1, 0, 0, 1, 0, 0, 1, 1, 1, 1]) (g3k7 L11111010) = fun env st => g3b1111101001001111 L11111010 (env 0) (env 1) (env 2) (env 7) (env 9) (env 10) (env 11) (env 12) st := by
  refine Eq.trans (Eq.refl (g3X (g3C [1, 1, 1, 1, 1, 0, 1, 0, 0, 1, 0, 0, 1, 1, 1, 1]) (g3k7 L11111010))) ?_
  funext env st
  kernel_rfl
noncomputable def g3b111110100100111 (L11111010 : V → V → V → V → V → V → V → V → St → Res) (x0 : V) (x1 : V) (x2 : V) (x7 : V) (x9 : V) (x10 : V) (x11 : V) (x12 : V) (x13 : V) (st : St) : Res :=
 A.eql 2 false x13 (.int .i64 0) fun a1 =>
 A.cond a1
 (A.iaddr 4 x0 x12 fun a2 =>
 A.load true 4 a2 st fun a3 z4 =>
 A.bslice 4 (.agg [(.int .i64 0), (.lst [] 1), (.lst [] 1), (.lst [] 1)]) 1 [(0, a3)] fun a5 =>
 A.app 4 x11 (elemsOf 5 4 a5 z4) z4 fun a6 z7 =>
 A.bin .add x9 (.int .i64 1) fun a8 =>
 g3b1111101001001111 L11111010 x0 x1 x2 x7 a8 x10 a6 x12 z7)
 (g3b1111101001001111 L11111010 x0 x1 x2 x7 x9 x10 x11 x12 st)
theorem g3n111110100100111 : g3C [1, 1, 1, 1, 1, 0, 1, 0, 0, 1, 0, 0, 1, 1, 1] = .seq (g3C [1, 1, 1, 1, 1, 0, 1, 0, 0, 1, 0, 0, 1, 1, 1, 0]) (g3C [1, 1, 1, 1, 1, 0, 1, 0, 0, 1, 0, 0, 1, 1, 1, 1]) := by kernel_rfl
theorem g3e111110100100111 (L11111010 : V → V → V → V → V → V → V → V → St → Res) : g3X (g3C [1, 1, 1, 1, 1, 0, 1, 0, 0, 1, 0, 0, 1, 1, 1]) (g3k7 L11111010) = fun env st => g3b111110100100111 L11111010 (env 0) (env 1) (env 2) (env 7) (env 9) (env 10) (env 11) (env 12) (env 13) st := by
  refine Eq.trans (g3seq g3n111110100100111 (g3e1111101001001111 L11111010)) ?_
  funext env st
  kernel_rfl
noncomputable def g3b11111010010011 (L11111010 : V → V → V → V → V → V → V → V → St → Res) (x0 : V) (x1 : V) (x2 : V) (x7 : V) (x9 : V) (x10 : V) (x11 : V) (x12 : V) (x13 : V) (st : St) : Res :=
 A.eql 2 true x13 (.int .i64 0) fun a1 =>
 A.guard a1 true
 (A.eql 2 true x13 (.int .i64 1) fun a2 =>
 A.cond a2
 (some (.ret ((.bool false) : V).er1, st))
 (g3b111110100100111 L11111010 x0 x1 x2 x7 x9 x10 x11 x12 x13 st))
 (g3b111110100100111 L11111010 x0 x1 x2 x7 x9 x10 x11 x12 x13 st)
theorem g3n11111010010011 : g3C [1, 1, 1, 1, 1, 0, 1, 0, 0, 1, 0, 0, 1, 1] = .seq (g3C [1, 1, 1, 1, 1, 0, 1, 0, 0, 1, 0, 0, 1, 1, 0]) (g3C [1, 1, 1, 1, 1, 0, 1, 0, 0, 1, 0, 0, 1, 1, 1]) := by kernel_rfl
theorem g3e11111010010011 (L11111010 : V → V → V → V → V → V → V → V → St → Res) : g3X (g3C [1, 1, 1, 1, 1, 0, 1, 0, 0, 1, 0, 0, 1, 1]) (g3k7 L11111010) = fun env st => g3b11111010010011 L11111010 (env 0) (env 1) (env 2) (env 7) (env 9) (env 10) (env 11) (env 12) (env 13) st := by
  refine Eq.trans (g3seq g3n11111010010011 (g3e111110100100111 L11111010)) ?_
  funext env st
  kernel_rfl
noncomputable def g3b1111101001 (L11111010 : V → V → V → V → V → V → V → V → St → Res) (x0 : V) (x1 : V) (x2 : V) (x7 : V) (x9 : V) (x10 : V) (x11 : V) (x12 : V) (st : St) : Res :=
 A.iaddr 4 x0 x12 fun a1 =>
 A.load true 4 a1 st fun a2 z3 =>
 A.ret (s10 [a2.er1] z3) fun a4 z5 =>
 A.un .not a4 fun a6 =>
 A.cond a6
 (A.ret (s11 [] z5) fun a7 z8 =>
 some (.ret a7.er1, z8))
 (A.iaddr 4 x0 x12 fun a9 =>
 A.load true 4 a9 z5 fun a10 z11 =>
 A.ret (s12 [x7.er1, a10.er1] z11) fun a12 z13 =>
 g3b11111010010011 L11111010 x0 x1 x2 x7 x9 x10 x11 x12 a12 z13)
theorem g3n1111101001 : g3C [1, 1, 1, 1, 1, 0, 1, 0, 0, 1] = .seq (g3C [1, 1, 1, 1, 1, 0, 1, 0, 0, 1, 0]) (g3C [1, 1, 1, 1, 1, 0, 1, 0, 0, 1, 1]) := by kernel_rfl
theorem g3n11111010010 : g3C [1, 1, 1, 1, 1, 0, 1, 0, 0, 1, 0] = .block 1 (g3C [1, 1, 1, 1, 1, 0, 1, 0, 0, 1, 0, 0]) := by kernel_rfl
theorem g3n111110100100 : g3C [1, 1, 1, 1, 1, 0, 1, 0, 0, 1, 0, 0] = .seq (g3C [1, 1, 1, 1, 1, 0, 1, 0, 0, 1, 0, 0, 0]) (g3C [1, 1, 1, 1, 1, 0, 1, 0, 0, 1, 0, 0, 1]) := by kernel_rfl
theorem g3n1111101001001 : g3C [1, 1, 1, 1, 1, 0, 1, 0, 0, 1, 0, 0, 1] = .seq (g3C [1, 1, 1, 1, 1, 0, 1, 0, 0, 1, 0, 0, 1, 0]) (g3C [1, 1, 1, 1, 1, 0, 1, 0, 0, 1, 0, 0, 1, 1]) := by kernel_rfl
theorem g3e1111101001 (L11111010 : V → V → V → V → V → V → V → V → St → Res) : g3X (g3C [1, 1, 1, 1, 1, 0, 1, 0, 0, 1]) (g3k5 L11111010) = fun env st => g3b1111101001 L11111010 (env 0) (env 1) (env 2) (env 7) (env 9) (env 10) (env 11) (env 12) st := by
  refine Eq.trans ((g3seq g3n1111101001 rfl).trans ((g3blk g3n11111010010).trans (g3seq g3n111110100100 (g3seq g3n1111101001001 (g3e11111010010011 L11111010))))) ?_
  funext env st
  kernel_rfl
noncomputable def g3b11111010 : Nat → V → V → V → V → V → V → V → V → St → Res
| 0, _, _, _, _, _, _, _, _, _ => none
| n + 1, x0, x1, x2, x7, x9, x10, x11, x12, st =>
 A.lenL x0 fun a1 =>
 A.bin .lss x12 a1 fun a2 =>
 A.guard a2 true
 (A.bin .lss x12 (.int .i64 40) fun a3 =>
 A.cond a3
 (g3b1111101001 (g3b11111010 n) x0 x1 x2 x7 x9 x10 x11 x12 st)
 (g3b111111 x2 x7 x9 x10 x11 st))
 (g3b111111 x2 x7 x9 x10 x11 st)
theorem g3n11111010 : g3C [1, 1, 1, 1, 1, 0, 1, 0] = .loop (g3C [1, 1, 1, 1, 1, 0, 1, 0, 0]) := by kernel_rfl
theorem g3n111110100 : g3C [1, 1, 1, 1, 1, 0, 1, 0, 0] = .seq (g3C [1, 1, 1, 1, 1, 0, 1, 0, 0, 0]) (g3C [1, 1, 1, 1, 1, 0, 1, 0, 0, 1]) := by kernel_rfl
theorem g3e11111010 : g3X (g3C [1, 1, 1, 1, 1, 0, 1, 0]) (g3k4) = fun env st => g3b11111010 big (env 0) (env 1) (env 2) (env 7) (env 9) (env 10) (env 11) (env 12) st := by
  have key : ∀ n, aloop (g3X (g3C [1, 1, 1, 1, 1, 0, 1, 0, 0])) (g3k4) n = fun env st => g3b11111010 n (env 0) (env 1) (env 2) (env 7) (env 9) (env 10) (env 11) (env 12) st := by
    intro n
    induction n with
    | zero => rfl
    | succ n ih =>
      have h : aloop (g3X (g3C [1, 1, 1, 1, 1, 0, 1, 0, 0])) (g3k4) (n + 1) = g3X (g3C [1, 1, 1, 1, 1, 0, 1, 0, 0]) (kSeq (aloop (g3X (g3C [1, 1, 1, 1, 1, 0, 1, 0, 0])) (g3k4) n) (g3k4)) := rfl
      rw [h, ih]
      refine Eq.trans (g3seq g3n111110100 (g3e1111101001 (g3b11111010 n))) ?_
      funext env st
      kernel_rfl
  exact (g3loop g3n11111010).trans (key big)
noncomputable def g3b111 (x0 : V) (x1 : V) (x2 : V) (x7 : V) (st : St) : Res :=
 g3b11111010 big x0 x1 x2 x7 (.int .i64 0) (.int .i64 0) (.lst [] 1) (.int .i64 0) st
theorem g3n111 : g3C [1, 1, 1] = .seq (g3C [1, 1, 1, 0]) (g3C [1, 1, 1, 1]) := by kernel_rfl
theorem g3n1111 : g3C [1, 1, 1, 1] = .seq (g3C [1, 1, 1, 1, 0]) (g3C [1, 1, 1, 1, 1]) := by kernel_rfl
theorem g3n11111 : g3C [1, 1, 1, 1, 1] = .seq (g3C [1, 1, 1, 1, 1, 0]) (g3C [1, 1, 1, 1, 1, 1]) := by kernel_rfl
theorem g3n111110 : g3C [1, 1, 1, 1, 1, 0] = .seq (g3C [1, 1, 1, 1, 1, 0, 0]) (g3C [1, 1, 1, 1, 1, 0, 1]) := by kernel_rfl
theorem g3n1111101 : g3C [1, 1, 1, 1, 1, 0, 1] = .block 0 (g3C [1, 1, 1, 1, 1, 0, 1, 0]) := by kernel_rfl
theorem g3e111 : g3X (g3C [1, 1, 1]) (g3kr) = fun env st => g3b111 (env 0) (env 1) (env 2) (env 7) st := by
  refine Eq.trans (g3seq g3n111 (g3seq g3n1111 ((g3seq g3n11111 (g3e111111)).trans (g3seq g3n111110 ((g3blk g3n1111101).trans (g3e11111010)))))) ?_
  funext env st
  kernel_rfl
noncomputable def f3 (x0 : V) (x1 : V) (x2 : V) (st : St) : Res :=
 A.ret (s9 [((.int .i64 4194304) : V).er1] st) fun a1 z2 =>
 A.ext a1 0 fun a3 =>
 A.ext a1 1 fun a4 =>
 A.eql 2 true a4 (.int .i64 0) fun a5 =>
 A.guard a5 false
 (A.eql 4 false a3 .ptr0 fun a6 =>
 A.cond a6
 (some (.ret ((.bool false) : V).er1, z2))
 (g3b111 x0 x1 x2 a3 z2))
 (some (.ret ((.bool false) : V).er1, z2))
theorem g3nr : g3C [] = .seq (g3C [0]) (g3C [1]) := by kernel_rfl
theorem g3n1 : g3C [1] = .seq (g3C [1, 0]) (g3C [1, 1]) := by kernel_rfl
theorem g3n11 : g3C [1, 1] = .seq (g3C [1, 1, 0]) (g3C [1, 1, 1]) := by kernel_rfl
theorem g3er (env : Env) (st : St) : g3X (g3C []) g3kr env st = f3 (env 0) (env 1) (env 2) st := by
  rw [(g3seq g3nr (g3seq g3n1 (g3seq g3n11 (g3e111))))]
  kernel_rfl
theorem s3_eq (x0 : V) (x1 : V) (x2 : V) (st : St) : s3 [x0, x1, x2] st = f3 x0 x1 x2 st := by
  have h : afn Try.prog g3mu g3T big (areg Try.prog g3mu g3T) 3 [x0, x1, x2] st = g3X (g3C []) g3kr (fun t => [x0, x1, x2].getD t (.tup [])) st := by kernel_rfl
  rw [s3, sealF_eq]
  exact h.trans (g3er _ st)
/-! sinew/sinewlaw04.JournalRoom -/
def g4mu : Nat → Bool := fun _ => false
noncomputable def g4T : Tbl := tget [(9, s9), (11, s11), (12, s12), (15, s15), (17, s17)]
theorem g4t : SimT Try.prog g4T := simT_cons sim9 ( simT_cons sim11 ( simT_cons sim12 ( simT_cons sim15 ( simT_cons sim17 (simT_nil)))))
noncomputable def s4 : Fn := sealF (afn Try.prog g4mu g4T big (areg Try.prog g4mu g4T) 4)
theorem sim4 : Sim Try.prog 4 s4 := (afn_sim g4t (fun m => areg_sound g4t hmix m) 4 (by kernel_rfl)).sealed
noncomputable def g4C (p : List Nat) : Code := sub (match Try.f4.body with | some c => c | none => .skip) p
noncomputable def g4X (c : Code) (K : Kon) : Env → St → Res := aexec Try.prog g4mu g4T big 106 (areg Try.prog g4mu g4T 106) c K
noncomputable def g4kr : Kon := aresK Try.prog Try.f4.results.toList
theorem g4reg {c : Code} {K : Kon} {G : Env → St → Res} {id : Nat} {ops : Array Oper} {l1 l2 : List Nat} (hc : c = .region id ops false) (hl : List.range ops.size = l1 ++ l2) (h : (fun env st => aops Try.prog g4mu g4T 106 ops l2 env st (K .normal)) = G) : g4X c K = fun env st => aops Try.prog g4mu g4T 106 ops l1 env st G := reg_cut hc hl h
theorem g4seq {c x y : Code} {K : Kon} {G : Env → St → Res} (hc : c = .seq x y) (hy : g4X y K = G) : g4X c K = g4X x (kSeq G K) := seq_cut hc hy
theorem g4blk {c x : Code} {K : Kon} {i : Nat} (hc : c = .block i x) : g4X c K = g4X x (kBlk i K) := blk_cut hc
theorem g4loop {c x : Code} {K : Kon} (hc : c = .loop x) : g4X c K = aloop (g4X x) K big := loop_cut hc
theorem g4cond {c x y : Code} {K : Kon} {v : Operand} {F G : Env → St → Res} (hc : c = .cond v x y) (hx : g4X x K = F) (hy : g4X y K = G) : g4X c K = condF v F G := cond_cut hc hx hy
noncomputable def g4k0 : Kon := kSeq (g4X (g4C [1, 1, 1, 1, 1]) (g4kr)) (g4kr)
noncomputable def g4k1 : Kon := kBlk 0 (g4k0)
noncomputable def g4k2 (L1111010 : V → V → V → V → St → Res) : Kon := kSeq (fun env st => L1111010 (env 1) (env 5) (env 6) (env 8) st) (g4k1)
noncomputable def g4k3 (L1111010 : V → V → V → V → St → Res) : Kon := kSeq (g4X (g4C [1, 1, 1, 1, 0, 1, 0, 0, 1, 1]) (g4k2 L1111010)) (g4k2 L1111010)
noncomputable def g4k4 (L1111010 : V → V → V → V → St → Res) : Kon := kBlk 1 (g4k3 L1111010)
noncomputable def g4k5 (L1111010 : V → V → V → V → St → Res) : Kon := kSeq (g4X (g4C [1, 1, 1, 1, 0, 1, 0, 0, 1, 0, 0, 1, 1, 1, 1, 1, 1]) (g4k4 L1111010)) (g4k4 L1111010)
noncomputable def g4b11110100100111110_21 (L1111010 : V → V → V → V → St → Res) (x1 : V) (x5 : V) (x6 : V) (x8 : V) (x10 : V) (x12 : V) (x13 : V) (x14 : V) (x85 : V) (st : St) : Res :=
 A.guard x85 false
 (A.eql 2 true x13 (.int .i64 0) fun a1 =>
 A.guardT a1 true
 (A.eql 2 true x13 (.int .i64 40) fun a2 =>
 A.guardT a2 false
 (A.eql 2 true x14 x10 fun a3 =>
 A.guardT a3 false
 (A.ret (s15 [x6.er1] st) fun a4 z5 =>
 A.lenL a4 fun a6 =>
 A.eql 2 true a6 x12 fun a7 =>
 A.cond a7
 (some (.ret ((.bool false) : V).er1, z5))
 (A.bin .add x8 (.int .i64 1) fun a8 =>
 L1111010 x1 x5 x6 a8 z5))
 (some (.ret ((.bool false) : V).er1, st))
 (A.guardT a3 false
 (A.ret (s15 [((.tup []) : V).er1] st) fun a9 z10 =>
 A.lenL a9 fun a11 =>
 A.eql 2 true a11 x12 fun a12 =>
 A.cond a12
 (some (.ret ((.bool false) : V).er1, z10))
 (A.bin .add x8 (.int .i64 1) fun a13 =>
 L1111010 x1 x5 x6 a13 z10))
 (some (.ret ((.bool false) : V).er1, st))
 (A.guardT a3 false
 (A.lenL (.tup []) fun a14 =>
 A.eql 2 true a14 x12 fun a15 =>
 A.cond a15
 (some (.ret ((.bool false) : V).er1, st))
 (A.bin .add x8 (.int .i64 1) fun a16 =>
 L1111010 x1 x5 x6 a16 st))
 (some (.ret ((.bool false) : V).er1, st))
 (A.guardT a3 false
 (A.eql 2 true (.tup []) x12 fun a17 =>
 A.cond a17
 (some (.ret ((.bool false) : V).er1, st))
 (A.bin .add x8 (.int .i64 1) fun a18 =>
 L1111010 x1 x5 x6 a18 st))
 (some (.ret ((.bool false) : V).er1, st))
 (A.guardT a3 false
 (A.eql 2 true (.tup []) (.tup []) fun a19 =>
 A.cond a19
 (some (.ret ((.bool false) : V).er1, st))
 (A.bin .add x8 (.int .i64 1) fun a20 =>
 L1111010 x1 x5 x6 a20 st))
 (some (.ret ((.bool false) : V).er1, st))
 (A.pick a3 (.bool true) (.tup []) fun a21 =>
 A.cond a21
 (some (.ret ((.bool false) : V).er1, st))
 (A.bin .add x8 (.int .i64 1) fun a22 =>
 L1111010 x1 x5 x6 a22 st)))))))
 (some (.ret ((.bool false) : V).er1, st))
 (A.guardT a2 false
 (A.eql 2 true (.tup []) x10 fun a23 =>
 A.guardT a23 false
 (A.ret (s15 [x6.er1] st) fun a24 z25 =>
 A.lenL a24 fun a26 =>
 A.eql 2 true a26 x12 fun a27 =>
 A.cond a27
 (some (.ret ((.bool false) : V).er1, z25))
 (A.bin .add x8 (.int .i64 1) fun a28 =>
 L1111010 x1 x5 x6 a28 z25))
 (some (.ret ((.bool false) : V).er1, st))
 (A.guardT a23 false
 (A.ret (s15 [((.tup []) : V).er1] st) fun a29 z30 =>
 A.lenL a29 fun a31 =>
 A.eql 2 true a31 x12 fun a32 =>
 A.cond a32
 (some (.ret ((.bool false) : V).er1, z30))
 (A.bin .add x8 (.int .i64 1) fun a33 =>
 L1111010 x1 x5 x6 a33 z30))
 (some (.ret ((.bool false) : V).er1, st))
 (A.guardT a23 false
 (A.lenL (.tup []) fun a34 =>
 A.eql 2 true a34 x12 fun a35 =>
 A.cond a35
 (some (.ret ((.bool false) : V).er1, st))
 (A.bin .add x8 (.int .i64 1) fun a36 =>
 L1111010 x1 x5 x6 a36 st))
 (some (.ret ((.bool false) : V).er1, st))
 (A.guardT a23 false
 (A.eql 2 true (.tup []) x12 fun a37 =>
 A.cond a37
 (some (.ret ((.bool false) : V).er1, st))
 (A.bin .add x8 (.int .i64 1) fun a38 =>
 L1111010 x1 x5 x6 a38 st))
 (some (.ret ((.bool false) : V).er1, st))
 (A.guardT a23 false
 (A.eql 2 true (.tup []) (.tup []) fun a39 =>
 A.cond a39
 (some (.ret ((.bool false) : V).er1, st))
 (A.bin .add x8 (.int .i64 1) fun a40 =>
 L1111010 x1 x5 x6 a40 st))
 (some (.ret ((.bool false) : V).er1, st))
 (A.pick a23 (.bool true) (.tup []) fun a41 =>
 A.cond a41
 (some (.ret ((.bool false) : V).er1, st))
 (A.bin .add x8 (.int .i64 1) fun a42 =>
 L1111010 x1 x5 x6 a42 st)))))))
 (some (.ret ((.bool false) : V).er1, st))
 (A.guardT a2 false
 (A.eql 2 true (.tup []) (.tup []) fun a43 =>
 A.guardT a43 false
 (A.ret (s15 [x6.er1] st) fun a44 z45 =>
 A.lenL a44 fun a46 =>
 A.eql 2 true a46 x12 fun a47 =>
 A.cond a47
 (some (.ret ((.bool false) : V).er1, z45))
 (A.bin .add x8 (.int .i64 1) fun a48 =>
 L1111010 x1 x5 x6 a48 z45))
 (some (.ret ((.bool false) : V).er1, st))
 (A.guardT a43 false
 (A.ret (s15 [((.tup []) : V).er1] st) fun a49 z50 =>
 A.lenL a49 fun a51 =>
 A.eql 2 true a51 x12 fun a52 =>
 A.cond a52
 (some (.ret ((.bool false) : V).er1, z50))
 (A.bin .add x8 (.int .i64 1) fun a53 =>
 L1111010 x1 x5 x6 a53 z50))
 (some (.ret ((.bool false) : V).er1, st))
 (A.guardT a43 false
 (A.lenL (.tup []) fun a54 =>
 A.eql 2 true a54 x12 fun a55 =>
 A.cond a55
 (some (.ret ((.bool false) : V).er1, st))
 (A.bin .add x8 (.int .i64 1) fun a56 =>
 L1111010 x1 x5 x6 a56 st))
 (some (.ret ((.bool false) : V).er1, st))
 (A.guardT a43 false
 (A.eql 2 true (.tup []) x12 fun a57 =>
 A.cond a57
 (some (.ret ((.bool false) : V).er1, st))
 (A.bin .add x8 (.int .i64 1) fun a58 =>
 L1111010 x1 x5 x6 a58 st))
 (some (.ret ((.bool false) : V).er1, st))
 (A.guardT a43 false
 (A.eql 2 true (.tup []) (.tup []) fun a59 =>
 A.cond a59
 (some (.ret ((.bool false) : V).er1, st))
 (A.bin .add x8 (.int .i64 1) fun a60 =>
 L1111010 x1 x5 x6 a60 st))
 (some (.ret ((.bool false) : V).er1, st))
 (A.pick a43 (.bool true) (.tup []) fun a61 =>
 A.cond a61
 (some (.ret ((.bool false) : V).er1, st))
 (A.bin .add x8 (.int .i64 1) fun a62 =>
 L1111010 x1 x5 x6 a62 st)))))))
 (some (.ret ((.bool false) : V).er1, st))
 (A.pick a2 (.bool true) (.tup []) fun a63 =>
 A.guardT a63 false
 (A.ret (s15 [x6.er1] st) fun a64 z65 =>
 A.lenL a64 fun a66 =>
 A.eql 2 true a66 x12 fun a67 =>
 A.cond a67
 (some (.ret ((.bool false) : V).er1, z65))
 (A.bin .add x8 (.int .i64 1) fun a68 =>
 L1111010 x1 x5 x6 a68 z65))
 (some (.ret ((.bool false) : V).er1, st))
 (A.guardT a63 false
 (A.ret (s15 [((.tup []) : V).er1] st) fun a69 z70 =>
 A.lenL a69 fun a71 =>
 A.eql 2 true a71 x12 fun a72 =>
 A.cond a72
 (some (.ret ((.bool false) : V).er1, z70))
 (A.bin .add x8 (.int .i64 1) fun a73 =>
 L1111010 x1 x5 x6 a73 z70))
 (some (.ret ((.bool false) : V).er1, st))
 (A.guardT a63 false
 (A.lenL (.tup []) fun a74 =>
 A.eql 2 true a74 x12 fun a75 =>
 A.cond a75
 (some (.ret ((.bool false) : V).er1, st))
 (A.bin .add x8 (.int .i64 1) fun a76 =>
 L1111010 x1 x5 x6 a76 st))
 (some (.ret ((.bool false) : V).er1, st))
 (A.guardT a63 false
 (A.eql 2 true (.tup []) x12 fun a77 =>
 A.cond a77
 (some (.ret ((.bool false) : V).er1, st))
 (A.bin .add x8 (.int .i64 1) fun a78 =>
 L1111010 x1 x5 x6 a78 st))
 (some (.ret ((.bool false) : V).er1, st))
 (A.guardT a63 false
 (A.eql 2 true (.tup []) (.tup []) fun a79 =>
 A.cond a79
 (some (.ret ((.bool false) : V).er1, st))
 (A.bin .add x8 (.int .i64 1) fun a80 =>
 L1111010 x1 x5 x6 a80 st))
 (some (.ret ((.bool false) : V).er1, st))
 (A.pick a63 (.bool true) (.tup []) fun a81 =>
 A.cond a81
 (some (.ret ((.bool false) : V).er1, st))
 (A.bin .add x8 (.int .i64 1) fun a82 =>
 L1111010 x1 x5 x6 a82 st))))))))))
 (A.bin .add x8 (.int .i64 1) fun a83 =>
 L1111010 x1 x5 x6 a83 st)
 (A.guardT a1 true
 (A.eql 2 true (.tup []) (.int .i64 40) fun a84 =>
 A.guardT a84 false
 (A.eql 2 true x14 x10 fun a85 =>
 A.guardT a85 false
 (A.ret (s15 [x6.er1] st) fun a86 z87 =>
 A.lenL a86 fun a88 =>
 A.eql 2 true a88 x12 fun a89 =>
 A.cond a89
 (some (.ret ((.bool false) : V).er1, z87))
 (A.bin .add x8 (.int .i64 1) fun a90 =>
 L1111010 x1 x5 x6 a90 z87))
 (some (.ret ((.bool false) : V).er1, st))
 (A.guardT a85 false
 (A.ret (s15 [((.tup []) : V).er1] st) fun a91 z92 =>
 A.lenL a91 fun a93 =>
 A.eql 2 true a93 x12 fun a94 =>
 A.cond a94
 (some (.ret ((.bool false) : V).er1, z92))
 (A.bin .add x8 (.int .i64 1) fun a95 =>
 L1111010 x1 x5 x6 a95 z92))
 (some (.ret ((.bool false) : V).er1, st))
 (A.guardT a85 false
 (A.lenL (.tup []) fun a96 =>
 A.eql 2 true a96 x12 fun a97 =>
 A.cond a97
 (some (.ret ((.bool false) : V).er1, st))
 (A.bin .add x8 (.int .i64 1) fun a98 =>
 L1111010 x1 x5 x6 a98 st))
 (some (.ret ((.bool false) : V).er1, st))
 (A.guardT a85 false
 (A.eql 2 true (.tup []) x12 fun a99 =>
 A.cond a99
 (some (.ret ((.bool false) : V).er1, st))
 (A.bin .add x8 (.int .i64 1) fun a100 =>
 L1111010 x1 x5 x6 a100 st))
 (some (.ret ((.bool false) : V).er1, st))
 (A.guardT a85 false
 (A.eql 2 true (.tup []) (.tup []) fun a101 =>
 A.cond a101
 (some (.ret ((.bool false) : V).er1, st))
 (A.bin .add x8 (.int .i64 1) fun a102 =>
 L1111010 x1 x5 x6 a102 st))
 (some (.ret ((.bool false) : V).er1, st))
 (A.pick a85 (.bool true) (.tup []) fun a103 =>
 A.cond a103
 (some (.ret ((.bool false) : V).er1, st))
 (A.bin .add x8 (.int .i64 1) fun a104 =>
 L1111010 x1 x5 x6 a104 st)))))))
 (some (.ret ((.bool false) : V).er1, st))
 (A.guardT a84 false
 (A.eql 2 true (.tup []) x10 fun a105 =>
 A.guardT a105 false
 (A.ret (s15 [x6.er1] st) fun a106 z107 =>
 A.lenL a106 fun a108 =>
 A.eql 2 true a108 x12 fun a109 =>
 A.cond a109
 (some (.ret ((.bool false) : V).er1, z107))
 (A.bin .add x8 (.int .i64 1) fun a110 =>
 L1111010 x1 x5 x6 a110 z107))
 (some (.ret ((.bool false) : V).er1, st))
 (A.guardT a105 false
 (A.ret (s15 [((.tup []) : V).er1] st) fun a111 z112 =>
 A.lenL a111 fun a113 =>
 A.eql 2 true a113 x12 fun a114 =>
 A.cond a114
 (some (.ret ((.bool false) : V).er1, z112))
 (A.bin .add x8 (.int .i64 1) fun a115 =>
 L1111010 x1 x5 x6 a115 z112))
 (some (.ret ((.bool false) : V).er1, st))
 (A.guardT a105 false
 (A.lenL (.tup []) fun a116 =>
 A.eql 2 true a116 x12 fun a117 =>
 A.cond a117
 (some (.ret ((.bool false) : V).er1, st))
 (A.bin .add x8 (.int .i64 1) fun a118 =>
 L1111010 x1 x5 x6 a118 st))
 (some (.ret ((.bool false) : V).er1, st))
 (A.guardT a105 false
 (A.eql 2 true (.tup []) x12 fun a119 =>
 A.cond a119
 (some (.ret ((.bool false) : V).er1, st))
 (A.bin .add x8 (.int .i64 1) fun a120 =>
 L1111010 x1 x5 x6 a120 st))
 (some (.ret ((.bool false) : V).er1, st))
 (A.guardT a105 false
 (A.eql 2 true (.tup []) (.tup []) fun a121 =>
 A.cond a121
 (some (.ret ((.bool false) : V).er1, st))
 (A.bin .add x8 (.int .i64 1) fun a122 =>
 L1111010 x1 x5 x6 a122 st))
 (some (.ret ((.bool false) : V).er1, st))
 (A.pick a105 (.bool true) (.tup []) fun a123 =>
 A.cond a123
 (some (.ret ((.bool false) : V).er1, st))
 (A.bin .add x8 (.int .i64 1) fun a124 =>
 L1111010 x1 x5 x6 a124 st)))))))
 (some (.ret ((.bool false) : V).er1, st))
 (A.guardT a84 false
 (A.eql 2 true (.tup []) (.tup []) fun a125 =>
 A.guardT a125 false
 (A.ret (s15 [x6.er1] st) fun a126 z127 =>
 A.lenL a126 fun a128 =>
 A.eql 2 true a128 x12 fun a129 =>
 A.cond a129
 (some (.ret ((.bool false) : V).er1, z127))
 (A.bin .add x8 (.int .i64 1) fun a130 =>
 L1111010 x1 x5 x6 a130 z127))
 (some (.ret ((.bool false) : V).er1, st))
 (A.guardT a125 false
 (A.ret (s15 [((.tup []) : V).er1] st) fun a131 z132 =>
 A.lenL a131 fun a133 =>
 A.eql 2 true a133 x12 fun a134 =>
 A.cond a134
 (some (.ret ((.bool false) : V).er1, z132))
 (A.bin .add x8 (.int .i64 1) fun a135 =>
 L1111010 x1 x5 x6 a135 z132))
 (some (.ret ((.bool false) : V).er1, st))
 (A.guardT a125 false
 (A.lenL (.tup []) fun a136 =>
 A.eql 2 true a136 x12 fun a137 =>
 A.cond a137
 (some (.ret ((.bool false) : V).er1, st))
 (A.bin .add x8 (.int .i64 1) fun a138 =>
 L1111010 x1 x5 x6 a138 st))
 (some (.ret ((.bool false) : V).er1, st))
 (A.guardT a125 false
 (A.eql 2 true (.tup []) x12 fun a139 =>
 A.cond a139
 (some (.ret ((.bool false) : V).er1, st))
 (A.bin .add x8 (.int .i64 1) fun a140 =>
 L1111010 x1 x5 x6 a140 st))
 (some (.ret ((.bool false) : V).er1, st))
 (A.guardT a125 false
 (A.eql 2 true (.tup []) (.tup []) fun a141 =>
 A.cond a141
 (some (.ret ((.bool false) : V).er1, st))
 (A.bin .add x8 (.int .i64 1) fun a142 =>
 L1111010 x1 x5 x6 a142 st))
 (some (.ret ((.bool false) : V).er1, st))
 (A.pick a125 (.bool true) (.tup []) fun a143 =>
 A.cond a143
 (some (.ret ((.bool false) : V).er1, st))
 (A.bin .add x8 (.int .i64 1) fun a144 =>
 L1111010 x1 x5 x6 a144 st)))))))
 (some (.ret ((.bool false) : V).er1, st))
 (A.pick a84 (.bool true) (.tup []) fun a145 =>
 A.guardT a145 false
 (A.ret (s15 [x6.er1] st) fun a146 z147 =>
 A.lenL a146 fun a148 =>
 A.eql 2 true a148 x12 fun a149 =>
 A.cond a149
 (some (.ret ((.bool false) : V).er1, z147))
 (A.bin .add x8 (.int .i64 1) fun a150 =>
 L1111010 x1 x5 x6 a150 z147))
 (some (.ret ((.bool false) : V).er1, st))
 (A.guardT a145 false
 (A.ret (s15 [((.tup []) : V).er1] st) fun a151 z152 =>
 A.lenL a151 fun a153 =>
 A.eql 2 true a153 x12 fun a154 =>
 A.cond a154
 (some (.ret ((.bool false) : V).er1, z152))
 (A.bin .add x8 (.int .i64 1) fun a155 =>
 L1111010 x1 x5 x6 a155 z152))
 (some (.ret ((.bool false) : V).er1, st))
 (A.guardT a145 false
 (A.lenL (.tup []) fun a156 =>
 A.eql 2 true a156 x12 fun a157 =>
 A.cond a157
 (some (.ret ((.bool false) : V).er1, st))
 (A.bin .add x8 (.int .i64 1) fun a158 =>
 L1111010 x1 x5 x6 a158 st))
 (some (.ret ((.bool false) : V).er1, st))
 (A.guardT a145 false
 (A.eql 2 true (.tup []) x12 fun a159 =>
 A.cond a159
 (some (.ret ((.bool false) : V).er1, st))
 (A.bin .add x8 (.int .i64 1) fun a160 =>
 L1111010 x1 x5 x6 a160 st))
 (some (.ret ((.bool false) : V).er1, st))
 (A.guardT a145 false
 (A.eql 2 true (.tup []) (.tup []) fun a161 =>
 A.cond a161
 (some (.ret ((.bool false) : V).er1, st))
 (A.bin .add x8 (.int .i64 1) fun a162 =>
 L1111010 x1 x5 x6 a162 st))
 (some (.ret ((.bool false) : V).er1, st))
 (A.pick a145 (.bool true) (.tup []) fun a163 =>
 A.cond a163
 (some (.ret ((.bool false) : V).er1, st))
 (A.bin .add x8 (.int .i64 1) fun a164 =>
 L1111010 x1 x5 x6 a164 st))))))))))
 (A.bin .add x8 (.int .i64 1) fun a165 =>
 L1111010 x1 x5 x6 a165 st)
 (A.guardT a1 true
 (A.pick (.tup []) (.bool true) (.tup []) fun a166 =>
 A.guardT a166 false
 (A.ret (s15 [x6.er1] st) fun a167 z168 =>
 A.lenL a167 fun a169 =>
 A.eql 2 true a169 x12 fun a170 =>
 A.cond a170
 (some (.ret ((.bool false) : V).er1, z168))
 (A.bin .add x8 (.int .i64 1) fun a171 =>
 L1111010 x1 x5 x6 a171 z168))
 (some (.ret ((.bool false) : V).er1, st))
 (A.guardT a166 false
 (A.ret (s15 [((.tup []) : V).er1] st) fun a172 z173 =>
 A.lenL a172 fun a174 =>
 A.eql 2 true a174 x12 fun a175 =>
 A.cond a175
 (some (.ret ((.bool false) : V).er1, z173))
 (A.bin .add x8 (.int .i64 1) fun a176 =>
 L1111010 x1 x5 x6 a176 z173))
 (some (.ret ((.bool false) : V).er1, st))
 (A.guardT a166 false
 (A.lenL (.tup []) fun a177 =>
 A.eql 2 true a177 x12 fun a178 =>
 A.cond a178
 (some (.ret ((.bool false) : V).er1, st))
 (A.bin .add x8 (.int .i64 1) fun a179 =>
 L1111010 x1 x5 x6 a179 st))
 (some (.ret ((.bool false) : V).er1, st))
 (A.guardT a166 false
 (A.eql 2 true (.tup []) x12 fun a180 =>
 A.cond a180
 (some (.ret ((.bool false) : V).er1, st))
 (A.bin .add x8 (.int .i64 1) fun a181 =>
 L1111010 x1 x5 x6 a181 st))
 (some (.ret ((.bool false) : V).er1, st))
 (A.guardT a166 false
 (A.eql 2 true (.tup []) (.tup []) fun a182 =>
 A.cond a182
 (some (.ret ((.bool false) : V).er1, st))
 (A.bin .add x8 (.int .i64 1) fun a183 =>
 L1111010 x1 x5 x6 a183 st))
 (some (.ret ((.bool false) : V).er1, st))
 (A.pick a166 (.bool true) (.tup []) fun a184 =>
 A.cond a184
 (some (.ret ((.bool false) : V).er1, st))
 (A.bin .add x8 (.int .i64 1) fun a185 =>
 L1111010 x1 x5 x6 a185 st)))))))
 (A.bin .add x8 (.int .i64 1) fun a186 =>
 L1111010 x1 x5 x6 a186 st)
 (A.guardT a1 true
 (A.pick (.tup []) (.bool true) (.tup []) fun a187 =>
 A.guardT a187 false
 (A.ret (s15 [x6.er1] st) fun a188 z189 =>
 A.lenL a188 fun a190 =>
 A.eql 2 true a190 x12 fun a191 =>
 A.cond a191
 (some (.ret ((.bool false) : V).er1, z189))
 (A.bin .add x8 (.int .i64 1) fun a192 =>
 L1111010 x1 x5 x6 a192 z189))
 (some (.ret ((.bool false) : V).er1, st))
 (A.guardT a187 false
 (A.ret (s15 [((.tup []) : V).er1] st) fun a193 z194 =>
 A.lenL a193 fun a195 =>
 A.eql 2 true a195 x12 fun a196 =>
 A.cond a196
 (some (.ret ((.bool false) : V).er1, z194))
 (A.bin .add x8 (.int .i64 1) fun a197 =>
 L1111010 x1 x5 x6 a197 z194))
 (some (.ret ((.bool false) : V).er1, st))
 (A.guardT a187 false
 (A.lenL (.tup []) fun a198 =>
 A.eql 2 true a198 x12 fun a199 =>
 A.cond a199
 (some (.ret ((.bool false) : V).er1, st))
 (A.bin .add x8 (.int .i64 1) fun a200 =>
 L1111010 x1 x5 x6 a200 st))
 (some (.ret ((.bool false) : V).er1, st))
 (A.guardT a187 false
 (A.eql 2 true (.tup []) x12 fun a201 =>
 A.cond a201
 (some (.ret ((.bool false) : V).er1, st))
 (A.bin .add x8 (.int .i64 1) fun a202 =>
 L1111010 x1 x5 x6 a202 st))
 (some (.ret ((.bool false) : V).er1, st))
 (A.guardT a187 false
 (A.eql 2 true (.tup []) (.tup []) fun a203 =>
 A.cond a203
 (some (.ret ((.bool false) : V).er1, st))
 (A.bin .add x8 (.int .i64 1) fun a204 =>
 L1111010 x1 x5 x6 a204 st))
 (some (.ret ((.bool false) : V).er1, st))
 (A.pick a187 (.bool true) (.tup []) fun a205 =>
 A.cond a205
 (some (.ret ((.bool false) : V).er1, st))
 (A.bin .add x8 (.int .i64 1) fun a206 =>
 L1111010 x1 x5 x6 a206 st)))))))
 (A.bin .add x8 (.int .i64 1) fun a207 =>
 L1111010 x1 x5 x6 a207 st)
 (A.guardT a1 true
 (A.pick (.tup []) (.bool true) (.tup []) fun a208 =>
 A.cond a208
 (some (.ret ((.bool false) : V).er1, st))
 (A.bin .add x8 (.int .i64 1) fun a209 =>
 L1111010 x1 x5 x6 a209 st))
 (A.bin .add x8 (.int .i64 1) fun a210 =>
 L1111010 x1 x5 x6 a210 st)
 (A.guardT a1 true
 (A.pick (.tup []) (.bool true) (.tup []) fun a211 =>
 A.cond a211
 (some (.ret ((.bool false) : V).er1, st))
 (A.bin .add x8 (.int .i64 1) fun a212 =>
 L1111010 x1 x5 x6 a212 st))
 (A.bin .add x8 (.int .i64 1) fun a213 =>
 L1111010 x1 x5 x6 a213 st)
 (A.pick a1 (.tup []) (.bool false) fun a214 =>
 A.cond a214
 (some (.ret ((.bool false) : V).er1, st))
 (A.bin .add x8 (.int .i64 1) fun a215 =>
 L1111010 x1 x5 x6 a215 st))))))))
 (some (.ret ((.bool false) : V).er1, st))
theorem g4e11110100100111110_21 (L1111010 : V → V → V → V → St → Res) : (fun env st => aops Try.prog g4mu g4T 106 (rops (g4C [1, 1, 1, 1, 0, 1, 0, 0, 1, 0, 0, 1, 1, 1, 1, 1, 0])) [21, 22, 23, 24, 25, 26, 27, 28, 29, 30, 31, 32, 33, 34, 35, 36, 37, 38, 39] env st ((g4k5 L1111010) .normal)) = fun env st => g4b11110100100111110_21 L1111010 (env 1) (env 5) (env 6) (env 8) (env 10) (env 12) (env 13) (env 14) (env 85) st := by
  refine Eq.trans (Eq.refl _) ?_
  funext env st
  kernel_rfl
noncomputable def g4b1111010010011111 (L1111010 : V → V → V → V → St → Res) (x1 : V) (x5 : V) (x6 : V) (x8 : V) (x10 : V) (x12 : V) (x13 : V) (x14 : V) (st : St) : Res :=
 A.bin .gtr x14 x5 fun a1 =>
 A.guard a1 false
 (A.eql 2 false x13 (.int .i64 0) fun a2 =>
 A.guardT a2 true
 (A.bin .leq x14 x10 fun a3 =>
 A.guardT a3 false
 (A.ret (s15 [x6.er1] st) fun a4 z5 =>
 A.lenL a4 fun a6 =>
 A.bin .add x12 (.int .i64 1) fun a7 =>
 A.eql 2 true a6 a7 fun a8 =>
 g4b11110100100111110_21 L1111010 x1 x5 x6 x8 x10 x12 x13 x14 a8 z5)
 (g4b11110100100111110_21 L1111010 x1 x5 x6 x8 x10 x12 x13 x14 (.bool true) st)
 (A.guardT a3 false
 (A.ret (s15 [((.tup []) : V).er1] st) fun a9 z10 =>
 A.lenL a9 fun a11 =>
 A.bin .add x12 (.int .i64 1) fun a12 =>
 A.eql 2 true a11 a12 fun a13 =>
 g4b11110100100111110_21 L1111010 x1 x5 x6 x8 x10 x12 x13 x14 a13 z10)
 (g4b11110100100111110_21 L1111010 x1 x5 x6 x8 x10 x12 x13 x14 (.bool true) st)
 (A.guardT a3 false
 (A.lenL (.tup []) fun a14 =>
 A.bin .add x12 (.int .i64 1) fun a15 =>
 A.eql 2 true a14 a15 fun a16 =>
 g4b11110100100111110_21 L1111010 x1 x5 x6 x8 x10 x12 x13 x14 a16 st)
 (g4b11110100100111110_21 L1111010 x1 x5 x6 x8 x10 x12 x13 x14 (.bool true) st)
 (A.guardT a3 false
 (A.bin .add x12 (.int .i64 1) fun a17 =>
 A.eql 2 true (.tup []) a17 fun a18 =>
 g4b11110100100111110_21 L1111010 x1 x5 x6 x8 x10 x12 x13 x14 a18 st)
 (g4b11110100100111110_21 L1111010 x1 x5 x6 x8 x10 x12 x13 x14 (.bool true) st)
 (A.guardT a3 false
 (A.bin .add (.tup []) (.int .i64 1) fun a19 =>
 A.eql 2 true (.tup []) a19 fun a20 =>
 g4b11110100100111110_21 L1111010 x1 x5 x6 x8 x10 x12 x13 x14 a20 st)
 (g4b11110100100111110_21 L1111010 x1 x5 x6 x8 x10 x12 x13 x14 (.bool true) st)
 (A.guardT a3 false
 (A.eql 2 true (.tup []) (.tup []) fun a21 =>
 g4b11110100100111110_21 L1111010 x1 x5 x6 x8 x10 x12 x13 x14 a21 st)
 (g4b11110100100111110_21 L1111010 x1 x5 x6 x8 x10 x12 x13 x14 (.bool true) st)
 (A.pick a3 (.bool true) (.tup []) fun a22 =>
 g4b11110100100111110_21 L1111010 x1 x5 x6 x8 x10 x12 x13 x14 a22 st)))))))
 (g4b11110100100111110_21 L1111010 x1 x5 x6 x8 x10 x12 x13 x14 (.bool false) st)
 (A.guardT a2 true
 (A.bin .leq (.tup []) x10 fun a23 =>
 A.guardT a23 false
 (A.ret (s15 [x6.er1] st) fun a24 z25 =>
 A.lenL a24 fun a26 =>
 A.bin .add x12 (.int .i64 1) fun a27 =>
 A.eql 2 true a26 a27 fun a28 =>
 g4b11110100100111110_21 L1111010 x1 x5 x6 x8 x10 x12 x13 x14 a28 z25)
 (g4b11110100100111110_21 L1111010 x1 x5 x6 x8 x10 x12 x13 x14 (.bool true) st)
 (A.guardT a23 false
 (A.ret (s15 [((.tup []) : V).er1] st) fun a29 z30 =>
 A.lenL a29 fun a31 =>
 A.bin .add x12 (.int .i64 1) fun a32 =>
 A.eql 2 true a31 a32 fun a33 =>
 g4b11110100100111110_21 L1111010 x1 x5 x6 x8 x10 x12 x13 x14 a33 z30)
 (g4b11110100100111110_21 L1111010 x1 x5 x6 x8 x10 x12 x13 x14 (.bool true) st)
 (A.guardT a23 false
 (A.lenL (.tup []) fun a34 =>
 A.bin .add x12 (.int .i64 1) fun a35 =>
 A.eql 2 true a34 a35 fun a36 =>
 g4b11110100100111110_21 L1111010 x1 x5 x6 x8 x10 x12 x13 x14 a36 st)
 (g4b11110100100111110_21 L1111010 x1 x5 x6 x8 x10 x12 x13 x14 (.bool true) st)
 (A.guardT a23 false
 (A.bin .add x12 (.int .i64 1) fun a37 =>
 A.eql 2 true (.tup []) a37 fun a38 =>
 g4b11110100100111110_21 L1111010 x1 x5 x6 x8 x10 x12 x13 x14 a38 st)
 (g4b11110100100111110_21 L1111010 x1 x5 x6 x8 x10 x12 x13 x14 (.bool true) st)
 (A.guardT a23 false
 (A.bin .add (.tup []) (.int .i64 1) fun a39 =>
 A.eql 2 true (.tup []) a39 fun a40 =>
 g4b11110100100111110_21 L1111010 x1 x5 x6 x8 x10 x12 x13 x14 a40 st)
 (g4b11110100100111110_21 L1111010 x1 x5 x6 x8 x10 x12 x13 x14 (.bool true) st)
 (A.guardT a23 false
 (A.eql 2 true (.tup []) (.tup []) fun a41 =>
 g4b11110100100111110_21 L1111010 x1 x5 x6 x8 x10 x12 x13 x14 a41 st)
 (g4b11110100100111110_21 L1111010 x1 x5 x6 x8 x10 x12 x13 x14 (.bool true) st)
 (A.pick a23 (.bool true) (.tup []) fun a42 =>
 g4b11110100100111110_21 L1111010 x1 x5 x6 x8 x10 x12 x13 x14 a42 st)))))))
 (g4b11110100100111110_21 L1111010 x1 x5 x6 x8 x10 x12 x13 x14 (.bool false) st)
 (A.guardT a2 true
 (A.bin .leq (.tup []) (.tup []) fun a43 =>
 A.guardT a43 false
 (A.ret (s15 [x6.er1] st) fun a44 z45 =>
 A.lenL a44 fun a46 =>
 A.bin .add x12 (.int .i64 1) fun a47 =>
 A.eql 2 true a46 a47 fun a48 =>
 g4b11110100100111110_21 L1111010 x1 x5 x6 x8 x10 x12 x13 x14 a48 z45)
 (g4b11110100100111110_21 L1111010 x1 x5 x6 x8 x10 x12 x13 x14 (.bool true) st)
 (A.guardT a43 false
 (A.ret (s15 [((.tup []) : V).er1] st) fun a49 z50 =>
 A.lenL a49 fun a51 =>
 A.bin .add x12 (.int .i64 1) fun a52 =>
 A.eql 2 true a51 a52 fun a53 =>
 g4b11110100100111110_21 L1111010 x1 x5 x6 x8 x10 x12 x13 x14 a53 z50)
 (g4b11110100100111110_21 L1111010 x1 x5 x6 x8 x10 x12 x13 x14 (.bool true) st)
 (A.guardT a43 false
 (A.lenL (.tup []) fun a54 =>
 A.bin .add x12 (.int .i64 1) fun a55 =>
 A.eql 2 true a54 a55 fun a56 =>
 g4b11110100100111110_21 L1111010 x1 x5 x6 x8 x10 x12 x13 x14 a56 st)
 (g4b11110100100111110_21 L1111010 x1 x5 x6 x8 x10 x12 x13 x14 (.bool true) st)
 (A.guardT a43 false
 (A.bin .add x12 (.int .i64 1) fun a57 =>
 A.eql 2 true (.tup []) a57 fun a58 =>
 g4b11110100100111110_21 L1111010 x1 x5 x6 x8 x10 x12 x13 x14 a58 st)
 (g4b11110100100111110_21 L1111010 x1 x5 x6 x8 x10 x12 x13 x14 (.bool true) st)
 (A.guardT a43 false
 (A.bin .add (.tup []) (.int .i64 1) fun a59 =>
 A.eql 2 true (.tup []) a59 fun a60 =>
 g4b11110100100111110_21 L1111010 x1 x5 x6 x8 x10 x12 x13 x14 a60 st)
 (g4b11110100100111110_21 L1111010 x1 x5 x6 x8 x10 x12 x13 x14 (.bool true) st)
 (A.guardT a43 false
 (A.eql 2 true (.tup []) (.tup []) fun a61 =>
 g4b11110100100111110_21 L1111010 x1 x5 x6 x8 x10 x12 x13 x14 a61 st)
 (g4b11110100100111110_21 L1111010 x1 x5 x6 x8 x10 x12 x13 x14 (.bool true) st)
 (A.pick a43 (.bool true) (.tup []) fun a62 =>
 g4b11110100100111110_21 L1111010 x1 x5 x6 x8 x10 x12 x13 x14 a62 st)))))))
 (g4b11110100100111110_21 L1111010 x1 x5 x6 x8 x10 x12 x13 x14 (.bool false) st)
 (A.guardT a2 true
 (A.pick (.tup []) (.bool true) (.tup []) fun a63 =>
 g4b11110100100111110_21 L1111010 x1 x5 x6 x8 x10 x12 x13 x14 a63 st)
 (g4b11110100100111110_21 L1111010 x1 x5 x6 x8 x10 x12 x13 x14 (.bool false) st)
 (A.guardT a2 true
 (A.pick (.tup []) (.bool true) (.tup []) fun a64 =>
 g4b11110100100111110_21 L1111010 x1 x5 x6 x8 x10 x12 x13 x14 a64 st)
 (g4b11110100100111110_21 L1111010 x1 x5 x6 x8 x10 x12 x13 x14 (.bool false) st)
 (A.pick a2 (.tup []) (.bool false) fun a65 =>
 g4b11110100100111110_21 L1111010 x1 x5 x6 x8 x10 x12 x13 x14 a65 st))))))
 (g4b11110100100111110_21 L1111010 x1 x5 x6 x8 x10 x12 x13 x14 (.bool true) st)
theorem g4n1111010010011111 : g4C [1, 1, 1, 1, 0, 1, 0, 0, 1, 0, 0, 1, 1, 1, 1, 1] = .seq (g4C [1, 1, 1, 1, 0, 1, 0, 0, 1, 0, 0, 1, 1, 1, 1, 1, 0]) (g4C [1, 1, 1, 1, 0, 1, 0, 0, 1, 0, 0, 1, 1, 1, 1, 1, 1]) := by kernel_rfl
theorem g4rg11110100100111110 : g4C [1, 1, 1, 1, 0, 1, 0, 0, 1, 0, 0, 1, 1, 1, 1, 1, 0] = .region 13 (rops (g4C [1, 1, 1, 1, 0, 1, 0, 0, 1, 0, 0, 1, 1, 1, 1, 1, 0])) false := by kernel_rfl
theorem g4rg11110100100111110l : List.range (rops (g4C [1, 1, 1, 1, 0, 1, 0, 0, 1, 0, 0, 1, 1, 1, 1, 1, 0])).size = [0, 1, 2, 3, 4, 5, 6, 7, 8, 9, 10, 11, 12, 13, 14, 15, 16, 17, 18, 19, 20] ++ [21, 22, 23, 24, 25, 26, 27, 28, 29, 30, 31, 32, 33, 34, 35, 36, 37, 38, 39] := by kernel_rfl
theorem g4e1111010010011111 (L1111010 : V → V → V → V → St → Res) : g4X (g4C [1, 1, 1, 1, 0, 1, 0, 0, 1, 0, 0, 1, 1, 1, 1, 1]) (g4k4 L1111010) = fun env st => g4b1111010010011111 L1111010 (env 1) (env 5) (env 6) (env 8) (env 10) (env 12) (env 13) (env 14) st := by
  refine Eq.trans ((g4seq g4n1111010010011111 rfl).trans (g4reg g4rg11110100100111110 g4rg11110100100111110l (g4e11110100100111110_21 L1111010))) ?_
  funext env st
  kernel_rfl
noncomputable def g4b11110100100111 (L1111010 : V → V → V → V → St → Res) (x1 : V) (x5 : V) (x6 : V) (x8 : V) (x9 : V) (x10 : V) (x12 : V) (st : St) : Res :=
 A.load true 4 x9 st fun a1 z2 =>
 A.ret (s12 [x6.er1, a1.er1] z2) fun a3 z4 =>
 A.ret (s17 [x6.er1] z4) fun a5 z6 =>
 A.ext a5 0 fun a7 =>
 A.ext a5 1 fun a8 =>
 g4b1111010010011111 L1111010 x1 x5 x6 x8 x10 x12 a3 a7 z6
theorem g4n11110100100111 : g4C [1, 1, 1, 1, 0, 1, 0, 0, 1, 0, 0, 1, 1, 1] = .seq (g4C [1, 1, 1, 1, 0, 1, 0, 0, 1, 0, 0, 1, 1, 1, 0]) (g4C [1, 1, 1, 1, 0, 1, 0, 0, 1, 0, 0, 1, 1, 1, 1]) := by kernel_rfl
theorem g4n111101001001111 : g4C [1, 1, 1, 1, 0, 1, 0, 0, 1, 0, 0, 1, 1, 1, 1] = .seq (g4C [1, 1, 1, 1, 0, 1, 0, 0, 1, 0, 0, 1, 1, 1, 1, 0]) (g4C [1, 1, 1, 1, 0, 1, 0, 0, 1, 0, 0, 1, 1, 1, 1, 1]) := by kernel_rfl
theorem g4e11110100100111 (L1111010 : V → V → V → V → St → Res) : g4X (g4C [1, 1, 1, 1, 0, 1, 0, 0, 1, 0, 0, 1, 1, 1]) (g4k4 L1111010) = fun env st => g4b11110100100111 L1111010 (env 1) (env 5) (env 6) (env 8) (env 9) (env 10) (env 12) st := by
  refine Eq.trans (g4seq g4n11110100100111 (g4seq g4n111101001001111 (g4e1111010010011111 L1111010))) ?_
  funext env st
  kernel_rfl
noncomputable def g4b111101001001 (L1111010 : V → V → V → V → St → Res) (x1 : V) (x5 : V) (x6 : V) (x8 : V) (x9 : V) (st : St) : Res :=
 A.ret (s17 [x6.er1] st) fun a1 z2 =>
 A.ext a1 0 fun a3 =>
 A.ext a1 1 fun a4 =>
 A.ret (s15 [x6.er1] z2) fun a5 z6 =>
 A.lenL a5 fun a7 =>
 g4b11110100100111 L1111010 x1 x5 x6 x8 x9 a3 a7 z6
theorem g4n111101001001 : g4C [1, 1, 1, 1, 0, 1, 0, 0, 1, 0, 0, 1] = .seq (g4C [1, 1, 1, 1, 0, 1, 0, 0, 1, 0, 0, 1, 0]) (g4C [1, 1, 1, 1, 0, 1, 0, 0, 1, 0, 0, 1, 1]) := by kernel_rfl
theorem g4n1111010010011 : g4C [1, 1, 1, 1, 0, 1, 0, 0, 1, 0, 0, 1, 1] = .seq (g4C [1, 1, 1, 1, 0, 1, 0, 0, 1, 0, 0, 1, 1, 0]) (g4C [1, 1, 1, 1, 0, 1, 0, 0, 1, 0, 0, 1, 1, 1]) := by kernel_rfl
theorem g4e111101001001 (L1111010 : V → V → V → V → St → Res) : g4X (g4C [1, 1, 1, 1, 0, 1, 0, 0, 1, 0, 0, 1]) (g4k4 L1111010) = fun env st => g4b111101001001 L1111010 (env 1) (env 5) (env 6) (env 8) (env 9) st := by
  refine Eq.trans (g4seq g4n111101001001 (g4seq g4n1111010010011 (g4e11110100100111 L1111010))) ?_
  funext env st
  kernel_rfl
noncomputable def g4b111101001 (L1111010 : V → V → V → V → St → Res) (x1 : V) (x5 : V) (x6 : V) (x8 : V) (st : St) : Res :=
 A.iaddr 1 x1 x8 fun a1 =>
 A.load false 1 a1 st fun a2 z3 =>
 A.bin .and a2 (.int .i64 255) fun a4 =>
 A.mksl 1 1 (.int .u8 0) a4 a4 fun a5 =>
 A.toStr a5 z3 fun a6 =>
 A.bslice 1 (.str []) 1 [(0, a6)] fun a7 =>
 A.build [(.int .i64 0), (.lst [] 1), (.lst [] 1), (.lst [] 1)] [(0, 1, (.int .i64 1)), (2, 1, a7)] fun a8 =>
 A.box (.agg [(.int .i64 0), (.lst [] 1), (.lst [] 1), (.lst [] 1)]) z3 fun a9 z10 =>
 A.store 4 a9 a8 z10 fun z11 =>
 g4b111101001001 L1111010 x1 x5 x6 x8 a9 z11
theorem g4n111101001 : g4C [1, 1, 1, 1, 0, 1, 0, 0, 1] = .seq (g4C [1, 1, 1, 1, 0, 1, 0, 0, 1, 0]) (g4C [1, 1, 1, 1, 0, 1, 0, 0, 1, 1]) := by kernel_rfl
theorem g4n1111010010 : g4C [1, 1, 1, 1, 0, 1, 0, 0, 1, 0] = .block 1 (g4C [1, 1, 1, 1, 0, 1, 0, 0, 1, 0, 0]) := by kernel_rfl
theorem g4n11110100100 : g4C [1, 1, 1, 1, 0, 1, 0, 0, 1, 0, 0] = .seq (g4C [1, 1, 1, 1, 0, 1, 0, 0, 1, 0, 0, 0]) (g4C [1, 1, 1, 1, 0, 1, 0, 0, 1, 0, 0, 1]) := by kernel_rfl
theorem g4e111101001 (L1111010 : V → V → V → V → St → Res) : g4X (g4C [1, 1, 1, 1, 0, 1, 0, 0, 1]) (g4k2 L1111010) = fun env st => g4b111101001 L1111010 (env 1) (env 5) (env 6) (env 8) st := by
  refine Eq.trans ((g4seq g4n111101001 rfl).trans ((g4blk g4n1111010010).trans (g4seq g4n11110100100 (g4e111101001001 L1111010)))) ?_
  funext env st
  kernel_rfl
noncomputable def g4b1111010 : Nat → V → V → V → V → St → Res
| 0, _, _, _, _, _ => none
| n + 1, x1, x5, x6, x8, st =>
 A.lenL x1 fun a1 =>
 A.bin .lss x8 a1 fun a2 =>
 A.guard a2 true
 (A.bin .lss x8 (.int .i64 60) fun a3 =>
 A.cond a3
 (g4b111101001 (g4b1111010 n) x1 x5 x6 x8 st)
 (A.ret (s11 [] st) fun a4 z5 =>
 some (.ret a4.er1, z5)))
 (A.ret (s11 [] st) fun a6 z7 =>
 some (.ret a6.er1, z7))
theorem g4n1111010 : g4C [1, 1, 1, 1, 0, 1, 0] = .loop (g4C [1, 1, 1, 1, 0, 1, 0, 0]) := by kernel_rfl
theorem g4n11110100 : g4C [1, 1, 1, 1, 0, 1, 0, 0] = .seq (g4C [1, 1, 1, 1, 0, 1, 0, 0, 0]) (g4C [1, 1, 1, 1, 0, 1, 0, 0, 1]) := by kernel_rfl
theorem g4e1111010 : g4X (g4C [1, 1, 1, 1, 0, 1, 0]) (g4k1) = fun env st => g4b1111010 big (env 1) (env 5) (env 6) (env 8) st := by
  have key : ∀ n, aloop (g4X (g4C [1, 1, 1, 1, 0, 1, 0, 0])) (g4k1) n = fun env st => g4b1111010 n (env 1) (env 5) (env 6) (env 8) st := by
    intro n
    induction n with
    | zero => rfl
    | succ n ih =>
      have h : aloop (g4X (g4C [1, 1, 1, 1, 0, 1, 0, 0])) (g4k1) (n + 1) = g4X (g4C [1, 1, 1, 1, 0, 1, 0, 0]) (kSeq (aloop (g4X (g4C [1, 1, 1, 1, 0, 1, 0, 0])) (g4k1) n) (g4k1)) := rfl
      rw [h, ih]
      refine Eq.trans (g4seq g4n11110100 (g4e111101001 (g4b1111010 n))) ?_
      funext env st
      kernel_rfl
  exact (g4loop g4n1111010).trans (key big)
noncomputable def g4b1111 (x1 : V) (x5 : V) (x6 : V) (st : St) : Res :=
 g4b1111010 big x1 x5 x6 (.int .i64 0) st
theorem g4n1111 : g4C [1, 1, 1, 1] = .seq (g4C [1, 1, 1, 1, 0]) (g4C [1, 1, 1, 1, 1]) := by kernel_rfl
theorem g4n11110 : g4C [1, 1, 1, 1, 0] = .seq (g4C [1, 1, 1, 1, 0, 0]) (g4C [1, 1, 1, 1, 0, 1]) := by kernel_rfl
theorem g4n111101 : g4C [1, 1, 1, 1, 0, 1] = .block 0 (g4C [1, 1, 1, 1, 0, 1, 0]) := by kernel_rfl
theorem g4e1111 : g4X (g4C [1, 1, 1, 1]) (g4kr) = fun env st => g4b1111 (env 1) (env 5) (env 6) st := by
  refine Eq.trans ((g4seq g4n1111 rfl).trans (g4seq g4n11110 ((g4blk g4n111101).trans (g4e1111010)))) ?_
  funext env st
  kernel_rfl
noncomputable def g4b111 (x1 : V) (x5 : V) (x6 : V) (x7 : V) (st : St) : Res :=
 A.eql 2 true x7 (.int .i64 0) fun a1 =>
 A.guard a1 false
 (A.eql 4 false x6 .ptr0 fun a2 =>
 A.cond a2
 (some (.ret ((.bool false) : V).er1, st))
 (g4b1111 x1 x5 x6 st))
 (some (.ret ((.bool false) : V).er1, st))
theorem g4n111 : g4C [1, 1, 1] = .seq (g4C [1, 1, 1, 0]) (g4C [1, 1, 1, 1]) := by kernel_rfl
theorem g4e111 : g4X (g4C [1, 1, 1]) (g4kr) = fun env st => g4b111 (env 1) (env 5) (env 6) (env 7) st := by
  refine Eq.trans (g4seq g4n111 (g4e1111)) ?_
  funext env st
  kernel_rfl
noncomputable def f4 (x0 : V) (x1 : V) (st : St) : Res :=
 A.bin .and x0 (.int .i64 1023) fun a1 =>
 A.bin .add (.int .i64 1) a1 fun a2 =>
 A.ret (s9 [a2.er1] st) fun a3 z4 =>
 A.ext a3 0 fun a5 =>
 A.ext a3 1 fun a6 =>
 g4b111 x1 a2 a5 a6 z4
theorem g4nr : g4C [] = .seq (g4C [0]) (g4C [1]) := by kernel_rfl
theorem g4n1 : g4C [1] = .seq (g4C [1, 0]) (g4C [1, 1]) := by kernel_rfl
theorem g4n11 : g4C [1, 1] = .seq (g4C [1, 1, 0]) (g4C [1, 1, 1]) := by kernel_rfl
theorem g4er (env : Env) (st : St) : g4X (g4C []) g4kr env st = f4 (env 0) (env 1) st := by
  rw [(g4seq g4nr (g4seq g4n1 (g4seq g4n11 (g4e111))))]
  kernel_rfl
theorem s4_eq (x0 : V) (x1 : V) (st : St) : s4 [x0, x1] st = f4 x0 x1 st := by
  have h : afn Try.prog g4mu g4T big (areg Try.prog g4mu g4T) 4 [x0, x1] st = g4X (g4C []) g4kr (fun t => [x0, x1].getD t (.tup [])) st := by kernel_rfl
  rw [s4, sealF_eq]
  exact h.trans (g4er _ st)
/-! sinew/sinewlaw04.JournalTwice -/
def g5mu : Nat → Bool := fun _ => false
noncomputable def g5T : Tbl := tget [(9, s9), (10, s10), (11, s11), (12, s12), (14, s14), (15, s15), (16, s16), (17, s17)]
theorem g5t : SimT Try.prog g5T := simT_cons sim9 ( simT_cons sim10 ( simT_cons sim11 ( simT_cons sim12 ( simT_cons sim14 ( simT_cons sim15 ( simT_cons sim16 ( simT_cons sim17 (simT_nil))))))))
noncomputable def s5 : Fn := sealF (afn Try.prog g5mu g5T big (areg Try.prog g5mu g5T) 5)
theorem sim5 : Sim Try.prog 5 s5 := (afn_sim g5t (fun m => areg_sound g5t hmix m) 5 (by kernel_rfl)).sealed
noncomputable def g5C (p : List Nat) : Code := sub (match Try.f5.body with | some c => c | none => .skip) p
noncomputable def g5X (c : Code) (K : Kon) : Env → St → Res := aexec Try.prog g5mu g5T big 86 (areg Try.prog g5mu g5T 86) c K
noncomputable def g5kr : Kon := aresK Try.prog Try.f5.results.toList
theorem g5reg {c : Code} {K : Kon} {G : Env → St → Res} {id : Nat} {ops : Array Oper} {l1 l2 : List Nat} (hc : c = .region id ops false) (hl : List.range ops.size = l1 ++ l2) (h : (fun env st => aops Try.prog g5mu g5T 86 ops l2 env st (K .normal)) = G) : g5X c K = fun env st => aops Try.prog g5mu g5T 86 ops l1 env st G := reg_cut hc hl h
theorem g5seq {c x y : Code} {K : Kon} {G : Env → St → Res} (hc : c = .seq x y) (hy : g5X y K = G) : g5X c K = g5X x (kSeq G K) := seq_cut hc hy
theorem g5blk {c x : Code} {K : Kon} {i : Nat} (hc : c = .block i x) : g5X c K = g5X x (kBlk i K) := blk_cut hc
theorem g5loop {c x : Code} {K : Kon} (hc : c = .loop x) : g5X c K = aloop (g5X x) K big := loop_cut hc
theorem g5cond {c x y : Code} {K : Kon} {v : Operand} {F G : Env → St → Res} (hc : c = .cond v x y) (hx : g5X x K = F) (hy : g5X y K = G) : g5X c K = condF v F G := cond_cut hc hx hy
noncomputable def g5b111111111 (x11 : V) (x13 : V) (st : St) : Res :=
 A.eql 2 false x13 x11 fun a1 =>
 A.guard a1 true
 (A.ret (s11 [] st) fun a2 z3 =>
 some (.ret a2.er1, z3))
 (some (.ret ((.bool false) : V).er1, st))
theorem g5e111111111 : g5X (g5C [1, 1, 1, 1, 1, 1, 1, 1, 1]) (g5kr) = fun env st => g5b111111111 (env 11) (env 13) st := by
  refine Eq.trans (Eq.refl (g5X (g5C [1, 1, 1, 1, 1, 1, 1, 1, 1]) (g5kr))) ?_
  funext env st
  kernel_rfl
noncomputable def g5b11111111 (x7 : V) (x11 : V) (st : St) : Res :=
 A.ret (s17 [x7.er1] st) fun a1 z2 =>
 A.ext a1 0 fun a3 =>
 A.ext a1 1 fun a4 =>
 g5b111111111 x11 a3 z2
theorem g5n11111111 : g5C [1, 1, 1, 1, 1, 1, 1, 1] = .seq (g5C [1, 1, 1, 1, 1, 1, 1, 1, 0]) (g5C [1, 1, 1, 1, 1, 1, 1, 1, 1]) := by kernel_rfl
theorem g5e11111111 : g5X (g5C [1, 1, 1, 1, 1, 1, 1, 1]) (g5kr) = fun env st => g5b11111111 (env 7) (env 11) st := by
  refine Eq.trans (g5seq g5n11111111 (g5e111111111)) ?_
  funext env st
  kernel_rfl
noncomputable def g5k0 : Kon := kSeq (fun env st => g5b11111111 (env 7) (env 11) st) (g5kr)
noncomputable def g5k1 : Kon := kSeq (g5X (g5C [1, 1, 1, 1, 1, 1, 1, 0, 1]) (g5k0)) (g5k0)
noncomputable def g5b111111100_10 (x7 : V) (x10 : V) (x11 : V) (x68 : V) (st : St) : Res :=
 A.guard x68 false
 (A.ret (s15 [x7.er1] st) fun a1 z2 =>
 A.ret (s16 [a1.er1, x10.er1] z2) fun a3 z4 =>
 A.un .not a3 fun a5 =>
 A.cond a5
 (some (.ret ((.bool false) : V).er1, z4))
 (g5b11111111 x7 x11 z4))
 (some (.ret ((.bool false) : V).er1, st))
theorem g5e111111100_10 : (fun env st => aops Try.prog g5mu g5T 86 (rops (g5C [1, 1, 1, 1, 1, 1, 1, 0, 0])) [10, 11, 12, 13, 14, 15] env st ((g5k1) .normal)) = fun env st => g5b111111100_10 (env 7) (env 10) (env 11) (env 68) st := by
  refine Eq.trans (Eq.refl _) ?_
  funext env st
  kernel_rfl
noncomputable def g5b1111111 (x2 : V) (x7 : V) (x10 : V) (x11 : V) (x12 : V) (st : St) : Res :=
 A.eql 2 true x11 x12 fun a1 =>
 A.guard a1 false
 (A.ret (s14 [x7.er1, x2.er1] st) fun a2 z3 =>
 A.eql 2 true a2 (.int .i64 0) fun a4 =>
 g5b111111100_10 x7 x10 x11 a4 z3)
 (g5b111111100_10 x7 x10 x11 (.bool true) st)
theorem g5n1111111 : g5C [1, 1, 1, 1, 1, 1, 1] = .seq (g5C [1, 1, 1, 1, 1, 1, 1, 0]) (g5C [1, 1, 1, 1, 1, 1, 1, 1]) := by kernel_rfl
theorem g5n11111110 : g5C [1, 1, 1, 1, 1, 1, 1, 0] = .seq (g5C [1, 1, 1, 1, 1, 1, 1, 0, 0]) (g5C [1, 1, 1, 1, 1, 1, 1, 0, 1]) := by kernel_rfl
theorem g5rg111111100 : g5C [1, 1, 1, 1, 1, 1, 1, 0, 0] = .region 14 (rops (g5C [1, 1, 1, 1, 1, 1, 1, 0, 0])) false := by kernel_rfl
theorem g5rg111111100l : List.range (rops (g5C [1, 1, 1, 1, 1, 1, 1, 0, 0])).size = [0, 1, 2, 3, 4, 5, 6, 7, 8, 9] ++ [10, 11, 12, 13, 14, 15] := by kernel_rfl
theorem g5e1111111 : g5X (g5C [1, 1, 1, 1, 1, 1, 1]) (g5kr) = fun env st => g5b1111111 (env 2) (env 7) (env 10) (env 11) (env 12) st := by
  refine Eq.trans ((g5seq g5n1111111 (g5e11111111)).trans ((g5seq g5n11111110 rfl).trans (g5reg g5rg111111100 g5rg111111100l (g5e111111100_10)))) ?_
  funext env st
  kernel_rfl
noncomputable def g5b1111 (x1 : V) (x2 : V) (x7 : V) (st : St) : Res :=
 A.ret (s14 [x7.er1, x1.er1] st) fun a1 z2 =>
 A.eql 2 true a1 (.int .i64 0) fun a3 =>
 A.cond a3
 (some (.ret ((.bool false) : V).er1, z2))
 (A.ret (s15 [x7.er1] z2) fun a4 z5 =>
 A.ret (s17 [x7.er1] z5) fun a6 z7 =>
 A.ext a6 0 fun a8 =>
 A.ext a6 1 fun a9 =>
 g5b1111111 x2 x7 a4 a8 a9 z7)
theorem g5n1111 : g5C [1, 1, 1, 1] = .seq (g5C [1, 1, 1, 1, 0]) (g5C [1, 1, 1, 1, 1]) := by kernel_rfl
theorem g5n11111 : g5C [1, 1, 1, 1, 1] = .seq (g5C [1, 1, 1, 1, 1, 0]) (g5C [1, 1, 1, 1, 1, 1]) := by kernel_rfl
theorem g5n111111 : g5C [1, 1, 1, 1, 1, 1] = .seq (g5C [1, 1, 1, 1, 1, 1, 0]) (g5C [1, 1, 1, 1, 1, 1, 1]) := by kernel_rfl
theorem g5e1111 : g5X (g5C [1, 1, 1, 1]) (g5kr) = fun env st => g5b1111 (env 1) (env 2) (env 7) st := by
  refine Eq.trans (g5seq g5n1111 (g5seq g5n11111 (g5seq g5n111111 (g5e1111111)))) ?_
  funext env st
  kernel_rfl
noncomputable def g5k2 : Kon := kSeq (fun env st => g5b1111 (env 1) (env 2) (env 7) st) (g5kr)
noncomputable def g5k3 : Kon := kBlk 0 (g5k2)
noncomputable def g5k4 (L111010 : V → V → V → V → V → St → Res) : Kon := kSeq (fun env st => L111010 (env 0) (env 1) (env 2) (env 7) (env 9) st) (g5k3)
noncomputable def g5b11101001 (L111010 : V → V → V → V → V → St → Res) (x0 : V) (x1 : V) (x2 : V) (x7 : V) (x9 : V) (st : St) : Res :=
 A.iaddr 4 x0 x9 fun a1 =>
 A.load true 4 a1 st fun a2 z3 =>
 A.ret (s10 [a2.er1] z3) fun a4 z5 =>
 A.un .not a4 fun a6 =>
 A.cond a6
 (A.ret (s11 [] z5) fun a7 z8 =>
 some (.ret a7.er1, z8))
 (A.iaddr 4 x0 x9 fun a9 =>
 A.load true 4 a9 z5 fun a10 z11 =>
 A.ret (s12 [x7.er1, a10.er1] z11) fun a12 z13 =>
 A.bin .add x9 (.int .i64 1) fun a14 =>
 L111010 x0 x1 x2 x7 a14 z13)
theorem g5e11101001 (L111010 : V → V → V → V → V → St → Res) : g5X (g5C [1, 1, 1, 0, 1, 0, 0, 1]) (g5k4 L111010) = fun env st => g5b11101001 L111010 (env 0) (env 1) (env 2) (env 7) (env 9) st := by
  refine Eq.trans (Eq.refl (g5X (g5C [1, 1, 1, 0, 1, 0, 0, 1]) (g5k4 L111010))) ?_
  funext env st
  kernel_rfl
noncomputable def g5b111010 : Nat → V → V → V → V → V → St → Res
| 0, _, _, _, _, _, _ => none
| n + 1, x0, x1, x2, x7, x9, st =>
 A.lenL x0 fun a1 =>
 A.bin .lss x9 a1 fun a2 =>
 A.guard a2 true
 (A.bin .lss x9 (.int .i64 20) fun a3 =>
 A.cond a3
 (g5b11101001 (g5b111010 n) x0 x1 x2 x7 x9 st)
 (g5b1111 x1 x2 x7 st))
 (g5b1111 x1 x2 x7 st)
theorem g5n111010 : g5C [1, 1, 1, 0, 1, 0] = .loop (g5C [1, 1, 1, 0, 1, 0, 0]) := by kernel_rfl
theorem g5n1110100 : g5C [1, 1, 1, 0, 1, 0, 0] = .seq (g5C [1, 1, 1, 0, 1, 0, 0, 0]) (g5C [1, 1, 1, 0, 1, 0, 0, 1]) := by kernel_rfl
theorem g5e111010 : g5X (g5C [1, 1, 1, 0, 1, 0]) (g5k3) = fun env st => g5b111010 big (env 0) (env 1) (env 2) (env 7) (env 9) st := by
  have key : ∀ n, aloop (g5X (g5C [1, 1, 1, 0, 1, 0, 0])) (g5k3) n = fun env st => g5b111010 n (env 0) (env 1) (env 2) (env 7) (env 9) st := by
    intro n
    induction n with
    | zero => rfl
    | succ n ih =>
      have h : aloop (g5X (g5C [1, 1, 1, 0, 1, 0, 0])) (g5k3) (n + 1) = g5X (g5C [1, 1, 1, 0, 1, 0, 0]) (kSeq (aloop (g5X (g5C [1, 1, 1, 0, 1, 0, 0])) (g5k3) n) (g5k3)) := rfl
      rw [h, ih]
      refine Eq.trans (g5seq g5n1110100 (g5e11101001 (g5b111010 n))) ?_
      funext env st
      kernel_rfl
  exact (g5loop g5n111010).trans (key big)
noncomputable def g5b111 (x0 : V) (x1 : V) (x2 : V) (x7 : V) (st : St) : Res :=
 g5b111010 big x0 x1 x2 x7 (.int .i64 0) st
theorem g5n111 : g5C [1, 1, 1] = .seq (g5C [1, 1, 1, 0]) (g5C [1, 1, 1, 1]) := by kernel_rfl
theorem g5n1110 : g5C [1, 1, 1, 0] = .seq (g5C [1, 1, 1, 0, 0]) (g5C [1, 1, 1, 0, 1]) := by kernel_rfl
theorem g5n11101 : g5C [1, 1, 1, 0, 1] = .block 0 (g5C [1, 1, 1, 0, 1, 0]) := by kernel_rfl
theorem g5e111 : g5X (g5C [1, 1, 1]) (g5kr) = fun env st => g5b111 (env 0) (env 1) (env 2) (env 7) st := by
  refine Eq.trans ((g5seq g5n111 (g5e1111)).trans (g5seq g5n1110 ((g5blk g5n11101).trans (g5e111010)))) ?_
  funext env st
  kernel_rfl
noncomputable def f5 (x0 : V) (x1 : V) (x2 : V) (st : St) : Res :=
 A.ret (s9 [((.int .i64 1048576) : V).er1] st) fun a1 z2 =>
 A.ext a1 0 fun a3 =>
 A.ext a1 1 fun a4 =>
 A.eql 2 true a4 (.int .i64 0) fun a5 =>
 A.guard a5 false
 (A.eql 4 false a3 .ptr0 fun a6 =>
 A.cond a6
 (some (.ret ((.bool false) : V).er1, z2))
 (g5b111 x0 x1 x2 a3 z2))
 (some (.ret ((.bool false) : V).er1, z2))
theorem g5nr : g5C [] = .seq (g5C [0]) (g5C [1]) := by kernel_rfl
theorem g5n1 : g5C [1] = .seq (g5C [1, 0]) (g5C [1, 1]) := by kernel_rfl
theorem g5n11 : g5C [1, 1] = .seq (g5C [1, 1, 0]) (g5C [1, 1, 1]) := by kernel_rfl
theorem g5er (env : Env) (st : St) : g5X (g5C []) g5kr env st = f5 (env 0) (env 1) (env 2) st := by
  rw [(g5seq g5nr (g5seq g5n1 (g5seq g5n11 (g5e111))))]
  kernel_rfl
theorem s5_eq (x0 : V) (x1 : V) (x2 : V) (st : St) : s5 [x0, x1, x2] st = f5 x0 x1 x2 st := by
  have h : afn Try.prog g5mu g5T big (areg Try.prog g5mu g5T) 5 [x0, x1, x2] st = g5X (g5C []) g5kr (fun t => [x0, x1, x2].getD t (.tup [])) st := by kernel_rfl
  rw [s5, sealF_eq]
  exact h.trans (g5er _ st)
/-! sinew/sinewref04.New -/
def g18mu : Nat → Bool := fun _ => false
noncomputable def g18T : Tbl := tget []
theorem g18t : SimT Try.prog g18T := simT_nil
noncomputable def s18 : Fn := sealF (fun args st => fg (afn Try.prog g18mu g18T big (areg Try.prog g18mu g18T) 18 args st) st)
theorem sim18 : Sim Try.prog 18 s18 := (afn_sim g18t (fun m => areg_sound g18t hmix m) 18 (by kernel_rfl)).fg.sealed
noncomputable def f18 (x0 : V) (st : St) : Res :=
 A.box (.agg [(.int .i64 0), (.int .i64 0), (.lst [] 1), (.lst [] 1)]) st fun a1 z2 =>
 A.bin .lss x0 (.int .i64 1) fun a3 =>
 A.guard a3 false
 (A.bin .gtr x0 (.int .i64 67108864) fun a4 =>
 A.cond a4
 (A.build [(.int .i64 0), (.int .i64 0), (.lst [] 1), (.lst [] 1)] [] fun a5 =>
 A.store 4 a1 a5 z2 fun z6 =>
 A.res (rcell (A.load true 4 a1 z6 kid) (rtmp (.int .i64 1) (some []))) z6)
 (A.build [(.int .i64 0), (.int .i64 0), (.lst [] 1), (.lst [] 1)] [(0, 1, x0)] fun a7 =>
 A.store 4 a1 a7 z2 fun z8 =>
 A.res (rcell (A.load true 4 a1 z8 kid) (rtmp (.int .i64 0) (some []))) z8))
 (A.build [(.int .i64 0), (.int .i64 0), (.lst [] 1), (.lst [] 1)] [] fun a9 =>
 A.store 4 a1 a9 z2 fun z10 =>
 A.res (rcell (A.load true 4 a1 z10 kid) (rtmp (.int .i64 1) (some []))) z10)
theorem s18_eq (x0 : V) (st : St) : s18 [x0] st = fg (f18 x0 st) st := by
  rw [s18, sealF_eq]
  show fg _ st = fg _ st
  refine congrArg (fun r => fg r st) ?_
  kernel_rfl
/-! sinew/sinewref04.Bytes -/
def g20mu : Nat → Bool := fun _ => false
noncomputable def g20T : Tbl := tget []
theorem g20t : SimT Try.prog g20T := simT_nil
noncomputable def s20 : Fn := sealF (fun args st => fg (afn Try.prog g20mu g20T big (areg Try.prog g20mu g20T) 20 args st) st)
theorem sim20 : Sim Try.prog 20 s20 := (afn_sim g20t (fun m => areg_sound g20t hmix m) 20 (by kernel_rfl)).fg.sealed
noncomputable def f20 (x0 : V) (st : St) : Res :=
 A.box x0 st fun a1 z2 =>
 A.faddr 3 a1 fun a3 =>
 A.load false 1 a3 z2 fun a4 z5 =>
 A.lenL a4 fun a6 =>
 A.bin .gtr a6 (.int .i64 0) fun a7 =>
 A.cond a7
 (A.faddr 3 a1 fun a8 =>
 A.load false 1 a8 z5 fun a9 z10 =>
 A.bin .sub a6 (.int .i64 1) fun a11 =>
 A.iaddr 1 a9 a11 fun a12 =>
 A.load false 1 a12 z10 fun a13 z14 =>
 some (.ret a13.er1, z14))
 (some (.ret ((.int .i64 0) : V).er1, z5))
theorem s20_eq (x0 : V) (st : St) : s20 [x0] st = fg (f20 x0 st) st := by
  rw [s20, sealF_eq]
  show fg _ st = fg _ st
  refine congrArg (fun r => fg r st) ?_
  kernel_rfl
/-! sinew/wire.Check -/
def g31mu : Nat → Bool := fun _ => false
noncomputable def g31T : Tbl := tget [(33, s33)]
theorem g31t : SimT Try.prog g31T := simT_cons sim33 (simT_nil)
noncomputable def s31 : Fn := sealF (fun args st => fg (afn Try.prog g31mu g31T big (areg Try.prog g31mu g31T) 31 args st) st)
theorem sim31 : Sim Try.prog 31 s31 := (afn_sim g31t (fun m => areg_sound g31t hmix m) 31 (by kernel_rfl)).fg.sealed
noncomputable def f31 (x0 : V) (st : St) : Res :=
 A.box x0 st fun a1 z2 =>
 A.load true 4 a1 z2 fun a3 z4 =>
 A.ret (s33 [a3.er1] z4) fun a5 z6 =>
 A.ext a5 0 fun a7 =>
 A.ext a5 1 fun a8 =>
 some (.ret a8.er1, z6)
theorem s31_eq (x0 : V) (st : St) : s31 [x0] st = fg (f31 x0 st) st := by
  rw [s31, sealF_eq]
  show fg _ st = fg _ st
  refine congrArg (fun r => fg r st) ?_
  kernel_rfl
/-! (*sinew/journal.Journal).Begin$1 -/
def g30mu : Nat → Bool := fun _ => false
noncomputable def g30T : Tbl := tget [(31, s31)]
theorem g30t : SimT Try.prog g30T := simT_cons sim31 (simT_nil)
noncomputable def s30 : Fn := sealF (fun args st => fg (afn Try.prog g30mu g30T big (areg Try.prog g30mu g30T) 30 args st) st)
theorem sim30 : Sim Try.prog 30 s30 := (afn_sim g30t (fun m => areg_sound g30t hmix m) 30 (by kernel_rfl)).fg.sealed
noncomputable def f30 (x0 : V) (st : St) : Res :=
 A.box x0 st fun a1 z2 =>
 A.load true 4 a1 z2 fun a3 z4 =>
 A.ret (s31 [a3.er1] z4) fun a5 z6 =>
 A.eql 2 true a5 (.int .i64 0) fun a7 =>
 some (.ret a7.er1, z6)
theorem s30_eq (x0 : V) (st : St) : s30 [x0] st = fg (f30 x0 st) st := by
  rw [s30, sealF_eq]
  show fg _ st = fg _ st
  refine congrArg (fun r => fg r st) ?_
  kernel_rfl
/-! slices.IndexFunc[[]sinew/api.Note,sinew/api.Note] -/
def g41mu : Nat → Bool := fun _ => false
noncomputable def g41T : Tbl := tget [(30, s30)]
theorem g41t : SimT Try.prog g41T := simT_cons sim30 (simT_nil)
noncomputable def s41 : Fn := sealF (fun args st => fg (afn Try.prog g41mu g41T big (areg Try.prog g41mu g41T) 41 args st) st)
theorem sim41 : Sim Try.prog 41 s41 := (afn_sim g41t (fun m => areg_sound g41t hmix m) 41 (by kernel_rfl)).fg.sealed
noncomputable def g41C (p : List Nat) : Code := sub (match Try.f41.body with | some c => c | none => .skip) p
noncomputable def g41X (c : Code) (K : Kon) : Env → St → Res := aexec Try.prog g41mu g41T big 19 (areg Try.prog g41mu g41T 19) c K
noncomputable def g41kr : Kon := aresK Try.prog Try.f41.results.toList
theorem g41reg {c : Code} {K : Kon} {G : Env → St → Res} {id : Nat} {ops : Array Oper} {l1 l2 : List Nat} (hc : c = .region id ops false) (hl : List.range ops.size = l1 ++ l2) (h : (fun env st => aops Try.prog g41mu g41T 19 ops l2 env st (K .normal)) = G) : g41X c K = fun env st => aops Try.prog g41mu g41T 19 ops l1 env st G := reg_cut hc hl h
theorem g41seq {c x y : Code} {K : Kon} {G : Env → St → Res} (hc : c = .seq x y) (hy : g41X y K = G) : g41X c K = g41X x (kSeq G K) := seq_cut hc hy
theorem g41blk {c x : Code} {K : Kon} {i : Nat} (hc : c = .block i x) : g41X c K = g41X x (kBlk i K) := blk_cut hc
theorem g41loop {c x : Code} {K : Kon} (hc : c = .loop x) : g41X c K = aloop (g41X x) K big := loop_cut hc
theorem g41cond {c x y : Code} {K : Kon} {v : Operand} {F G : Env → St → Res} (hc : c = .cond v x y) (hx : g41X x K = F) (hy : g41X y K = G) : g41X c K = condF v F G := cond_cut hc hx hy
noncomputable def g41k0 : Kon := kSeq (g41X (g41C [1, 1]) (g41kr)) (g41kr)
noncomputable def g41k1 : Kon := kBlk 0 (g41k0)
noncomputable def g41b1010 : Nat → V → V → V → V → St → Res
| 0, _, _, _, _, _ => none
| n + 1, x0, x1, x7, x8, st =>
 A.bin .lss x8 x7 fun a1 =>
 A.cond a1
 (A.iaddr 4 x0 x8 fun a2 =>
 A.load true 4 a2 st fun a3 z4 =>
 A.call g41T x1 [a3] z4 fun a5 z6 =>
 A.cond a5
 (some (.ret x8.er1, z6))
 (A.bin .add x8 (.int .i64 1) fun a7 =>
 (g41b1010 n) x0 x1 x7 a7 z6))
 (some (.ret ((.int .i64 (-1)) : V).er1, st))
theorem g41n1010 : g41C [1, 0, 1, 0] = .loop (g41C [1, 0, 1, 0, 0]) := by kernel_rfl
noncomputable def g41k2 (L1010 : V → V → V → V → St → Res) : Kon := kSeq (fun env st => L1010 (env 0) (env 1) (env 7) (env 8) st) (g41k1)
theorem g41e1010 : g41X (g41C [1, 0, 1, 0]) (g41k1) = fun env st => g41b1010 big (env 0) (env 1) (env 7) (env 8) st := by
  have key : ∀ n, aloop (g41X (g41C [1, 0, 1, 0, 0])) (g41k1) n = fun env st => g41b1010 n (env 0) (env 1) (env 7) (env 8) st := by
    intro n
    induction n with
    | zero => rfl
    | succ n ih =>
      have h : aloop (g41X (g41C [1, 0, 1, 0, 0])) (g41k1) (n + 1) = g41X (g41C [1, 0, 1, 0, 0]) (kSeq (aloop (g41X (g41C [1, 0, 1, 0, 0])) (g41k1) n) (g41k1)) := rfl
      rw [h, ih]
      refine Eq.trans (Eq.refl _) ?_
      funext env st
      kernel_rfl
  exact (g41loop g41n1010).trans (key big)
noncomputable def f41 (x0 : V) (x1 : V) (st : St) : Res :=
 A.lenL x0 fun a1 =>
 g41b1010 big x0 x1 a1 (.int .i64 0) st
theorem g41nr : g41C [] = .seq (g41C [0]) (g41C [1]) := by kernel_rfl
theorem g41n1 : g41C [1] = .seq (g41C [1, 0]) (g41C [1, 1]) := by kernel_rfl
theorem g41n10 : g41C [1, 0] = .seq (g41C [1, 0, 0]) (g41C [1, 0, 1]) := by kernel_rfl
theorem g41n101 : g41C [1, 0, 1] = .block 0 (g41C [1, 0, 1, 0]) := by kernel_rfl
theorem g41er (env : Env) (st : St) : g41X (g41C []) g41kr env st = f41 (env 0) (env 1) st := by
  rw [(g41seq g41nr ((g41seq g41n1 rfl).trans (g41seq g41n10 ((g41blk g41n101).trans (g41e1010)))))]
  kernel_rfl
theorem s41_eq (x0 : V) (x1 : V) (st : St) : s41 [x0, x1] st = fg (f41 x0 x1 st) st := by
  have h : afn Try.prog g41mu g41T big (areg Try.prog g41mu g41T) 41 [x0, x1] st = g41X (g41C []) g41kr (fun t => [x0, x1].getD t (.tup [])) st := by kernel_rfl
  rw [s41, sealF_eq]
  show fg _ st = fg _ st
  refine congrArg (fun r => fg r st) ?_
  exact h.trans (g41er _ st)
end Go.Ab
