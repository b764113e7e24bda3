import Derived.Test.YtjdgaphjjhhjeaaAbQuiet
import Derived.Test.YtjdgaphjjhhjeaaAbP042
namespace Go.Ab
open Go.Proofs
set_option linter.unusedVariables false
set_option maxRecDepth 100000
/-! sinew/sinewref01.Same -/
def g37mu : Nat → Bool := fun _ => false
noncomputable def g37T : Tbl := tget []
theorem g37t : SimT Try.prog g37T := simT_nil
noncomputable def s37 : Fn := sealF (afn Try.prog g37mu g37T big (areg Try.prog g37mu g37T) 37)
theorem sim37 : Sim Try.prog 37 s37 := (afn_sim g37t (fun m => areg_sound g37t hmix m) 37 (by kernel_rfl)).sealed
noncomputable def g37C (p : List Nat) : Code := sub (match Try.f37.body with | some c => c | none => .skip) p
noncomputable def g37X (c : Code) (K : Kon) : Env → St → Res := aexec Try.prog g37mu g37T big 26 (areg Try.prog g37mu g37T 26) c K
noncomputable def g37kr : Kon := aresK Try.prog Try.f37.results.toList
theorem g37reg {c : Code} {K : Kon} {G : Env → St → Res} {id : Nat} {ops : Array Oper} {l1 l2 : List Nat} (hc : c = .region id ops false) (hl : List.range ops.size = l1 ++ l2) (h : (fun env st => aops Try.prog g37mu g37T 26 ops l2 env st (K .normal)) = G) : g37X c K = fun env st => aops Try.prog g37mu g37T 26 ops l1 env st G := reg_cut hc hl h
theorem g37seq {c x y : Code} {K : Kon} {G : Env → St → Res} (hc : c = .seq x y) (hy : g37X y K = G) : g37X c K = g37X x (kSeq G K) := seq_cut hc hy
theorem g37blk {c x : Code} {K : Kon} {i : Nat} (hc : c = .block i x) : g37X c K = g37X x (kBlk i K) := blk_cut hc
theorem g37loop {c x : Code} {K : Kon} (hc : c = .loop x) : g37X c K = aloop (g37X x) K big := loop_cut hc
theorem g37cond {c x y : Code} {K : Kon} {v : Operand} {F G : Env → St → Res} (hc : c = .cond v x y) (hx : g37X x K = F) (hy : g37X y K = G) : g37X c K = condF v F G := cond_cut hc hx hy
noncomputable def g37k0 : Kon := kSeq (g37X (g37C [1, 1, 1]) (g37kr)) (g37kr)
noncomputable def g37k1 : Kon := kBlk 0 (g37k0)
noncomputable def g37b11010 : Nat → V → V → V → St → Res
| 0, _, _, _, _ => none
| n + 1, x0, x1, x5, st =>
 A.lenL x0 fun a1 =>
 A.bin .lss x5 a1 fun a2 =>
 A.cond a2
 (A.iaddr 1 x0 x5 fun a3 =>
 A.load false 1 a3 st fun a4 _ =>
 A.iaddr 1 x1 x5 fun a5 =>
 A.load false 1 a5 st fun a6 _ =>
 A.eql 3 true a4 a6 fun a7 =>
 A.cond a7
 (some (.ret ((.bool false) : V).er1, st))
 (A.bin .add x5 (.int .i64 1) fun a8 =>
 (g37b11010 n) x0 x1 a8 st))
 (some (.ret ((.bool true) : V).er1, st))
theorem g37n11010 : g37C [1, 1, 0, 1, 0] = .loop (g37C [1, 1, 0, 1, 0, 0]) := by kernel_rfl
noncomputable def g37k2 (L11010 : V → V → V → St → Res) : Kon := kSeq (fun env st => L11010 (env 0) (env 1) (env 5) st) (g37k1)
theorem g37e11010 : g37X (g37C [1, 1, 0, 1, 0]) (g37k1) = fun env st => g37b11010 big (env 0) (env 1) (env 5) st := by
  have key : ∀ n, aloop (g37X (g37C [1, 1, 0, 1, 0, 0])) (g37k1) n = fun env st => g37b11010 n (env 0) (env 1) (env 5) st := by
    intro n
    induction n with
    | zero => rfl
    | succ n ih =>
      have h : aloop (g37X (g37C [1, 1, 0, 1, 0, 0])) (g37k1) (n + 1) = g37X (g37C [1, 1, 0, 1, 0, 0]) (kSeq (aloop (g37X (g37C [1, 1, 0, 1, 0, 0])) (g37k1) n) (g37k1)) := rfl
      rw [h, ih]
      refine Eq.trans (Eq.refl _) ?_
      funext env st
      kernel_rfl
  exact (g37loop g37n11010).trans (key big)
noncomputable def f37 (x0 : V) (x1 : V) (st : St) : Res :=
 A.lenL x0 fun a1 =>
 A.lenL x1 fun a2 =>
 A.eql 2 true a1 a2 fun a3 =>
 A.cond a3
 (some (.ret ((.bool false) : V).er1, st))
 (g37b11010 big x0 x1 (.int .i64 0) st)
theorem g37nr : g37C [] = .seq (g37C [0]) (g37C [1]) := by kernel_rfl
theorem g37n1 : g37C [1] = .seq (g37C [1, 0]) (g37C [1, 1]) := by kernel_rfl
theorem g37n11 : g37C [1, 1] = .seq (g37C [1, 1, 0]) (g37C [1, 1, 1]) := by kernel_rfl
theorem g37n110 : g37C [1, 1, 0] = .seq (g37C [1, 1, 0, 0]) (g37C [1, 1, 0, 1]) := by kernel_rfl
theorem g37n1101 : g37C [1, 1, 0, 1] = .block 0 (g37C [1, 1, 0, 1, 0]) := by kernel_rfl
theorem g37er (env : Env) (st : St) : g37X (g37C []) g37kr env st = f37 (env 0) (env 1) st := by
  rw [(g37seq g37nr (g37seq g37n1 ((g37seq g37n11 rfl).trans (g37seq g37n110 ((g37blk g37n1101).trans (g37e11010))))))]
  kernel_rfl
theorem s37_eq (x0 : V) (x1 : V) (st : St) : s37 [x0, x1] st = f37 x0 x1 st := by
  have h : afn Try.prog g37mu g37T big (areg Try.prog g37mu g37T) 37 [x0, x1] st = g37X (g37C []) g37kr (fun t => [x0, x1].getD t (.tup [])) st := by kernel_rfl
  rw [s37, sealF_eq]
  exact h.trans (g37er _ st)
/-! sinew/sinewref03.SameRows -/
def g38mu : Nat → Bool := fun _ => false
noncomputable def g38T : Tbl := tget [(37, s37)]
theorem g38t : SimT Try.prog g38T := simT_cons sim37 (simT_nil)
noncomputable def s38 : Fn := sealF (afn Try.prog g38mu g38T big (areg Try.prog g38mu g38T) 38)
theorem sim38 : Sim Try.prog 38 s38 := (afn_sim g38t (fun m => areg_sound g38t hmix m) 38 (by kernel_rfl)).sealed
noncomputable def g38C (p : List Nat) : Code := sub (match Try.f38.body with | some c => c | none => .skip) p
noncomputable def g38X (c : Code) (K : Kon) : Env → St → Res := aexec Try.prog g38mu g38T big 27 (areg Try.prog g38mu g38T 27) c K
noncomputable def g38kr : Kon := aresK Try.prog Try.f38.results.toList
theorem g38reg {c : Code} {K : Kon} {G : Env → St → Res} {id : Nat} {ops : Array Oper} {l1 l2 : List Nat} (hc : c = .region id ops false) (hl : List.range ops.size = l1 ++ l2) (h : (fun env st => aops Try.prog g38mu g38T 27 ops l2 env st (K .normal)) = G) : g38X c K = fun env st => aops Try.prog g38mu g38T 27 ops l1 env st G := reg_cut hc hl h
theorem g38seq {c x y : Code} {K : Kon} {G : Env → St → Res} (hc : c = .seq x y) (hy : g38X y K = G) : g38X c K = g38X x (kSeq G K) := seq_cut hc hy
theorem g38blk {c x : Code} {K : Kon} {i : Nat} (hc : c = .block i x) : g38X c K = g38X x (kBlk i K) := blk_cut hc
theorem g38loop {c x : Code} {K : Kon} (hc : c = .loop x) : g38X c K = aloop (g38X x) K big := loop_cut hc
theorem g38cond {c x y : Code} {K : Kon} {v : Operand} {F G : Env → St → Res} (hc : c = .cond v x y) (hx : g38X x K = F) (hy : g38X y K = G) : g38X c K = condF v F G := cond_cut hc hx hy
noncomputable def g38k0 : Kon := kSeq (g38X (g38C [1, 1, 1]) (g38kr)) (g38kr)
noncomputable def g38k1 : Kon := kBlk 0 (g38k0)
noncomputable def g38b11010 : Nat → V → V → V → St → Res
| 0, _, _, _, _ => none
| n + 1, x0, x1, x5, st =>
 A.lenL x0 fun a1 =>
 A.bin .lss x5 a1 fun a2 =>
 A.cond a2
 (A.iaddr 1 x0 x5 fun a3 =>
 A.load false 1 a3 st fun a4 _ =>
 A.iaddr 1 x1 x5 fun a5 =>
 A.load false 1 a5 st fun a6 _ =>
 A.ret (A.ret (s37 [a4.er1, a6.er1] st) kid) fun a7 z8 =>
 A.un .not a7 fun a9 =>
 A.cond a9
 (some (.ret ((.bool false) : V).er1, z8))
 (A.bin .add x5 (.int .i64 1) fun a10 =>
 (g38b11010 n) x0 x1 a10 z8))
 (some (.ret ((.bool true) : V).er1, st))
theorem g38n11010 : g38C [1, 1, 0, 1, 0] = .loop (g38C [1, 1, 0, 1, 0, 0]) := by kernel_rfl
noncomputable def g38k2 (L11010 : V → V → V → St → Res) : Kon := kSeq (fun env st => L11010 (env 0) (env 1) (env 5) st) (g38k1)
theorem g38e11010 : g38X (g38C [1, 1, 0, 1, 0]) (g38k1) = fun env st => g38b11010 big (env 0) (env 1) (env 5) st := by
  have key : ∀ n, aloop (g38X (g38C [1, 1, 0, 1, 0, 0])) (g38k1) n = fun env st => g38b11010 n (env 0) (env 1) (env 5) st := by
    intro n
    induction n with
    | zero => rfl
    | succ n ih =>
      have h : aloop (g38X (g38C [1, 1, 0, 1, 0, 0])) (g38k1) (n + 1) = g38X (g38C [1, 1, 0, 1, 0, 0]) (kSeq (aloop (g38X (g38C [1, 1, 0, 1, 0, 0])) (g38k1) n) (g38k1)) := rfl
      rw [h, ih]
      refine Eq.trans (Eq.refl _) ?_
      funext env st
      kernel_rfl
  exact (g38loop g38n11010).trans (key big)
noncomputable def f38 (x0 : V) (x1 : V) (st : St) : Res :=
 A.lenL x0 fun a1 =>
 A.lenL x1 fun a2 =>
 A.eql 2 true a1 a2 fun a3 =>
 A.cond a3
 (some (.ret ((.bool false) : V).er1, st))
 (g38b11010 big x0 x1 (.int .i64 0) st)
theorem g38nr : g38C [] = .seq (g38C [0]) (g38C [1]) := by kernel_rfl
theorem g38n1 : g38C [1] = .seq (g38C [1, 0]) (g38C [1, 1]) := by kernel_rfl
theorem g38n11 : g38C [1, 1] = .seq (g38C [1, 1, 0]) (g38C [1, 1, 1]) := by kernel_rfl
theorem g38n110 : g38C [1, 1, 0] = .seq (g38C [1, 1, 0, 0]) (g38C [1, 1, 0, 1]) := by kernel_rfl
theorem g38n1101 : g38C [1, 1, 0, 1] = .block 0 (g38C [1, 1, 0, 1, 0]) := by kernel_rfl
theorem g38er (env : Env) (st : St) : g38X (g38C []) g38kr env st = f38 (env 0) (env 1) st := by
  rw [(g38seq g38nr (g38seq g38n1 ((g38seq g38n11 rfl).trans (g38seq g38n110 ((g38blk g38n1101).trans (g38e11010))))))]
  kernel_rfl
theorem s38_eq (x0 : V) (x1 : V) (st : St) : s38 [x0, x1] st = f38 x0 x1 st := by
  have h : afn Try.prog g38mu g38T big (areg Try.prog g38mu g38T) 38 [x0, x1] st = g38X (g38C []) g38kr (fun t => [x0, x1].getD t (.tup [])) st := by kernel_rfl
  rw [s38, sealF_eq]
  exact h.trans (g38er _ st)
/-! sinew/sinewref03.Same -/
def g25mu : Nat → Bool := fun _ => false
noncomputable def g25T : Tbl := tget [(37, s37), (38, s38)]
theorem g25t : SimT Try.prog g25T := simT_cons sim37 ( simT_cons sim38 (simT_nil))
noncomputable def s25 : Fn := sealF (fun args st => fg (afn Try.prog g25mu g25T big (areg Try.prog g25mu g25T) 25 args st) st)
theorem sim25 : Sim Try.prog 25 s25 := (afn_sim g25t (fun m => areg_sound g25t hmix m) 25 (by kernel_rfl)).fg.sealed
noncomputable def g25C (p : List Nat) : Code := sub (match Try.f25.body with | some c => c | none => .skip) p
noncomputable def g25X (c : Code) (K : Kon) : Env → St → Res := aexec Try.prog g25mu g25T big 50 (areg Try.prog g25mu g25T 50) c K
noncomputable def g25kr : Kon := aresK Try.prog Try.f25.results.toList
theorem g25reg {c : Code} {K : Kon} {G : Env → St → Res} {id : Nat} {ops : Array Oper} {l1 l2 : List Nat} (hc : c = .region id ops false) (hl : List.range ops.size = l1 ++ l2) (h : (fun env st => aops Try.prog g25mu g25T 50 ops l2 env st (K .normal)) = G) : g25X c K = fun env st => aops Try.prog g25mu g25T 50 ops l1 env st G := reg_cut hc hl h
theorem g25seq {c x y : Code} {K : Kon} {G : Env → St → Res} (hc : c = .seq x y) (hy : g25X y K = G) : g25X c K = g25X x (kSeq G K) := seq_cut hc hy
theorem g25blk {c x : Code} {K : Kon} {i : Nat} (hc : c = .block i x) : g25X c K = g25X x (kBlk i K) := blk_cut hc
theorem g25loop {c x : Code} {K : Kon} (hc : c = .loop x) : g25X c K = aloop (g25X x) K big := loop_cut hc
theorem g25cond {c x y : Code} {K : Kon} {v : Operand} {F G : Env → St → Res} (hc : c = .cond v x y) (hx : g25X x K = F) (hy : g25X y K = G) : g25X c K = condF v F G := cond_cut hc hx hy
noncomputable def g25k0 : Kon := kSeq (g25X (g25C [1, 1, 1]) (g25kr)) (g25kr)
noncomputable def g25k1 : Kon := kBlk 0 (g25k0)
noncomputable def g25b11010 : Nat → V → V → V → St → Res
| 0, _, _, _, _ => none
| n + 1, x2, x3, x5, st =>
 A.faddr 1 x2 fun a1 =>
 A.load false 1 a1 st fun a2 z3 =>
 A.lenL a2 fun a4 =>
 A.bin .lss x5 a4 fun a5 =>
 A.cond a5
 (A.faddr 1 x2 fun a6 =>
 A.load false 1 a6 z3 fun a7 _ =>
 A.iaddr 1 a7 x5 fun a8 =>
 A.load false 1 a8 z3 fun a9 _ =>
 A.faddr 1 x3 fun a10 =>
 A.load false 1 a10 z3 fun a11 _ =>
 A.iaddr 1 a11 x5 fun a12 =>
 A.load false 1 a12 z3 fun a13 _ =>
 A.eql 2 true a9 a13 fun a14 =>
 A.cond a14
 (some (.ret ((.bool false) : V).er1, z3))
 (A.bin .add x5 (.int .i64 1) fun a15 =>
 (g25b11010 n) x2 x3 a15 z3))
 (A.faddr 2 x2 fun a16 =>
 A.load false 1 a16 z3 fun a17 z18 =>
 A.faddr 2 x3 fun a19 =>
 A.load false 1 a19 z18 fun a20 z21 =>
 A.ret (s37 [a17.er1, a20.er1] z21) fun a22 z23 =>
 A.guard a22 true
 (A.faddr 3 x2 fun a24 =>
 A.load false 1 a24 z23 fun a25 z26 =>
 A.faddr 3 x3 fun a27 =>
 A.load false 1 a27 z26 fun a28 z29 =>
 A.ret (s38 [a25.er1, a28.er1] z29) fun a30 z31 =>
 some (.ret a30.er1, z31))
 (some (.ret ((.bool false) : V).er1, z23)))
theorem g25n11010 : g25C [1, 1, 0, 1, 0] = .loop (g25C [1, 1, 0, 1, 0, 0]) := by kernel_rfl
noncomputable def g25k2 (L11010 : V → V → V → St → Res) : Kon := kSeq (fun env st => L11010 (env 2) (env 3) (env 5) st) (g25k1)
theorem g25e11010 : g25X (g25C [1, 1, 0, 1, 0]) (g25k1) = fun env st => g25b11010 big (env 2) (env 3) (env 5) st := by
  have key : ∀ n, aloop (g25X (g25C [1, 1, 0, 1, 0, 0])) (g25k1) n = fun env st => g25b11010 n (env 2) (env 3) (env 5) st := by
    intro n
    induction n with
    | zero => rfl
    | succ n ih =>
      have h : aloop (g25X (g25C [1, 1, 0, 1, 0, 0])) (g25k1) (n + 1) = g25X (g25C [1, 1, 0, 1, 0, 0]) (kSeq (aloop (g25X (g25C [1, 1, 0, 1, 0, 0])) (g25k1) n) (g25k1)) := rfl
      rw [h, ih]
      refine Eq.trans (Eq.refl _) ?_
      funext env st
      kernel_rfl
  exact (g25loop g25n11010).trans (key big)
noncomputable def g25b11 (x2 : V) (x3 : V) (st : St) : Res :=
 g25b11010 big x2 x3 (.int .i64 0) st
theorem g25n11 : g25C [1, 1] = .seq (g25C [1, 1, 0]) (g25C [1, 1, 1]) := by kernel_rfl
theorem g25n110 : g25C [1, 1, 0] = .seq (g25C [1, 1, 0, 0]) (g25C [1, 1, 0, 1]) := by kernel_rfl
theorem g25n1101 : g25C [1, 1, 0, 1] = .block 0 (g25C [1, 1, 0, 1, 0]) := by kernel_rfl
theorem g25e11 : g25X (g25C [1, 1]) (g25kr) = fun env st => g25b11 (env 2) (env 3) st := by
  refine Eq.trans ((g25seq g25n11 rfl).trans (g25seq g25n110 ((g25blk g25n1101).trans (g25e11010)))) ?_
  funext env st
  kernel_rfl
noncomputable def f25 (x0 : V) (x1 : V) (st : St) : Res :=
 A.box x0 st fun a1 z2 =>
 A.box x1 z2 fun a3 z4 =>
 A.faddr 0 a1 fun a5 =>
 A.load false 1 a5 z4 fun a6 z7 =>
 A.faddr 0 a3 fun a8 =>
 A.load false 1 a8 z7 fun a9 z10 =>
 A.eql 2 true a6 a9 fun a11 =>
 A.guard a11 false
 (A.faddr 1 a1 fun a12 =>
 A.load false 1 a12 z10 fun a13 z14 =>
 A.lenL a13 fun a15 =>
 A.faddr 1 a3 fun a16 =>
 A.load false 1 a16 z14 fun a17 z18 =>
 A.lenL a17 fun a19 =>
 A.eql 2 true a15 a19 fun a20 =>
 A.cond a20
 (some (.ret ((.bool false) : V).er1, z18))
 (g25b11 a1 a3 z18))
 (some (.ret ((.bool false) : V).er1, z10))
theorem g25nr : g25C [] = .seq (g25C [0]) (g25C [1]) := by kernel_rfl
theorem g25n1 : g25C [1] = .seq (g25C [1, 0]) (g25C [1, 1]) := by kernel_rfl
theorem g25er (env : Env) (st : St) : g25X (g25C []) g25kr env st = f25 (env 0) (env 1) st := by
  rw [(g25seq g25nr (g25seq g25n1 (g25e11)))]
  kernel_rfl
theorem s25_eq (x0 : V) (x1 : V) (st : St) : s25 [x0, x1] st = fg (f25 x0 x1 st) st := by
  have h : afn Try.prog g25mu g25T big (areg Try.prog g25mu g25T) 25 [x0, x1] st = g25X (g25C []) g25kr (fun t => [x0, x1].getD t (.tup [])) st := by kernel_rfl
  rw [s25, sealF_eq]
  show fg _ st = fg _ st
  refine congrArg (fun r => fg r st) ?_
  exact h.trans (g25er _ st)
/-! sinew/sinewref03.SameAll -/
def g16mu : Nat → Bool := fun _ => false
noncomputable def g16T : Tbl := tget [(25, s25)]
theorem g16t : SimT Try.prog g16T := simT_cons sim25 (simT_nil)
noncomputable def s16 : Fn := sealF (afn Try.prog g16mu g16T big (areg Try.prog g16mu g16T) 16)
theorem sim16 : Sim Try.prog 16 s16 := (afn_sim g16t (fun m => areg_sound g16t hmix m) 16 (by kernel_rfl)).sealed
noncomputable def g16C (p : List Nat) : Code := sub (match Try.f16.body with | some c => c | none => .skip) p
noncomputable def g16X (c : Code) (K : Kon) : Env → St → Res := aexec Try.prog g16mu g16T big 27 (areg Try.prog g16mu g16T 27) c K
noncomputable def g16kr : Kon := aresK Try.prog Try.f16.results.toList
theorem g16reg {c : Code} {K : Kon} {G : Env → St → Res} {id : Nat} {ops : Array Oper} {l1 l2 : List Nat} (hc : c = .region id ops false) (hl : List.range ops.size = l1 ++ l2) (h : (fun env st => aops Try.prog g16mu g16T 27 ops l2 env st (K .normal)) = G) : g16X c K = fun env st => aops Try.prog g16mu g16T 27 ops l1 env st G := reg_cut hc hl h
theorem g16seq {c x y : Code} {K : Kon} {G : Env → St → Res} (hc : c = .seq x y) (hy : g16X y K = G) : g16X c K = g16X x (kSeq G K) := seq_cut hc hy
theorem g16blk {c x : Code} {K : Kon} {i : Nat} (hc : c = .block i x) : g16X c K = g16X x (kBlk i K) := blk_cut hc
theorem g16loop {c x : Code} {K : Kon} (hc : c = .loop x) : g16X c K = aloop (g16X x) K big := loop_cut hc
theorem g16cond {c x y : Code} {K : Kon} {v : Operand} {F G : Env → St → Res} (hc : c = .cond v x y) (hx : g16X x K = F) (hy : g16X y K = G) : g16X c K = condF v F G := cond_cut hc hx hy
noncomputable def g16k0 : Kon := kSeq (g16X (g16C [1, 1, 1]) (g16kr)) (g16kr)
noncomputable def g16k1 : Kon := kBlk 0 (g16k0)
noncomputable def g16b11010 : Nat → V → V → V → St → Res
| 0, _, _, _, _ => none
| n + 1, x0, x1, x5, st =>
 A.lenL x0 fun a1 =>
 A.bin .lss x5 a1 fun a2 =>
 A.cond a2
 (A.iaddr 4 x0 x5 fun a3 =>
 A.load true 4 a3 st fun a4 _ =>
 A.iaddr 4 x1 x5 fun a5 =>
 A.load true 4 a5 st fun a6 _ =>
 A.ret (A.ret (s25 [a4.er1, a6.er1] st) kid) fun a7 z8 =>
 A.un .not a7 fun a9 =>
 A.cond a9
 (some (.ret ((.bool false) : V).er1, z8))
 (A.bin .add x5 (.int .i64 1) fun a10 =>
 (g16b11010 n) x0 x1 a10 z8))
 (some (.ret ((.bool true) : V).er1, st))
theorem g16n11010 : g16C [1, 1, 0, 1, 0] = .loop (g16C [1, 1, 0, 1, 0, 0]) := by kernel_rfl
noncomputable def g16k2 (L11010 : V → V → V → St → Res) : Kon := kSeq (fun env st => L11010 (env 0) (env 1) (env 5) st) (g16k1)
theorem g16e11010 : g16X (g16C [1, 1, 0, 1, 0]) (g16k1) = fun env st => g16b11010 big (env 0) (env 1) (env 5) st := by
  have key : ∀ n, aloop (g16X (g16C [1, 1, 0, 1, 0, 0])) (g16k1) n = fun env st => g16b11010 n (env 0) (env 1) (env 5) st := by
    intro n
    induction n with
    | zero => rfl
    | succ n ih =>
      have h : aloop (g16X (g16C [1, 1, 0, 1, 0, 0])) (g16k1) (n + 1) = g16X (g16C [1, 1, 0, 1, 0, 0]) (kSeq (aloop (g16X (g16C [1, 1, 0, 1, 0, 0])) (g16k1) n) (g16k1)) := rfl
      rw [h, ih]
      refine Eq.trans (Eq.refl _) ?_
      funext env st
      kernel_rfl
  exact (g16loop g16n11010).trans (key big)
noncomputable def f16 (x0 : V) (x1 : V) (st : St) : Res :=
 A.lenL x0 fun a1 =>
 A.lenL x1 fun a2 =>
 A.eql 2 true a1 a2 fun a3 =>
 A.cond a3
 (some (.ret ((.bool false) : V).er1, st))
 (g16b11010 big x0 x1 (.int .i64 0) st)
theorem g16nr : g16C [] = .seq (g16C [0]) (g16C [1]) := by kernel_rfl
theorem g16n1 : g16C [1] = .seq (g16C [1, 0]) (g16C [1, 1]) := by kernel_rfl
theorem g16n11 : g16C [1, 1] = .seq (g16C [1, 1, 0]) (g16C [1, 1, 1]) := by kernel_rfl
theorem g16n110 : g16C [1, 1, 0] = .seq (g16C [1, 1, 0, 0]) (g16C [1, 1, 0, 1]) := by kernel_rfl
theorem g16n1101 : g16C [1, 1, 0, 1] = .block 0 (g16C [1, 1, 0, 1, 0]) := by kernel_rfl
theorem g16er (env : Env) (st : St) : g16X (g16C []) g16kr env st = f16 (env 0) (env 1) st := by
  rw [(g16seq g16nr (g16seq g16n1 ((g16seq g16n11 rfl).trans (g16seq g16n110 ((g16blk g16n1101).trans (g16e11010))))))]
  kernel_rfl
theorem s16_eq (x0 : V) (x1 : V) (st : St) : s16 [x0, x1] st = f16 x0 x1 st := by
  have h : afn Try.prog g16mu g16T big (areg Try.prog g16mu g16T) 16 [x0, x1] st = g16X (g16C []) g16kr (fun t => [x0, x1].getD t (.tup [])) st := by kernel_rfl
  rw [s16, sealF_eq]
  exact h.trans (g16er _ st)
/-! sinew/sinewref04.New -/
def g18mu : Nat → Bool := fun _ => false
noncomputable def g18T : Tbl := tget []
theorem g18t : SimT Try.prog g18T := simT_nil
noncomputable def s18 : Fn := sealF (fun args st => fg (afn Try.prog g18mu g18T big (areg Try.prog g18mu g18T) 18 args st) st)
theorem sim18 : Sim Try.prog 18 s18 := (afn_sim g18t (fun m => areg_sound g18t hmix m) 18 (by kernel_rfl)).fg.sealed
noncomputable def f18 (x0 : V) (st : St) : Res :=
 A.box (.agg [(.int .i64 0), (.int .i64 0), (.lst [] 1), (.lst [] 1)]) st fun a1 z2 =>
 A.bin .lss x0 (.int .i64 1) fun a3 =>
 A.guard a3 false
 (A.bin .gtr x0 (.int .i64 67108864) fun a4 =>
 A.cond a4
 (A.build [(.int .i64 0), (.int .i64 0), (.lst [] 1), (.lst [] 1)] [] fun a5 =>
 A.store 4 a1 a5 z2 fun z6 =>
 A.res (rcell (A.load true 4 a1 z6 kid) (rtmp (.int .i64 1) (some []))) z6)
 (A.build [(.int .i64 0), (.int .i64 0), (.lst [] 1), (.lst [] 1)] [(0, 1, x0)] fun a7 =>
 A.store 4 a1 a7 z2 fun z8 =>
 A.res (rcell (A.load true 4 a1 z8 kid) (rtmp (.int .i64 0) (some []))) z8))
 (A.build [(.int .i64 0), (.int .i64 0), (.lst [] 1), (.lst [] 1)] [] fun a9 =>
 A.store 4 a1 a9 z2 fun z10 =>
 A.res (rcell (A.load true 4 a1 z10 kid) (rtmp (.int .i64 1) (some []))) z10)
theorem s18_eq (x0 : V) (st : St) : s18 [x0] st = fg (f18 x0 st) st := by
  rw [s18, sealF_eq]
  show fg _ st = fg _ st
  refine congrArg (fun r => fg r st) ?_
  kernel_rfl
/-! sinew/sinewref04.Bytes -/
def g20mu : Nat → Bool := fun _ => false
noncomputable def g20T : Tbl := tget []
theorem g20t : SimT Try.prog g20T := simT_nil
noncomputable def s20 : Fn := sealF (fun args st => fg (afn Try.prog g20mu g20T big (areg Try.prog g20mu g20T) 20 args st) st)
theorem sim20 : Sim Try.prog 20 s20 := (afn_sim g20t (fun m => areg_sound g20t hmix m) 20 (by kernel_rfl)).fg.sealed
noncomputable def f20 (x0 : V) (st : St) : Res :=
 A.box x0 st fun a1 z2 =>
 A.faddr 3 a1 fun a3 =>
 A.load false 1 a3 z2 fun a4 z5 =>
 A.lenL a4 fun a6 =>
 A.bin .gtr a6 (.int .i64 0) fun a7 =>
 A.cond a7
 (A.faddr 3 a1 fun a8 =>
 A.load false 1 a8 z5 fun a9 z10 =>
 A.bin .sub a6 (.int .i64 1) fun a11 =>
 A.iaddr 1 a9 a11 fun a12 =>
 A.load false 1 a12 z10 fun a13 z14 =>
 some (.ret a13.er1, z14))
 (some (.ret ((.int .i64 0) : V).er1, z5))
theorem s20_eq (x0 : V) (st : St) : s20 [x0] st = fg (f20 x0 st) st := by
  rw [s20, sealF_eq]
  show fg _ st = fg _ st
  refine congrArg (fun r => fg r st) ?_
  kernel_rfl
/-! sinew/wire.Check -/
def g31mu : Nat → Bool := fun _ => false
noncomputable def g31T : Tbl := tget [(33, s33)]
theorem g31t : SimT Try.prog g31T := simT_cons sim33 (simT_nil)
noncomputable def s31 : Fn := sealF (fun args st => fg (afn Try.prog g31mu g31T big (areg Try.prog g31mu g31T) 31 args st) st)
theorem sim31 : Sim Try.prog 31 s31 := (afn_sim g31t (fun m => areg_sound g31t hmix m) 31 (by kernel_rfl)).fg.sealed
noncomputable def f31 (x0 : V) (st : St) : Res :=
 A.box x0 st fun a1 z2 =>
 A.load true 4 a1 z2 fun a3 z4 =>
 A.ret (s33 [a3.er1] z4) fun a5 z6 =>
 A.ext a5 0 fun a7 =>
 A.ext a5 1 fun a8 =>
 some (.ret a8.er1, z6)
theorem s31_eq (x0 : V) (st : St) : s31 [x0] st = fg (f31 x0 st) st := by
  rw [s31, sealF_eq]
  show fg _ st = fg _ st
  refine congrArg (fun r => fg r st) ?_
  kernel_rfl
/-! (*sinew/journal.Journal).Begin$1 -/
def g30mu : Nat → Bool := fun _ => false
noncomputable def g30T : Tbl := tget [(31, s31)]
theorem g30t : SimT Try.prog g30T := simT_cons sim31 (simT_nil)
noncomputable def s30 : Fn := sealF (fun args st => fg (afn Try.prog g30mu g30T big (areg Try.prog g30mu g30T) 30 args st) st)
theorem sim30 : Sim Try.prog 30 s30 := (afn_sim g30t (fun m => areg_sound g30t hmix m) 30 (by kernel_rfl)).fg.sealed
noncomputable def f30 (x0 : V) (st : St) : Res :=
 A.box x0 st fun a1 z2 =>
 A.load true 4 a1 z2 fun a3 z4 =>
 A.ret (s31 [a3.er1] z4) fun a5 z6 =>
 A.eql 2 true a5 (.int .i64 0) fun a7 =>
 some (.ret a7.er1, z6)
theorem s30_eq (x0 : V) (st : St) : s30 [x0] st = fg (f30 x0 st) st := by
  rw [s30, sealF_eq]
  show fg _ st = fg _ st
  refine congrArg (fun r => fg r st) ?_
  kernel_rfl
/-! slices.IndexFunc[[]sinew/api.Note,sinew/api.Note] -/
def g41mu : Nat → Bool := fun _ => false
noncomputable def g41T : Tbl := tget [(30, s30)]
theorem g41t : SimT Try.prog g41T := simT_cons sim30 (simT_nil)
noncomputable def s41 : Fn := sealF (fun args st => fg (afn Try.prog g41mu g41T big (areg Try.prog g41mu g41T) 41 args st) st)
theorem sim41 : Sim Try.prog 41 s41 := (afn_sim g41t (fun m => areg_sound g41t hmix m) 41 (by kernel_rfl)).fg.sealed
noncomputable def g41C (p : List Nat) : Code := sub (match Try.f41.body with | some c => c | none => .skip) p
noncomputable def g41X (c : Code) (K : Kon) : Env → St → Res := aexec Try.prog g41mu g41T big 19 (areg Try.prog g41mu g41T 19) c K
noncomputable def g41kr : Kon := aresK Try.prog Try.f41.results.toList
theorem g41reg {c : Code} {K : Kon} {G : Env → St → Res} {id : Nat} {ops : Array Oper} {l1 l2 : List Nat} (hc : c = .region id ops false) (hl : List.range ops.size = l1 ++ l2) (h : (fun env st => aops Try.prog g41mu g41T 19 ops l2 env st (K .normal)) = G) : g41X c K = fun env st => aops Try.prog g41mu g41T 19 ops l1 env st G := reg_cut hc hl h
theorem g41seq {c x y : Code} {K : Kon} {G : Env → St → Res} (hc : c = .seq x y) (hy : g41X y K = G) : g41X c K = g41X x (kSeq G K) := seq_cut hc hy
theorem g41blk {c x : Code} {K : Kon} {i : Nat} (hc : c = .block i x) : g41X c K = g41X x (kBlk i K) := blk_cut hc
theorem g41loop {c x : Code} {K : Kon} (hc : c = .loop x) : g41X c K = aloop (g41X x) K big := loop_cut hc
theorem g41cond {c x y : Code} {K : Kon} {v : Operand} {F G : Env → St → Res} (hc : c = .cond v x y) (hx : g41X x K = F) (hy : g41X y K = G) : g41X c K = condF v F G := cond_cut hc hx hy
noncomputable def g41k0 : Kon := kSeq (g41X (g41C [1, 1]) (g41kr)) (g41kr)
noncomputable def g41k1 : Kon := kBlk 0 (g41k0)
noncomputable def g41b1010 : Nat → V → V → V → V → St → Res
| 0, _, _, _, _, _ => none
| n + 1, x0, x1, x7, x8, st =>
 A.bin .lss x8 x7 fun a1 =>
 A.cond a1
 (A.iaddr 4 x0 x8 fun a2 =>
 A.load true 4 a2 st fun a3 z4 =>
 A.call g41T x1 [a3] z4 fun a5 z6 =>
 A.cond a5
 (some (.ret x8.er1, z6))
 (A.bin .add x8 (.int .i64 1) fun a7 =>
 (g41b1010 n) x0 x1 x7 a7 z6))
 (some (.ret ((.int .i64 (-1)) : V).er1, st))
theorem g41n1010 : g41C [1, 0, 1, 0] = .loop (g41C [1, 0, 1, 0, 0]) := by kernel_rfl
noncomputable def g41k2 (L1010 : V → V → V → V → St → Res) : Kon := kSeq (fun env st => L1010 (env 0) (env 1) (env 7) (env 8) st) (g41k1)
theorem g41e1010 : g41X (g41C [1, 0, 1, 0]) (g41k1) = fun env st => g41b1010 big (env 0) (env 1) (env 7) (env 8) st := by
  have key : ∀ n, aloop (g41X (g41C [1, 0, 1, 0, 0])) (g41k1) n = fun env st => g41b1010 n (env 0) (env 1) (env 7) (env 8) st := by
    intro n
    induction n with
    | zero => rfl
    | succ n ih =>
      have h : aloop (g41X (g41C [1, 0, 1, 0, 0])) (g41k1) (n + 1) = g41X (g41C [1, 0, 1, 0, 0]) (kSeq (aloop (g41X (g41C [1, 0, 1, 0, 0])) (g41k1) n) (g41k1)) := rfl
      rw [h, ih]
      refine Eq.trans (Eq.refl _) ?_
      funext env st
      kernel_rfl
  exact (g41loop g41n1010).trans (key big)
noncomputable def f41 (x0 : V) (x1 : V) (st : St) : Res :=
 A.lenL x0 fun a1 =>
 g41b1010 big x0 x1 a1 (.int .i64 0) st
theorem g41nr : g41C [] = .seq (g41C [0]) (g41C [1]) := by kernel_rfl
theorem g41n1 : g41C [1] = .seq (g41C [1, 0]) (g41C [1, 1]) := by kernel_rfl
theorem g41n10 : g41C [1, 0] = .seq (g41C [1, 0, 0]) (g41C [1, 0, 1]) := by kernel_rfl
theorem g41n101 : g41C [1, 0, 1] = .block 0 (g41C [1, 0, 1, 0]) := by kernel_rfl
theorem g41er (env : Env) (st : St) : g41X (g41C []) g41kr env st = f41 (env 0) (env 1) st := by
  rw [(g41seq g41nr ((g41seq g41n1 rfl).trans (g41seq g41n10 ((g41blk g41n101).trans (g41e1010)))))]
  kernel_rfl
theorem s41_eq (x0 : V) (x1 : V) (st : St) : s41 [x0, x1] st = fg (f41 x0 x1 st) st := by
  have h : afn Try.prog g41mu g41T big (areg Try.prog g41mu g41T) 41 [x0, x1] st = g41X (g41C []) g41kr (fun t => [x0, x1].getD t (.tup [])) st := by kernel_rfl
  rw [s41, sealF_eq]
  show fg _ st = fg _ st
  refine congrArg (fun r => fg r st) ?_
  exact h.trans (g41er _ st)
end Go.Ab
