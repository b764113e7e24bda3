import Derived.Test.YtjdgaphjjhhjeaaAbQuiet
import Derived.Test.YtjdgaphjjhhjeaaAbP041
namespace Go.Ab
open Go.Proofs
set_option linter.unusedVariables false
set_option maxRecDepth 100000
/-! sinew/wire.ofFour -/
def g51mu : Nat → Bool := fun _ => false
noncomputable def g51T : Tbl := tget []
theorem g51t : SimT Try.prog g51T := simT_nil
noncomputable def s51 : Fn := sealF (afn Try.prog g51mu g51T big (areg Try.prog g51mu g51T) 51)
theorem sim51 : Sim Try.prog 51 s51 := (afn_sim g51t (fun m => areg_sound g51t hmix m) 51 (by kernel_rfl)).sealed
noncomputable def f51 (x0 : V) (st : St) : Res :=
 A.idxS x0 (.int .i64 0) fun a1 =>
 A.toInt .i64 a1 fun a2 =>
 A.bin .shl a2 (.int .u64 24) fun a3 =>
 A.idxS x0 (.int .i64 1) fun a4 =>
 A.toInt .i64 a4 fun a5 =>
 A.bin .shl a5 (.int .u64 16) fun a6 =>
 A.bin .or a3 a6 fun a7 =>
 A.idxS x0 (.int .i64 2) fun a8 =>
 A.toInt .i64 a8 fun a9 =>
 A.bin .shl a9 (.int .u64 8) fun a10 =>
 A.bin .or a7 a10 fun a11 =>
 A.idxS x0 (.int .i64 3) fun a12 =>
 A.toInt .i64 a12 fun a13 =>
 A.bin .or a11 a13 fun a14 =>
 some (.ret a14.er1, st)
theorem s51_eq (x0 : V) (st : St) : s51 [x0] st = f51 x0 st := by
  rw [s51, sealF_eq]
  kernel_rfl
/-! sinew/octet.Num -/
def g63mu : Nat → Bool := fun _ => false
noncomputable def g63T : Tbl := tget []
theorem g63t : SimT Try.prog g63T := simT_nil
noncomputable def s63 : Fn := sealF (afn Try.prog g63mu g63T big (areg Try.prog g63mu g63T) 63)
theorem sim63 : Sim Try.prog 63 s63 := (afn_sim g63t (fun m => areg_sound g63t hmix m) 63 (by kernel_rfl)).sealed
noncomputable def g63C (p : List Nat) : Code := sub (match Try.f63.body with | some c => c | none => .skip) p
noncomputable def g63X (c : Code) (K : Kon) : Env → St → Res := aexec Try.prog g63mu g63T big 56 (areg Try.prog g63mu g63T 56) c K
noncomputable def g63kr : Kon := aresK Try.prog Try.f63.results.toList
theorem g63reg {c : Code} {K : Kon} {G : Env → St → Res} {id : Nat} {ops : Array Oper} {l1 l2 : List Nat} (hc : c = .region id ops false) (hl : List.range ops.size = l1 ++ l2) (h : (fun env st => aops Try.prog g63mu g63T 56 ops l2 env st (K .normal)) = G) : g63X c K = fun env st => aops Try.prog g63mu g63T 56 ops l1 env st G := reg_cut hc hl h
theorem g63seq {c x y : Code} {K : Kon} {G : Env → St → Res} (hc : c = .seq x y) (hy : g63X y K = G) : g63X c K = g63X x (kSeq G K) := seq_cut hc hy
theorem g63blk {c x : Code} {K : Kon} {i : Nat} (hc : c = .block i x) : g63X c K = g63X x (kBlk i K) := blk_cut hc
theorem g63loop {c x : Code} {K : Kon} (hc : c = .loop x) : g63X c K = aloop (g63X x) K big := loop_cut hc
theorem g63cond {c x y : Code} {K : Kon} {v : Operand} {F G : Env → St → Res} (hc : c = .cond v x y) (hx : g63X x K = F) (hy : g63X y K = G) : g63X c K = condF v F G := cond_cut hc hx hy
noncomputable def g63k0 : Kon := kSeq (g63X (g63C [1, 1, 1, 1, 1]) (g63kr)) (g63kr)
noncomputable def g63k1 : Kon := kBlk 1 (g63k0)
noncomputable def g63b1111010 : Nat → V → V → V → V → V → St → Res
| 0, _, _, _, _, _, _ => none
| n + 1, x0, x2, x5, x40, x41, st =>
 A.bin .lss x41 x40 fun a1 =>
 A.cond a1
 (A.bin .shl x2 (.int .u64 8) fun a2 =>
 A.bin .add x41 (.int .i64 1) fun a3 =>
 A.idxS x0 a3 fun a4 =>
 A.toInt .i64 a4 fun a5 =>
 A.bin .or a2 a5 fun a6 =>
 A.bin .add x41 (.int .i64 1) fun a7 =>
 (g63b1111010 n) x0 a6 x5 x40 a7 st)
 (A.bin .add x5 (.int .i64 1) fun a8 =>
 some (.ret (.tup [x2.er1, a8.er1, ((.int .i64 0) : V).er1]), st))
theorem g63n1111010 : g63C [1, 1, 1, 1, 0, 1, 0] = .loop (g63C [1, 1, 1, 1, 0, 1, 0, 0]) := by kernel_rfl
noncomputable def g63k2 (L1111010 : V → V → V → V → V → St → Res) : Kon := kSeq (fun env st => L1111010 (env 0) (env 2) (env 5) (env 40) (env 41) st) (g63k1)
theorem g63e1111010 : g63X (g63C [1, 1, 1, 1, 0, 1, 0]) (g63k1) = fun env st => g63b1111010 big (env 0) (env 2) (env 5) (env 40) (env 41) st := by
  have key : ∀ n, aloop (g63X (g63C [1, 1, 1, 1, 0, 1, 0, 0])) (g63k1) n = fun env st => g63b1111010 n (env 0) (env 2) (env 5) (env 40) (env 41) st := by
    intro n
    induction n with
    | zero => rfl
    | succ n ih =>
      have h : aloop (g63X (g63C [1, 1, 1, 1, 0, 1, 0, 0])) (g63k1) (n + 1) = g63X (g63C [1, 1, 1, 1, 0, 1, 0, 0]) (kSeq (aloop (g63X (g63C [1, 1, 1, 1, 0, 1, 0, 0])) (g63k1) n) (g63k1)) := rfl
      rw [h, ih]
      refine Eq.trans (Eq.refl _) ?_
      funext env st
      kernel_rfl
  exact (g63loop g63n1111010).trans (key big)
noncomputable def g63b1111 (x0 : V) (x2 : V) (x5 : V) (st : St) : Res :=
 g63b1111010 big x0 x2 x5 x5 (.int .i64 0) st
theorem g63n1111 : g63C [1, 1, 1, 1] = .seq (g63C [1, 1, 1, 1, 0]) (g63C [1, 1, 1, 1, 1]) := by kernel_rfl
theorem g63n11110 : g63C [1, 1, 1, 1, 0] = .seq (g63C [1, 1, 1, 1, 0, 0]) (g63C [1, 1, 1, 1, 0, 1]) := by kernel_rfl
theorem g63n111101 : g63C [1, 1, 1, 1, 0, 1] = .block 1 (g63C [1, 1, 1, 1, 0, 1, 0]) := by kernel_rfl
theorem g63e1111 : g63X (g63C [1, 1, 1, 1]) (g63kr) = fun env st => g63b1111 (env 0) (env 2) (env 5) st := by
  refine Eq.trans ((g63seq g63n1111 rfl).trans (g63seq g63n11110 ((g63blk g63n111101).trans (g63e1111010)))) ?_
  funext env st
  kernel_rfl
noncomputable def g63k3 : Kon := kSeq (fun env st => g63b1111 (env 0) (env 2) (env 5) st) (g63kr)
noncomputable def g63k4 : Kon := kSeq (g63X (g63C [1, 1, 1, 0, 1]) (g63k3)) (g63k3)
noncomputable def g63b11100_8 (x0 : V) (x2 : V) (x5 : V) (x31 : V) (st : St) : Res :=
 A.guard x31 false
 (A.eql 2 false x5 (.int .i64 8) fun a1 =>
 A.guardT a1 true
 (A.idxS x0 (.int .i64 1) fun a2 =>
 A.bin .geq a2 (.int .u8 128) fun a3 =>
 A.cond a3
 (some (.ret (.tup [((.int .i64 0) : V).er1, ((.int .i64 0) : V).er1, ((.int .i64 10) : V).er1]), st))
 (g63b1111 x0 x2 x5 st))
 (g63b1111 x0 x2 x5 st)
 (A.guardT a1 true
 (A.idxS (.tup []) (.int .i64 1) fun a4 =>
 A.bin .geq a4 (.int .u8 128) fun a5 =>
 A.cond a5
 (some (.ret (.tup [((.int .i64 0) : V).er1, ((.int .i64 0) : V).er1, ((.int .i64 10) : V).er1]), st))
 (g63b1111 x0 x2 x5 st))
 (g63b1111 x0 x2 x5 st)
 (A.guardT a1 true
 (A.bin .geq (.tup []) (.int .u8 128) fun a6 =>
 A.cond a6
 (some (.ret (.tup [((.int .i64 0) : V).er1, ((.int .i64 0) : V).er1, ((.int .i64 10) : V).er1]), st))
 (g63b1111 x0 x2 x5 st))
 (g63b1111 x0 x2 x5 st)
 (A.pick a1 (.tup []) (.bool false) fun a7 =>
 A.cond a7
 (some (.ret (.tup [((.int .i64 0) : V).er1, ((.int .i64 0) : V).er1, ((.int .i64 10) : V).er1]), st))
 (g63b1111 x0 x2 x5 st)))))
 (some (.ret (.tup [((.int .i64 0) : V).er1, ((.int .i64 0) : V).er1, ((.int .i64 10) : V).er1]), st))
theorem g63e11100_8 : (fun env st => aops Try.prog g63mu g63T 56 (rops (g63C [1, 1, 1, 0, 0])) [8, 9, 10, 11, 12, 13, 14, 15] env st ((g63k4) .normal)) = fun env st => g63b11100_8 (env 0) (env 2) (env 5) (env 31) st := by
  refine Eq.trans (Eq.refl _) ?_
  funext env st
  kernel_rfl
noncomputable def g63b11 (x0 : V) (x2 : V) (st : St) : Res :=
 A.idxS x0 (.int .i64 0) fun a1 =>
 A.toInt .i64 a1 fun a2 =>
 A.bin .gtr a2 (.int .i64 0) fun a3 =>
 A.guard a3 true
 (A.idxS x0 (.int .i64 1) fun a4 =>
 A.eql 2 false a4 (.int .u8 0) fun a5 =>
 g63b11100_8 x0 x2 a2 a5 st)
 (g63b11100_8 x0 x2 a2 (.bool false) st)
theorem g63n11 : g63C [1, 1] = .seq (g63C [1, 1, 0]) (g63C [1, 1, 1]) := by kernel_rfl
theorem g63n111 : g63C [1, 1, 1] = .seq (g63C [1, 1, 1, 0]) (g63C [1, 1, 1, 1]) := by kernel_rfl
theorem g63n1110 : g63C [1, 1, 1, 0] = .seq (g63C [1, 1, 1, 0, 0]) (g63C [1, 1, 1, 0, 1]) := by kernel_rfl
theorem g63rg11100 : g63C [1, 1, 1, 0, 0] = .region 8 (rops (g63C [1, 1, 1, 0, 0])) false := by kernel_rfl
theorem g63rg11100l : List.range (rops (g63C [1, 1, 1, 0, 0])).size = [0, 1, 2, 3, 4, 5, 6, 7] ++ [8, 9, 10, 11, 12, 13, 14, 15] := by kernel_rfl
theorem g63e11 : g63X (g63C [1, 1]) (g63kr) = fun env st => g63b11 (env 0) (env 2) st := by
  refine Eq.trans (g63seq g63n11 ((g63seq g63n111 (g63e1111)).trans ((g63seq g63n1110 rfl).trans (g63reg g63rg11100 g63rg11100l (g63e11100_8))))) ?_
  funext env st
  kernel_rfl
noncomputable def f63 (x0 : V) (st : St) : Res :=
 A.eql 3 false x0 (.str []) fun a1 =>
 A.cond a1
 (some (.ret (.tup [((.int .i64 0) : V).er1, ((.int .i64 0) : V).er1, ((.int .i64 11) : V).er1]), st))
 (A.idxS x0 (.int .i64 0) fun a2 =>
 A.bin .gtr a2 (.int .u8 8) fun a3 =>
 A.cond a3
 (some (.ret (.tup [((.int .i64 0) : V).er1, ((.int .i64 0) : V).er1, ((.int .i64 10) : V).er1]), st))
 (A.lenS x0 fun a4 =>
 A.idxS x0 (.int .i64 0) fun a5 =>
 A.toInt .i64 a5 fun a6 =>
 A.bin .leq a4 a6 fun a7 =>
 A.cond a7
 (some (.ret (.tup [((.int .i64 0) : V).er1, ((.int .i64 0) : V).er1, ((.int .i64 11) : V).er1]), st))
 (g63b11 x0 (.int .i64 0) st)))
theorem g63nr : g63C [] = .seq (g63C [0]) (g63C [1]) := by kernel_rfl
theorem g63n1 : g63C [1] = .seq (g63C [1, 0]) (g63C [1, 1]) := by kernel_rfl
theorem g63er (env : Env) (st : St) : g63X (g63C []) g63kr env st = f63 (env 0) st := by
  rw [(g63seq g63nr (g63seq g63n1 (g63e11)))]
  kernel_rfl
theorem s63_eq (x0 : V) (st : St) : s63 [x0] st = f63 x0 st := by
  have h : afn Try.prog g63mu g63T big (areg Try.prog g63mu g63T) 63 [x0] st = g63X (g63C []) g63kr (fun t => [x0].getD t (.tup [])) st := by kernel_rfl
  rw [s63, sealF_eq]
  exact h.trans (g63er _ st)
/-! sinew/wire.of$1 -/
def g62mu : Nat → Bool := fun _ => false
noncomputable def g62T : Tbl := tget [(63, s63)]
theorem g62t : SimT Try.prog g62T := simT_cons sim63 (simT_nil)
noncomputable def s62 : Fn := sealF (afn Try.prog g62mu g62T big (areg Try.prog g62mu g62T) 62)
theorem sim62 : Sim Try.prog 62 s62 := (afn_sim g62t (fun m => areg_sound g62t hmix m) 62 (by kernel_rfl)).sealed
noncomputable def g62C (p : List Nat) : Code := sub (match Try.f62.body with | some c => c | none => .skip) p
noncomputable def g62X (c : Code) (K : Kon) : Env → St → Res := aexec Try.prog g62mu g62T big 29 (areg Try.prog g62mu g62T 29) c K
noncomputable def g62kr : Kon := aresK Try.prog Try.f62.results.toList
theorem g62reg {c : Code} {K : Kon} {G : Env → St → Res} {id : Nat} {ops : Array Oper} {l1 l2 : List Nat} (hc : c = .region id ops false) (hl : List.range ops.size = l1 ++ l2) (h : (fun env st => aops Try.prog g62mu g62T 29 ops l2 env st (K .normal)) = G) : g62X c K = fun env st => aops Try.prog g62mu g62T 29 ops l1 env st G := reg_cut hc hl h
theorem g62seq {c x y : Code} {K : Kon} {G : Env → St → Res} (hc : c = .seq x y) (hy : g62X y K = G) : g62X c K = g62X x (kSeq G K) := seq_cut hc hy
theorem g62blk {c x : Code} {K : Kon} {i : Nat} (hc : c = .block i x) : g62X c K = g62X x (kBlk i K) := blk_cut hc
theorem g62loop {c x : Code} {K : Kon} (hc : c = .loop x) : g62X c K = aloop (g62X x) K big := loop_cut hc
theorem g62cond {c x y : Code} {K : Kon} {v : Operand} {F G : Env → St → Res} (hc : c = .cond v x y) (hx : g62X x K = F) (hy : g62X y K = G) : g62X c K = condF v F G := cond_cut hc hx hy
noncomputable def g62b111 (x1 : V) (x5 : V) (x6 : V) (st : St) : Res :=
 A.load false 1 x1 st fun a1 z2 =>
 A.sliceS a1 (some x6) none fun a3 =>
 A.store 1 x1 a3 z2 fun z4 =>
 some (.ret x5.er1, z4)
theorem g62e111 : g62X (g62C [1, 1, 1]) (g62kr) = fun env st => g62b111 (env 1) (env 5) (env 6) st := by
  refine Eq.trans (Eq.refl (g62X (g62C [1, 1, 1]) (g62kr))) ?_
  funext env st
  kernel_rfl
noncomputable def f62 (x0 : V) (x1 : V) (x2 : V) (st : St) : Res :=
 A.load false 1 x1 st fun a1 z2 =>
 A.ret (s63 [a1.er1] z2) fun a3 z4 =>
 A.ext a3 0 fun a5 =>
 A.ext a3 1 fun a6 =>
 A.ext a3 2 fun a7 =>
 A.load false 1 x2 z4 fun a8 z9 =>
 A.un .not a8 fun a10 =>
 A.guard a10 false
 (A.eql 2 true a7 (.int .i64 0) fun a11 =>
 A.guard a11 false
 (A.bin .gtr a5 x0 fun a12 =>
 A.cond a12
 (A.store 1 x2 (.bool false) z9 fun z13 =>
 some (.ret ((.int .i64 0) : V).er1, z13))
 (g62b111 x1 a5 a6 z9))
 (A.store 1 x2 (.bool false) z9 fun z14 =>
 some (.ret ((.int .i64 0) : V).er1, z14)))
 (A.store 1 x2 (.bool false) z9 fun z15 =>
 some (.ret ((.int .i64 0) : V).er1, z15))
theorem g62nr : g62C [] = .seq (g62C [0]) (g62C [1]) := by kernel_rfl
theorem g62n1 : g62C [1] = .seq (g62C [1, 0]) (g62C [1, 1]) := by kernel_rfl
theorem g62n11 : g62C [1, 1] = .seq (g62C [1, 1, 0]) (g62C [1, 1, 1]) := by kernel_rfl
theorem g62er (env : Env) (st : St) : g62X (g62C []) g62kr env st = f62 (env 0) (env 1) (env 2) st := by
  rw [(g62seq g62nr (g62seq g62n1 (g62seq g62n11 (g62e111))))]
  kernel_rfl
theorem s62_eq (x0 : V) (x1 : V) (x2 : V) (st : St) : s62 [x0, x1, x2] st = f62 x0 x1 x2 st := by
  have h : afn Try.prog g62mu g62T big (areg Try.prog g62mu g62T) 62 [x0, x1, x2] st = g62X (g62C []) g62kr (fun t => [x0, x1, x2].getD t (.tup [])) st := by kernel_rfl
  rw [s62, sealF_eq]
  exact h.trans (g62er _ st)
/-! sinew/octet.Str -/
def g73mu : Nat → Bool := fun _ => false
noncomputable def g73T : Tbl := tget [(63, s63)]
theorem g73t : SimT Try.prog g73T := simT_cons sim63 (simT_nil)
noncomputable def s73 : Fn := sealF (afn Try.prog g73mu g73T big (areg Try.prog g73mu g73T) 73)
theorem sim73 : Sim Try.prog 73 s73 := (afn_sim g73t (fun m => areg_sound g73t hmix m) 73 (by kernel_rfl)).sealed
noncomputable def g73C (p : List Nat) : Code := sub (match Try.f73.body with | some c => c | none => .skip) p
noncomputable def g73X (c : Code) (K : Kon) : Env → St → Res := aexec Try.prog g73mu g73T big 36 (areg Try.prog g73mu g73T 36) c K
noncomputable def g73kr : Kon := aresK Try.prog Try.f73.results.toList
theorem g73reg {c : Code} {K : Kon} {G : Env → St → Res} {id : Nat} {ops : Array Oper} {l1 l2 : List Nat} (hc : c = .region id ops false) (hl : List.range ops.size = l1 ++ l2) (h : (fun env st => aops Try.prog g73mu g73T 36 ops l2 env st (K .normal)) = G) : g73X c K = fun env st => aops Try.prog g73mu g73T 36 ops l1 env st G := reg_cut hc hl h
theorem g73seq {c x y : Code} {K : Kon} {G : Env → St → Res} (hc : c = .seq x y) (hy : g73X y K = G) : g73X c K = g73X x (kSeq G K) := seq_cut hc hy
theorem g73blk {c x : Code} {K : Kon} {i : Nat} (hc : c = .block i x) : g73X c K = g73X x (kBlk i K) := blk_cut hc
theorem g73loop {c x : Code} {K : Kon} (hc : c = .loop x) : g73X c K = aloop (g73X x) K big := loop_cut hc
theorem g73cond {c x y : Code} {K : Kon} {v : Operand} {F G : Env → St → Res} (hc : c = .cond v x y) (hx : g73X x K = F) (hy : g73X y K = G) : g73X c K = condF v F G := cond_cut hc hx hy
noncomputable def g73b111 (x0 : V) (x5 : V) (x6 : V) (st : St) : Res :=
 A.bin .add x6 x5 fun a1 =>
 A.sliceS x0 (some x6) (some a1) fun a2 =>
 A.bin .add x6 x5 fun a3 =>
 some (.ret (.tup [a2.er1, a3.er1, ((.int .i64 0) : V).er1]), st)
theorem g73e111 : g73X (g73C [1, 1, 1]) (g73kr) = fun env st => g73b111 (env 0) (env 5) (env 6) st := by
  refine Eq.trans (Eq.refl (g73X (g73C [1, 1, 1]) (g73kr))) ?_
  funext env st
  kernel_rfl
noncomputable def g73b11 (x0 : V) (x4 : V) (x5 : V) (x6 : V) (st : St) : Res :=
 A.eql 2 true x4 (.int .i64 0) fun a1 =>
 A.cond a1
 (some (.ret (.tup [((.str []) : V).er1, ((.int .i64 0) : V).er1, x4.er1]), st))
 (A.bin .gtr x5 (.int .i64 65536) fun a2 =>
 A.cond a2
 (some (.ret (.tup [((.str []) : V).er1, ((.int .i64 0) : V).er1, ((.int .i64 12) : V).er1]), st))
 (A.lenS x0 fun a3 =>
 A.bin .sub a3 x6 fun a4 =>
 A.bin .gtr x5 a4 fun a5 =>
 A.cond a5
 (some (.ret (.tup [((.str []) : V).er1, ((.int .i64 0) : V).er1, ((.int .i64 11) : V).er1]), st))
 (g73b111 x0 x5 x6 st)))
theorem g73n11 : g73C [1, 1] = .seq (g73C [1, 1, 0]) (g73C [1, 1, 1]) := by kernel_rfl
theorem g73e11 : g73X (g73C [1, 1]) (g73kr) = fun env st => g73b11 (env 0) (env 4) (env 5) (env 6) st := by
  refine Eq.trans (g73seq g73n11 (g73e111)) ?_
  funext env st
  kernel_rfl
noncomputable def f73 (x0 : V) (st : St) : Res :=
 A.ret (s63 [x0.er1] st) fun a1 z2 =>
 A.ext a1 0 fun a3 =>
 A.ext a1 1 fun a4 =>
 A.ext a1 2 fun a5 =>
 g73b11 x0 a5 a3 a4 z2
theorem g73nr : g73C [] = .seq (g73C [0]) (g73C [1]) := by kernel_rfl
theorem g73n1 : g73C [1] = .seq (g73C [1, 0]) (g73C [1, 1]) := by kernel_rfl
theorem g73er (env : Env) (st : St) : g73X (g73C []) g73kr env st = f73 (env 0) st := by
  rw [(g73seq g73nr (g73seq g73n1 (g73e11)))]
  kernel_rfl
theorem s73_eq (x0 : V) (st : St) : s73 [x0] st = f73 x0 st := by
  have h : afn Try.prog g73mu g73T big (areg Try.prog g73mu g73T) 73 [x0] st = g73X (g73C []) g73kr (fun t => [x0].getD t (.tup [])) st := by kernel_rfl
  rw [s73, sealF_eq]
  exact h.trans (g73er _ st)
/-! sinew/octet.List -/
def g65mu : Nat → Bool := fun _ => false
noncomputable def g65T : Tbl := tget [(63, s63), (73, s73)]
theorem g65t : SimT Try.prog g65T := simT_cons sim63 ( simT_cons sim73 (simT_nil))
noncomputable def s65 : Fn := sealF (fun args st => fg (afn Try.prog g65mu g65T big (areg Try.prog g65mu g65T) 65 args st) st)
theorem sim65 : Sim Try.prog 65 s65 := (afn_sim g65t (fun m => areg_sound g65t hmix m) 65 (by kernel_rfl)).fg.sealed
noncomputable def g65C (p : List Nat) : Code := sub (match Try.f65.body with | some c => c | none => .skip) p
noncomputable def g65X (c : Code) (K : Kon) : Env → St → Res := aexec Try.prog g65mu g65T big 44 (areg Try.prog g65mu g65T 44) c K
noncomputable def g65kr : Kon := aresK Try.prog Try.f65.results.toList
theorem g65reg {c : Code} {K : Kon} {G : Env → St → Res} {id : Nat} {ops : Array Oper} {l1 l2 : List Nat} (hc : c = .region id ops false) (hl : List.range ops.size = l1 ++ l2) (h : (fun env st => aops Try.prog g65mu g65T 44 ops l2 env st (K .normal)) = G) : g65X c K = fun env st => aops Try.prog g65mu g65T 44 ops l1 env st G := reg_cut hc hl h
theorem g65seq {c x y : Code} {K : Kon} {G : Env → St → Res} (hc : c = .seq x y) (hy : g65X y K = G) : g65X c K = g65X x (kSeq G K) := seq_cut hc hy
theorem g65blk {c x : Code} {K : Kon} {i : Nat} (hc : c = .block i x) : g65X c K = g65X x (kBlk i K) := blk_cut hc
theorem g65loop {c x : Code} {K : Kon} (hc : c = .loop x) : g65X c K = aloop (g65X x) K big := loop_cut hc
theorem g65cond {c x y : Code} {K : Kon} {v : Operand} {F G : Env → St → Res} (hc : c = .cond v x y) (hx : g65X x K = F) (hy : g65X y K = G) : g65X c K = condF v F G := cond_cut hc hx hy
noncomputable def g65k0 : Kon := kSeq (g65X (g65C [1, 1, 1, 1, 1]) (g65kr)) (g65kr)
noncomputable def g65k1 : Kon := kBlk 0 (g65k0)
noncomputable def g65k2 (L1111010 : V → V → V → V → V → St → Res) : Kon := kSeq (fun env st => L1111010 (env 0) (env 2) (env 3) (env 20) (env 21) st) (g65k1)
noncomputable def g65k3 (L1111010 : V → V → V → V → V → St → Res) : Kon := kSeq (g65X (g65C [1, 1, 1, 1, 0, 1, 0, 0, 1, 1, 1]) (g65k2 L1111010)) (g65k2 L1111010)
noncomputable def g65k4 (L1111010 : V → V → V → V → V → St → Res) : Kon := kBlk 1 (g65k3 L1111010)
noncomputable def g65b1111010011001 (L1111010 : V → V → V → V → V → St → Res) (x0 : V) (x2 : V) (x3 : V) (x6 : V) (x7 : V) (x8 : V) (x20 : V) (x21 : V) (st : St) : Res :=
 A.eql 2 true x8 (.int .i64 0) fun a1 =>
 A.cond a1
 (some (.ret (.tup [((.lst [] 1) : V).er1, ((.int .i64 0) : V).er1, x8.er1]), st))
 (A.bslice 1 (.str []) 1 [(0, x6)] fun a2 =>
 A.app 1 x2 (elemsOf 5 1 a2 st) st fun a3 z4 =>
 A.bin .add x3 x7 fun a5 =>
 A.bin .add x21 (.int .i64 1) fun a6 =>
 L1111010 x0 a3 a5 x20 a6 z4)
theorem g65e1111010011001 (L1111010 : V → V → V → V → V → St → Res) : g65X (g65C [1, 1, 1, 1, 0, 1, 0, 0, 1, 1, 0, 0, 1]) (g65k4 L1111010) = fun env st => g65b1111010011001 L1111010 (env 0) (env 2) (env 3) (env 6) (env 7) (env 8) (env 20) (env 21) st := by
  refine Eq.trans (Eq.refl (g65X (g65C [1, 1, 1, 1, 0, 1, 0, 0, 1, 1, 0, 0, 1]) (g65k4 L1111010))) ?_
  funext env st
  kernel_rfl
noncomputable def g65b1111010 : Nat → V → V → V → V → V → St → Res
| 0, _, _, _, _, _, _ => none
| n + 1, x0, x2, x3, x20, x21, st =>
 A.bin .lss x21 x20 fun a1 =>
 A.cond a1
 (A.sliceS x0 (some x3) none fun a2 =>
 A.ret (s73 [a2.er1] st) fun a3 z4 =>
 A.ext a3 0 fun a5 =>
 A.ext a3 1 fun a6 =>
 A.ext a3 2 fun a7 =>
 g65b1111010011001 (g65b1111010 n) x0 x2 x3 a5 a6 a7 x20 x21 z4)
 (some (.ret (.tup [x2.er1, x3.er1, ((.int .i64 0) : V).er1]), st))
theorem g65n1111010 : g65C [1, 1, 1, 1, 0, 1, 0] = .loop (g65C [1, 1, 1, 1, 0, 1, 0, 0]) := by kernel_rfl
theorem g65n11110100 : g65C [1, 1, 1, 1, 0, 1, 0, 0] = .seq (g65C [1, 1, 1, 1, 0, 1, 0, 0, 0]) (g65C [1, 1, 1, 1, 0, 1, 0, 0, 1]) := by kernel_rfl
theorem g65n111101001 : g65C [1, 1, 1, 1, 0, 1, 0, 0, 1] = .seq (g65C [1, 1, 1, 1, 0, 1, 0, 0, 1, 0]) (g65C [1, 1, 1, 1, 0, 1, 0, 0, 1, 1]) := by kernel_rfl
theorem g65n1111010011 : g65C [1, 1, 1, 1, 0, 1, 0, 0, 1, 1] = .seq (g65C [1, 1, 1, 1, 0, 1, 0, 0, 1, 1, 0]) (g65C [1, 1, 1, 1, 0, 1, 0, 0, 1, 1, 1]) := by kernel_rfl
theorem g65n11110100110 : g65C [1, 1, 1, 1, 0, 1, 0, 0, 1, 1, 0] = .block 1 (g65C [1, 1, 1, 1, 0, 1, 0, 0, 1, 1, 0, 0]) := by kernel_rfl
theorem g65n111101001100 : g65C [1, 1, 1, 1, 0, 1, 0, 0, 1, 1, 0, 0] = .seq (g65C [1, 1, 1, 1, 0, 1, 0, 0, 1, 1, 0, 0, 0]) (g65C [1, 1, 1, 1, 0, 1, 0, 0, 1, 1, 0, 0, 1]) := by kernel_rfl
theorem g65e1111010 : g65X (g65C [1, 1, 1, 1, 0, 1, 0]) (g65k1) = fun env st => g65b1111010 big (env 0) (env 2) (env 3) (env 20) (env 21) st := by
  have key : ∀ n, aloop (g65X (g65C [1, 1, 1, 1, 0, 1, 0, 0])) (g65k1) n = fun env st => g65b1111010 n (env 0) (env 2) (env 3) (env 20) (env 21) st := by
    intro n
    induction n with
    | zero => rfl
    | succ n ih =>
      have h : aloop (g65X (g65C [1, 1, 1, 1, 0, 1, 0, 0])) (g65k1) (n + 1) = g65X (g65C [1, 1, 1, 1, 0, 1, 0, 0]) (kSeq (aloop (g65X (g65C [1, 1, 1, 1, 0, 1, 0, 0])) (g65k1) n) (g65k1)) := rfl
      rw [h, ih]
      refine Eq.trans (g65seq g65n11110100 (g65seq g65n111101001 ((g65seq g65n1111010011 rfl).trans ((g65blk g65n11110100110).trans (g65seq g65n111101001100 (g65e1111010011001 (g65b1111010 n))))))) ?_
      funext env st
      kernel_rfl
  exact (g65loop g65n1111010).trans (key big)
noncomputable def g65b1111 (x0 : V) (x2 : V) (x3 : V) (x5 : V) (st : St) : Res :=
 g65b1111010 big x0 x2 x3 x5 (.int .i64 0) st
theorem g65n1111 : g65C [1, 1, 1, 1] = .seq (g65C [1, 1, 1, 1, 0]) (g65C [1, 1, 1, 1, 1]) := by kernel_rfl
theorem g65n11110 : g65C [1, 1, 1, 1, 0] = .seq (g65C [1, 1, 1, 1, 0, 0]) (g65C [1, 1, 1, 1, 0, 1]) := by kernel_rfl
theorem g65n111101 : g65C [1, 1, 1, 1, 0, 1] = .block 0 (g65C [1, 1, 1, 1, 0, 1, 0]) := by kernel_rfl
theorem g65e1111 : g65X (g65C [1, 1, 1, 1]) (g65kr) = fun env st => g65b1111 (env 0) (env 2) (env 3) (env 5) st := by
  refine Eq.trans ((g65seq g65n1111 rfl).trans (g65seq g65n11110 ((g65blk g65n111101).trans (g65e1111010)))) ?_
  funext env st
  kernel_rfl
noncomputable def g65b11 (x0 : V) (x2 : V) (x3 : V) (x4 : V) (x5 : V) (st : St) : Res :=
 A.eql 2 true x4 (.int .i64 0) fun a1 =>
 A.cond a1
 (some (.ret (.tup [((.lst [] 1) : V).er1, ((.int .i64 0) : V).er1, x4.er1]), st))
 (A.bin .gtr x5 (.int .i64 4096) fun a2 =>
 A.cond a2
 (some (.ret (.tup [((.lst [] 1) : V).er1, ((.int .i64 0) : V).er1, ((.int .i64 12) : V).er1]), st))
 (g65b1111 x0 x2 x3 x5 st))
theorem g65n11 : g65C [1, 1] = .seq (g65C [1, 1, 0]) (g65C [1, 1, 1]) := by kernel_rfl
theorem g65n111 : g65C [1, 1, 1] = .seq (g65C [1, 1, 1, 0]) (g65C [1, 1, 1, 1]) := by kernel_rfl
theorem g65e11 : g65X (g65C [1, 1]) (g65kr) = fun env st => g65b11 (env 0) (env 2) (env 3) (env 4) (env 5) st := by
  refine Eq.trans (g65seq g65n11 (g65seq g65n111 (g65e1111))) ?_
  funext env st
  kernel_rfl
noncomputable def f65 (x0 : V) (st : St) : Res :=
 A.ret (s63 [x0.er1] st) fun a1 z2 =>
 A.ext a1 0 fun a3 =>
 A.ext a1 1 fun a4 =>
 A.ext a1 2 fun a5 =>
 g65b11 x0 (.lst [] 1) a4 a5 a3 z2
theorem g65nr : g65C [] = .seq (g65C [0]) (g65C [1]) := by kernel_rfl
theorem g65n1 : g65C [1] = .seq (g65C [1, 0]) (g65C [1, 1]) := by kernel_rfl
theorem g65er (env : Env) (st : St) : g65X (g65C []) g65kr env st = f65 (env 0) st := by
  rw [(g65seq g65nr (g65seq g65n1 (g65e11)))]
  kernel_rfl
theorem s65_eq (x0 : V) (st : St) : s65 [x0] st = fg (f65 x0 st) st := by
  have h : afn Try.prog g65mu g65T big (areg Try.prog g65mu g65T) 65 [x0] st = g65X (g65C []) g65kr (fun t => [x0].getD t (.tup [])) st := by kernel_rfl
  rw [s65, sealF_eq]
  show fg _ st = fg _ st
  refine congrArg (fun r => fg r st) ?_
  exact h.trans (g65er _ st)
/-! sinew/wire.of$2 -/
def g64mu : Nat → Bool := fun _ => false
noncomputable def g64T : Tbl := tget [(65, s65)]
theorem g64t : SimT Try.prog g64T := simT_cons sim65 (simT_nil)
noncomputable def s64 : Fn := sealF (afn Try.prog g64mu g64T big (areg Try.prog g64mu g64T) 64)
theorem sim64 : Sim Try.prog 64 s64 := (afn_sim g64t (fun m => areg_sound g64t hmix m) 64 (by kernel_rfl)).sealed
noncomputable def g64C (p : List Nat) : Code := sub (match Try.f64.body with | some c => c | none => .skip) p
noncomputable def g64X (c : Code) (K : Kon) : Env → St → Res := aexec Try.prog g64mu g64T big 22 (areg Try.prog g64mu g64T 22) c K
noncomputable def g64kr : Kon := aresK Try.prog Try.f64.results.toList
theorem g64reg {c : Code} {K : Kon} {G : Env → St → Res} {id : Nat} {ops : Array Oper} {l1 l2 : List Nat} (hc : c = .region id ops false) (hl : List.range ops.size = l1 ++ l2) (h : (fun env st => aops Try.prog g64mu g64T 22 ops l2 env st (K .normal)) = G) : g64X c K = fun env st => aops Try.prog g64mu g64T 22 ops l1 env st G := reg_cut hc hl h
theorem g64seq {c x y : Code} {K : Kon} {G : Env → St → Res} (hc : c = .seq x y) (hy : g64X y K = G) : g64X c K = g64X x (kSeq G K) := seq_cut hc hy
theorem g64blk {c x : Code} {K : Kon} {i : Nat} (hc : c = .block i x) : g64X c K = g64X x (kBlk i K) := blk_cut hc
theorem g64loop {c x : Code} {K : Kon} (hc : c = .loop x) : g64X c K = aloop (g64X x) K big := loop_cut hc
theorem g64cond {c x y : Code} {K : Kon} {v : Operand} {F G : Env → St → Res} (hc : c = .cond v x y) (hx : g64X x K = F) (hy : g64X y K = G) : g64X c K = condF v F G := cond_cut hc hx hy
noncomputable def g64b111 (x0 : V) (x3 : V) (x4 : V) (st : St) : Res :=
 A.load false 1 x0 st fun a1 z2 =>
 A.sliceS a1 (some x4) none fun a3 =>
 A.store 1 x0 a3 z2 fun z4 =>
 some (.ret x3.er1, z4)
theorem g64e111 : g64X (g64C [1, 1, 1]) (g64kr) = fun env st => g64b111 (env 0) (env 3) (env 4) st := by
  refine Eq.trans (Eq.refl (g64X (g64C [1, 1, 1]) (g64kr))) ?_
  funext env st
  kernel_rfl
noncomputable def f64 (x0 : V) (x1 : V) (st : St) : Res :=
 A.load false 1 x0 st fun a1 z2 =>
 A.ret (s65 [a1.er1] z2) fun a3 z4 =>
 A.ext a3 0 fun a5 =>
 A.ext a3 1 fun a6 =>
 A.ext a3 2 fun a7 =>
 A.load false 1 x1 z4 fun a8 z9 =>
 A.un .not a8 fun a10 =>
 A.guard a10 false
 (A.eql 2 true a7 (.int .i64 0) fun a11 =>
 A.cond a11
 (A.store 1 x1 (.bool false) z9 fun z12 =>
 some (.ret ((.lst [] 1) : V).er1, z12))
 (g64b111 x0 a5 a6 z9))
 (A.store 1 x1 (.bool false) z9 fun z13 =>
 some (.ret ((.lst [] 1) : V).er1, z13))
theorem g64nr : g64C [] = .seq (g64C [0]) (g64C [1]) := by kernel_rfl
theorem g64n1 : g64C [1] = .seq (g64C [1, 0]) (g64C [1, 1]) := by kernel_rfl
theorem g64n11 : g64C [1, 1] = .seq (g64C [1, 1, 0]) (g64C [1, 1, 1]) := by kernel_rfl
theorem g64er (env : Env) (st : St) : g64X (g64C []) g64kr env st = f64 (env 0) (env 1) st := by
  rw [(g64seq g64nr (g64seq g64n1 (g64seq g64n11 (g64e111))))]
  kernel_rfl
theorem s64_eq (x0 : V) (x1 : V) (st : St) : s64 [x0, x1] st = f64 x0 x1 st := by
  have h : afn Try.prog g64mu g64T big (areg Try.prog g64mu g64T) 64 [x0, x1] st = g64X (g64C []) g64kr (fun t => [x0, x1].getD t (.tup [])) st := by kernel_rfl
  rw [s64, sealF_eq]
  exact h.trans (g64er _ st)
/-! sinew/wire.of -/
def g52mu : Nat → Bool := fun _ => false
noncomputable def g52T : Tbl := tget [(42, s42), (62, s62), (64, s64)]
theorem g52t : SimT Try.prog g52T := simT_cons sim42 ( simT_cons sim62 ( simT_cons sim64 (simT_nil)))
noncomputable def s52 : Fn := sealF (fun args st => fg (afn Try.prog g52mu g52T big (areg Try.prog g52mu g52T) 52 args st) st)
theorem sim52 : Sim Try.prog 52 s52 := (afn_sim g52t (fun m => areg_sound g52t hmix m) 52 (by kernel_rfl)).fg.sealed
noncomputable def g52C (p : List Nat) : Code := sub (match Try.f52.body with | some c => c | none => .skip) p
noncomputable def g52X (c : Code) (K : Kon) : Env → St → Res := aexec Try.prog g52mu g52T big 48 (areg Try.prog g52mu g52T 48) c K
noncomputable def g52kr : Kon := aresK Try.prog Try.f52.results.toList
theorem g52reg {c : Code} {K : Kon} {G : Env → St → Res} {id : Nat} {ops : Array Oper} {l1 l2 : List Nat} (hc : c = .region id ops false) (hl : List.range ops.size = l1 ++ l2) (h : (fun env st => aops Try.prog g52mu g52T 48 ops l2 env st (K .normal)) = G) : g52X c K = fun env st => aops Try.prog g52mu g52T 48 ops l1 env st G := reg_cut hc hl h
theorem g52seq {c x y : Code} {K : Kon} {G : Env → St → Res} (hc : c = .seq x y) (hy : g52X y K = G) : g52X c K = g52X x (kSeq G K) := seq_cut hc hy
theorem g52blk {c x : Code} {K : Kon} {i : Nat} (hc : c = .block i x) : g52X c K = g52X x (kBlk i K) := blk_cut hc
theorem g52loop {c x : Code} {K : Kon} (hc : c = .loop x) : g52X c K = aloop (g52X x) K big := loop_cut hc
theorem g52cond {c x y : Code} {K : Kon} {v : Operand} {F G : Env → St → Res} (hc : c = .cond v x y) (hx : g52X x K = F) (hy : g52X y K = G) : g52X c K = condF v F G := cond_cut hc hx hy
noncomputable def g52k0 : Kon := kSeq (g52X (g52C [1, 1, 1, 1, 1, 1, 1, 1]) (g52kr)) (g52kr)
noncomputable def g52k1 : Kon := kBlk 2 (g52k0)
noncomputable def g52b1111111010 : Nat → V → V → V → V → V → V → St → Res
| 0, _, _, _, _, _, _, _ => none
| n + 1, x1, x2, x3, x5, x27, x28, st =>
 A.bin .lss x28 x27 fun a1 =>
 A.cond a1
 (A.faddr 3 x2 fun a2 =>
 A.load false 1 a2 st fun a3 _ =>
 A.ret (A.call g52T x5 [] st kid) fun a4 z5 =>
 A.chk (ldv false 1 a2 z5) a3
 (A.bslice 1 (.lst [] 1) 1 [(0, a4)] fun a6 =>
 A.ret (A.app 1 a3 (elemsOf 5 1 a6 z5) z5 kid) fun a7 z8 =>
 A.faddr 3 x2 fun a9 =>
 A.ret (A.store 1 a9 a7 z8 fun s => kid (.tup []) s) fun a10 z11 =>
 A.bin .add x28 (.int .i64 1) fun a12 =>
 (g52b1111111010 n) x1 x2 x3 x5 x27 a12 z11))
 (A.load true 4 x2 st fun a13 _ =>
 A.load false 1 x3 st fun a14 _ =>
 A.guard a14 true
 (A.load false 1 x1 st fun a15 _ =>
 A.eql 3 false a15 (.str []) fun a16 =>
 A.guard a16 true
 (A.load true 4 x2 st fun a17 _ =>
 A.ret (A.ret (s42 [a17.er1] st) kid) fun a18 z19 =>
 A.chk (ldv true 4 x2 z19) a13
 (A.ret (A.store 4 x2 a13 z19 fun s => kid (.tup []) s) fun a20 z21 =>
 A.ret (A.store 1 x3 a18 z21 fun s => kid (.tup []) s) fun a22 z23 =>
 A.res (rcell (A.load true 4 x2 z23 kid) (rcell (A.load false 1 x3 z23 kid) (some []))) z23))
 (A.ret (A.store 4 x2 a13 st fun s => kid (.tup []) s) fun a24 z25 =>
 A.ret (A.store 1 x3 (.bool false) z25 fun s => kid (.tup []) s) fun a26 z27 =>
 A.res (rcell (A.load true 4 x2 z27 kid) (rcell (A.load false 1 x3 z27 kid) (some []))) z27))
 (A.ret (A.store 4 x2 a13 st fun s => kid (.tup []) s) fun a28 z29 =>
 A.ret (A.store 1 x3 (.bool false) z29 fun s => kid (.tup []) s) fun a30 z31 =>
 A.res (rcell (A.load true 4 x2 z31 kid) (rcell (A.load false 1 x3 z31 kid) (some []))) z31))
theorem g52n1111111010 : g52C [1, 1, 1, 1, 1, 1, 1, 0, 1, 0] = .loop (g52C [1, 1, 1, 1, 1, 1, 1, 0, 1, 0, 0]) := by kernel_rfl
noncomputable def g52k2 (L1111111010 : V → V → V → V → V → V → St → Res) : Kon := kSeq (fun env st => L1111111010 (env 1) (env 2) (env 3) (env 5) (env 27) (env 28) st) (g52k1)
theorem g52e1111111010 : g52X (g52C [1, 1, 1, 1, 1, 1, 1, 0, 1, 0]) (g52k1) = fun env st => g52b1111111010 big (env 1) (env 2) (env 3) (env 5) (env 27) (env 28) st := by
  have key : ∀ n, aloop (g52X (g52C [1, 1, 1, 1, 1, 1, 1, 0, 1, 0, 0])) (g52k1) n = fun env st => g52b1111111010 n (env 1) (env 2) (env 3) (env 5) (env 27) (env 28) st := by
    intro n
    induction n with
    | zero => rfl
    | succ n ih =>
      have h : aloop (g52X (g52C [1, 1, 1, 1, 1, 1, 1, 0, 1, 0, 0])) (g52k1) (n + 1) = g52X (g52C [1, 1, 1, 1, 1, 1, 1, 0, 1, 0, 0]) (kSeq (aloop (g52X (g52C [1, 1, 1, 1, 1, 1, 1, 0, 1, 0, 0])) (g52k1) n) (g52k1)) := rfl
      rw [h, ih]
      refine Eq.trans (Eq.refl _) ?_
      funext env st
      kernel_rfl
  exact (g52loop g52n1111111010).trans (key big)
noncomputable def g52b111111 (x1 : V) (x2 : V) (x3 : V) (x4 : V) (x5 : V) (st : St) : Res :=
 A.call g52T x5 [] st fun a1 z2 =>
 A.faddr 2 x2 fun a3 =>
 A.store 1 a3 a1 z2 fun z4 =>
 A.call g52T x4 [(.int .i64 4096)] z4 fun a5 z6 =>
 g52b1111111010 big x1 x2 x3 x5 a5 (.int .i64 0) z6
theorem g52n111111 : g52C [1, 1, 1, 1, 1, 1] = .seq (g52C [1, 1, 1, 1, 1, 1, 0]) (g52C [1, 1, 1, 1, 1, 1, 1]) := by kernel_rfl
theorem g52n1111111 : g52C [1, 1, 1, 1, 1, 1, 1] = .seq (g52C [1, 1, 1, 1, 1, 1, 1, 0]) (g52C [1, 1, 1, 1, 1, 1, 1, 1]) := by kernel_rfl
theorem g52n11111110 : g52C [1, 1, 1, 1, 1, 1, 1, 0] = .seq (g52C [1, 1, 1, 1, 1, 1, 1, 0, 0]) (g52C [1, 1, 1, 1, 1, 1, 1, 0, 1]) := by kernel_rfl
theorem g52n111111101 : g52C [1, 1, 1, 1, 1, 1, 1, 0, 1] = .block 2 (g52C [1, 1, 1, 1, 1, 1, 1, 0, 1, 0]) := by kernel_rfl
theorem g52e111111 : g52X (g52C [1, 1, 1, 1, 1, 1]) (g52kr) = fun env st => g52b111111 (env 1) (env 2) (env 3) (env 4) (env 5) st := by
  refine Eq.trans (g52seq g52n111111 ((g52seq g52n1111111 rfl).trans (g52seq g52n11111110 ((g52blk g52n111111101).trans (g52e1111111010))))) ?_
  funext env st
  kernel_rfl
noncomputable def g52k3 : Kon := kSeq (fun env st => g52b111111 (env 1) (env 2) (env 3) (env 4) (env 5) st) (g52kr)
noncomputable def g52k4 : Kon := kBlk 0 (g52k3)
noncomputable def g52b11111010 : Nat → V → V → V → V → V → V → V → St → Res
| 0, _, _, _, _, _, _, _, _ => none
| n + 1, x1, x2, x3, x4, x5, x12, x13, st =>
 A.bin .lss x13 x12 fun a1 =>
 A.cond a1
 (A.faddr 1 x2 fun a2 =>
 A.load false 1 a2 st fun a3 _ =>
 A.ret (A.call g52T x4 [(.int .i64 4611686018427387903)] st kid) fun a4 z5 =>
 A.chk (ldv false 1 a2 z5) a3
 (A.bslice 1 (.int .i64 0) 1 [(0, a4)] fun a6 =>
 A.ret (A.app 1 a3 (elemsOf 5 1 a6 z5) z5 kid) fun a7 z8 =>
 A.faddr 1 x2 fun a9 =>
 A.ret (A.store 1 a9 a7 z8 fun s => kid (.tup []) s) fun a10 z11 =>
 A.bin .add x13 (.int .i64 1) fun a12 =>
 (g52b11111010 n) x1 x2 x3 x4 x5 x12 a12 z11))
 (g52b111111 x1 x2 x3 x4 x5 st)
theorem g52n11111010 : g52C [1, 1, 1, 1, 1, 0, 1, 0] = .loop (g52C [1, 1, 1, 1, 1, 0, 1, 0, 0]) := by kernel_rfl
noncomputable def g52k5 (L11111010 : V → V → V → V → V → V → V → St → Res) : Kon := kSeq (fun env st => L11111010 (env 1) (env 2) (env 3) (env 4) (env 5) (env 12) (env 13) st) (g52k4)
theorem g52e11111010 : g52X (g52C [1, 1, 1, 1, 1, 0, 1, 0]) (g52k4) = fun env st => g52b11111010 big (env 1) (env 2) (env 3) (env 4) (env 5) (env 12) (env 13) st := by
  have key : ∀ n, aloop (g52X (g52C [1, 1, 1, 1, 1, 0, 1, 0, 0])) (g52k4) n = fun env st => g52b11111010 n (env 1) (env 2) (env 3) (env 4) (env 5) (env 12) (env 13) st := by
    intro n
    induction n with
    | zero => rfl
    | succ n ih =>
      have h : aloop (g52X (g52C [1, 1, 1, 1, 1, 0, 1, 0, 0])) (g52k4) (n + 1) = g52X (g52C [1, 1, 1, 1, 1, 0, 1, 0, 0]) (kSeq (aloop (g52X (g52C [1, 1, 1, 1, 1, 0, 1, 0, 0])) (g52k4) n) (g52k4)) := rfl
      rw [h, ih]
      refine Eq.trans (Eq.refl _) ?_
      funext env st
      kernel_rfl
  exact (g52loop g52n11111010).trans (key big)
noncomputable def g52b11111 (x1 : V) (x2 : V) (x3 : V) (x4 : V) (x5 : V) (st : St) : Res :=
 A.call g52T x4 [(.int .i64 64)] st fun a1 z2 =>
 g52b11111010 big x1 x2 x3 x4 x5 a1 (.int .i64 0) z2
theorem g52n11111 : g52C [1, 1, 1, 1, 1] = .seq (g52C [1, 1, 1, 1, 1, 0]) (g52C [1, 1, 1, 1, 1, 1]) := by kernel_rfl
theorem g52n111110 : g52C [1, 1, 1, 1, 1, 0] = .seq (g52C [1, 1, 1, 1, 1, 0, 0]) (g52C [1, 1, 1, 1, 1, 0, 1]) := by kernel_rfl
theorem g52n1111101 : g52C [1, 1, 1, 1, 1, 0, 1] = .block 0 (g52C [1, 1, 1, 1, 1, 0, 1, 0]) := by kernel_rfl
theorem g52e11111 : g52X (g52C [1, 1, 1, 1, 1]) (g52kr) = fun env st => g52b11111 (env 1) (env 2) (env 3) (env 4) (env 5) st := by
  refine Eq.trans ((g52seq g52n11111 (g52e111111)).trans (g52seq g52n111110 ((g52blk g52n1111101).trans (g52e11111010)))) ?_
  funext env st
  kernel_rfl
noncomputable def f52 (x0 : V) (st : St) : Res :=
 A.box x0 st fun a1 z2 =>
 A.box (.agg [(.int .i64 0), (.lst [] 1), (.lst [] 1), (.lst [] 1)]) z2 fun a3 z4 =>
 A.box (.bool false) z4 fun a5 z6 =>
 A.store 1 a5 (.bool true) z6 fun z7 =>
 A.call g52T (.fn 62 [] [a1, a5]) [(.int .i64 255)] z7 fun a8 z9 =>
 A.faddr 0 a3 fun a10 =>
 A.store 1 a10 a8 z9 fun z11 =>
 g52b11111 a1 a3 a5 (.fn 62 [] [a1, a5]) (.fn 64 [] [a1, a5]) z11
theorem g52nr : g52C [] = .seq (g52C [0]) (g52C [1]) := by kernel_rfl
theorem g52n1 : g52C [1] = .seq (g52C [1, 0]) (g52C [1, 1]) := by kernel_rfl
theorem g52n11 : g52C [1, 1] = .seq (g52C [1, 1, 0]) (g52C [1, 1, 1]) := by kernel_rfl
theorem g52n111 : g52C [1, 1, 1] = .seq (g52C [1, 1, 1, 0]) (g52C [1, 1, 1, 1]) := by kernel_rfl
theorem g52n1111 : g52C [1, 1, 1, 1] = .seq (g52C [1, 1, 1, 1, 0]) (g52C [1, 1, 1, 1, 1]) := by kernel_rfl
theorem g52er (env : Env) (st : St) : g52X (g52C []) g52kr env st = f52 (env 0) st := by
  rw [(g52seq g52nr (g52seq g52n1 (g52seq g52n11 (g52seq g52n111 (g52seq g52n1111 (g52e11111))))))]
  kernel_rfl
theorem s52_eq (x0 : V) (st : St) : s52 [x0] st = fg (f52 x0 st) st := by
  have h : afn Try.prog g52mu g52T big (areg Try.prog g52mu g52T) 52 [x0] st = g52X (g52C []) g52kr (fun t => [x0].getD t (.tup [])) st := by kernel_rfl
  rw [s52, sealF_eq]
  show fg _ st = fg _ st
  refine congrArg (fun r => fg r st) ?_
  exact h.trans (g52er _ st)
/-! sinew/wire.Unpack -/
def g36mu : Nat → Bool := fun _ => false
noncomputable def g36T : Tbl := tget [(35, s35), (51, s51), (52, s52)]
theorem g36t : SimT Try.prog g36T := simT_cons sim35 ( simT_cons sim51 ( simT_cons sim52 (simT_nil)))
noncomputable def s36 : Fn := sealF (fun args st => fg (afn Try.prog g36mu g36T big (areg Try.prog g36mu g36T) 36 args st) st)
theorem sim36 : Sim Try.prog 36 s36 := (afn_sim g36t (fun m => areg_sound g36t hmix m) 36 (by kernel_rfl)).fg.sealed
noncomputable def g36C (p : List Nat) : Code := sub (match Try.f36.body with | some c => c | none => .skip) p
noncomputable def g36X (c : Code) (K : Kon) : Env → St → Res := aexec Try.prog g36mu g36T big 45 (areg Try.prog g36mu g36T 45) c K
noncomputable def g36kr : Kon := aresK Try.prog Try.f36.results.toList
theorem g36reg {c : Code} {K : Kon} {G : Env → St → Res} {id : Nat} {ops : Array Oper} {l1 l2 : List Nat} (hc : c = .region id ops false) (hl : List.range ops.size = l1 ++ l2) (h : (fun env st => aops Try.prog g36mu g36T 45 ops l2 env st (K .normal)) = G) : g36X c K = fun env st => aops Try.prog g36mu g36T 45 ops l1 env st G := reg_cut hc hl h
theorem g36seq {c x y : Code} {K : Kon} {G : Env → St → Res} (hc : c = .seq x y) (hy : g36X y K = G) : g36X c K = g36X x (kSeq G K) := seq_cut hc hy
theorem g36blk {c x : Code} {K : Kon} {i : Nat} (hc : c = .block i x) : g36X c K = g36X x (kBlk i K) := blk_cut hc
theorem g36loop {c x : Code} {K : Kon} (hc : c = .loop x) : g36X c K = aloop (g36X x) K big := loop_cut hc
theorem g36cond {c x y : Code} {K : Kon} {v : Operand} {F G : Env → St → Res} (hc : c = .cond v x y) (hx : g36X x K = F) (hy : g36X y K = G) : g36X c K = condF v F G := cond_cut hc hx hy
noncomputable def g36k0 : Kon := kSeq (g36X (g36C [1, 1, 1, 1, 1, 1]) (g36kr)) (g36kr)
noncomputable def g36b1111101 (x2 : V) (x3 : V) (x41 : V) (st : St) : Res :=
 A.cond x41
 (A.build [(.int .i64 0), (.lst [] 1), (.lst [] 1), (.lst [] 1)] [] fun a1 =>
 A.store 4 x2 a1 st fun z2 =>
 A.res (rcell (A.load true 4 x2 z2 kid) (rtmp (.int .i64 0) (rtmp (.int .i64 31) (some [])))) z2)
 (A.load true 4 x2 st fun a3 z4 =>
 A.store 4 x2 a3 z4 fun z5 =>
 A.res (rcell (A.load true 4 x2 z5 kid) (rtmp x3 (rtmp (.int .i64 0) (some [])))) z5)
theorem g36e1111101 : g36X (g36C [1, 1, 1, 1, 1, 0, 1]) (g36k0) = fun env st => g36b1111101 (env 2) (env 3) (env 41) st := by
  refine Eq.trans (Eq.refl (g36X (g36C [1, 1, 1, 1, 1, 0, 1]) (g36k0))) ?_
  funext env st
  kernel_rfl
noncomputable def g36b1111 (x0 : V) (x2 : V) (x3 : V) (st : St) : Res :=
 A.sliceS x0 (some (.int .i64 8)) (some x3) fun a1 =>
 A.ret (s52 [a1.er1] st) fun a2 z3 =>
 A.ext a2 0 fun a4 =>
 A.ext a2 1 fun a5 =>
 A.store 4 x2 a4 z3 fun z6 =>
 A.un .not a5 fun a7 =>
 g36b1111101 x2 x3 a7 z6
theorem g36n1111 : g36C [1, 1, 1, 1] = .seq (g36C [1, 1, 1, 1, 0]) (g36C [1, 1, 1, 1, 1]) := by kernel_rfl
theorem g36n11111 : g36C [1, 1, 1, 1, 1] = .seq (g36C [1, 1, 1, 1, 1, 0]) (g36C [1, 1, 1, 1, 1, 1]) := by kernel_rfl
theorem g36n111110 : g36C [1, 1, 1, 1, 1, 0] = .seq (g36C [1, 1, 1, 1, 1, 0, 0]) (g36C [1, 1, 1, 1, 1, 0, 1]) := by kernel_rfl
theorem g36e1111 : g36X (g36C [1, 1, 1, 1]) (g36kr) = fun env st => g36b1111 (env 0) (env 2) (env 3) st := by
  refine Eq.trans (g36seq g36n1111 ((g36seq g36n11111 rfl).trans (g36seq g36n111110 (g36e1111101)))) ?_
  funext env st
  kernel_rfl
noncomputable def g36k1 : Kon := kSeq (fun env st => g36b1111 (env 0) (env 2) (env 3) st) (g36kr)
noncomputable def g36k2 : Kon := kBlk 0 (g36k1)
noncomputable def g36b1110011111 (x0 : V) (x2 : V) (x3 : V) (x23 : V) (st : St) : Res :=
 A.cond x23
 (A.build [(.int .i64 0), (.lst [] 1), (.lst [] 1), (.lst [] 1)] [] fun a1 =>
 A.store 4 x2 a1 st fun z2 =>
 A.res (rcell (A.load true 4 x2 z2 kid) (rtmp (.int .i64 0) (rtmp (.int .i64 30) (some [])))) z2)
 (g36b1111 x0 x2 x3 st)
theorem g36e1110011111 : g36X (g36C [1, 1, 1, 0, 0, 1, 1, 1, 1, 1]) (g36k2) = fun env st => g36b1110011111 (env 0) (env 2) (env 3) (env 23) st := by
  refine Eq.trans (Eq.refl (g36X (g36C [1, 1, 1, 0, 0, 1, 1, 1, 1, 1]) (g36k2))) ?_
  funext env st
  kernel_rfl
noncomputable def g36b111 (x0 : V) (x2 : V) (x3 : V) (st : St) : Res :=
 A.bin .gtr x3 (.int .i64 1048584) fun a1 =>
 A.cond a1
 (A.build [(.int .i64 0), (.lst [] 1), (.lst [] 1), (.lst [] 1)] [] fun a2 =>
 A.store 4 x2 a2 st fun z3 =>
 A.res (rcell (A.load true 4 x2 z3 kid) (rtmp (.int .i64 0) (rtmp (.int .i64 31) (some [])))) z3)
 (A.lenS x0 fun a4 =>
 A.bin .gtr x3 a4 fun a5 =>
 A.cond a5
 (A.build [(.int .i64 0), (.lst [] 1), (.lst [] 1), (.lst [] 1)] [] fun a6 =>
 A.store 4 x2 a6 st fun z7 =>
 A.res (rcell (A.load true 4 x2 z7 kid) (rtmp (.int .i64 0) (rtmp (.int .i64 11) (some [])))) z7)
 (A.sliceS x0 (some (.int .i64 8)) (some x3) fun a8 =>
 A.noP (A.ret (s35 [a8.er1] st) kid) fun a9 z10 =>
 A.sliceS x0 (some (.int .i64 4)) none fun a11 =>
 A.ret (A.ret (s51 [a11.er1] z10) kid) fun a12 z13 =>
 A.eql 2 true a9 a12 fun a14 =>
 g36b1110011111 x0 x2 x3 a14 z13))
theorem g36n111 : g36C [1, 1, 1] = .seq (g36C [1, 1, 1, 0]) (g36C [1, 1, 1, 1]) := by kernel_rfl
theorem g36n1110 : g36C [1, 1, 1, 0] = .block 0 (g36C [1, 1, 1, 0, 0]) := by kernel_rfl
theorem g36n11100 : g36C [1, 1, 1, 0, 0] = .seq (g36C [1, 1, 1, 0, 0, 0]) (g36C [1, 1, 1, 0, 0, 1]) := by kernel_rfl
theorem g36n111001 : g36C [1, 1, 1, 0, 0, 1] = .cond (.tmp 13) (g36C [1, 1, 1, 0, 0, 1, 0]) (g36C [1, 1, 1, 0, 0, 1, 1]) := by kernel_rfl
theorem g36n1110011 : g36C [1, 1, 1, 0, 0, 1, 1] = .seq (g36C [1, 1, 1, 0, 0, 1, 1, 0]) (g36C [1, 1, 1, 0, 0, 1, 1, 1]) := by kernel_rfl
theorem g36n11100111 : g36C [1, 1, 1, 0, 0, 1, 1, 1] = .cond (.tmp 17) (g36C [1, 1, 1, 0, 0, 1, 1, 1, 0]) (g36C [1, 1, 1, 0, 0, 1, 1, 1, 1]) := by kernel_rfl
theorem g36n111001111 : g36C [1, 1, 1, 0, 0, 1, 1, 1, 1] = .seq (g36C [1, 1, 1, 0, 0, 1, 1, 1, 1, 0]) (g36C [1, 1, 1, 0, 0, 1, 1, 1, 1, 1]) := by kernel_rfl
theorem g36e111 : g36X (g36C [1, 1, 1]) (g36kr) = fun env st => g36b111 (env 0) (env 2) (env 3) st := by
  refine Eq.trans ((g36seq g36n111 (g36e1111)).trans ((g36blk g36n1110).trans (g36seq g36n11100 (g36cond g36n111001 rfl (g36seq g36n1110011 (g36cond g36n11100111 rfl (g36seq g36n111001111 (g36e1110011111)))))))) ?_
  funext env st
  kernel_rfl
noncomputable def f36 (x0 : V) (st : St) : Res :=
 A.box (.agg [(.int .i64 0), (.lst [] 1), (.lst [] 1), (.lst [] 1)]) st fun a1 z2 =>
 A.lenS x0 fun a3 =>
 A.bin .lss a3 (.int .i64 8) fun a4 =>
 A.cond a4
 (A.build [(.int .i64 0), (.lst [] 1), (.lst [] 1), (.lst [] 1)] [] fun a5 =>
 A.store 4 a1 a5 z2 fun z6 =>
 A.res (rcell (A.load true 4 a1 z6 kid) (rtmp (.int .i64 0) (rtmp (.int .i64 11) (some [])))) z6)
 (A.ret (s51 [x0.er1] z2) fun a7 z8 =>
 A.bin .add (.int .i64 8) a7 fun a9 =>
 g36b111 x0 a1 a9 z8)
theorem g36nr : g36C [] = .seq (g36C [0]) (g36C [1]) := by kernel_rfl
theorem g36n1 : g36C [1] = .seq (g36C [1, 0]) (g36C [1, 1]) := by kernel_rfl
theorem g36n11 : g36C [1, 1] = .seq (g36C [1, 1, 0]) (g36C [1, 1, 1]) := by kernel_rfl
theorem g36er (env : Env) (st : St) : g36X (g36C []) g36kr env st = f36 (env 0) st := by
  rw [(g36seq g36nr (g36seq g36n1 (g36seq g36n11 (g36e111))))]
  kernel_rfl
theorem s36_eq (x0 : V) (st : St) : s36 [x0] st = fg (f36 x0 st) st := by
  have h : afn Try.prog g36mu g36T big (areg Try.prog g36mu g36T) 36 [x0] st = g36X (g36C []) g36kr (fun t => [x0].getD t (.tup [])) st := by kernel_rfl
  rw [s36, sealF_eq]
  show fg _ st = fg _ st
  refine congrArg (fun r => fg r st) ?_
  exact h.trans (g36er _ st)
/-! sinew/wire.All -/
def g24mu : Nat → Bool := fun _ => false
noncomputable def g24T : Tbl := tget [(36, s36)]
theorem g24t : SimT Try.prog g24T := simT_cons sim36 (simT_nil)
noncomputable def s24 : Fn := sealF (fun args st => fg (afn Try.prog g24mu g24T big (areg Try.prog g24mu g24T) 24 args st) st)
theorem sim24 : Sim Try.prog 24 s24 := (afn_sim g24t (fun m => areg_sound g24t hmix m) 24 (by kernel_rfl)).fg.sealed
noncomputable def g24C (p : List Nat) : Code := sub (match Try.f24.body with | some c => c | none => .skip) p
noncomputable def g24X (c : Code) (K : Kon) : Env → St → Res := aexec Try.prog g24mu g24T big 26 (areg Try.prog g24mu g24T 26) c K
noncomputable def g24kr : Kon := aresK Try.prog Try.f24.results.toList
theorem g24reg {c : Code} {K : Kon} {G : Env → St → Res} {id : Nat} {ops : Array Oper} {l1 l2 : List Nat} (hc : c = .region id ops false) (hl : List.range ops.size = l1 ++ l2) (h : (fun env st => aops Try.prog g24mu g24T 26 ops l2 env st (K .normal)) = G) : g24X c K = fun env st => aops Try.prog g24mu g24T 26 ops l1 env st G := reg_cut hc hl h
theorem g24seq {c x y : Code} {K : Kon} {G : Env → St → Res} (hc : c = .seq x y) (hy : g24X y K = G) : g24X c K = g24X x (kSeq G K) := seq_cut hc hy
theorem g24blk {c x : Code} {K : Kon} {i : Nat} (hc : c = .block i x) : g24X c K = g24X x (kBlk i K) := blk_cut hc
theorem g24loop {c x : Code} {K : Kon} (hc : c = .loop x) : g24X c K = aloop (g24X x) K big := loop_cut hc
theorem g24cond {c x y : Code} {K : Kon} {v : Operand} {F G : Env → St → Res} (hc : c = .cond v x y) (hx : g24X x K = F) (hy : g24X y K = G) : g24X c K = condF v F G := cond_cut hc hx hy
noncomputable def g24k0 : Kon := kBlk 0 (g24kr)
noncomputable def g24k1 (L10 : V → V → V → St → Res) : Kon := kSeq (fun env st => L10 (env 0) (env 2) (env 3) st) (g24k0)
noncomputable def g24k2 (L10 : V → V → V → St → Res) : Kon := kBlk 1 (g24k1 L10)
noncomputable def g24b10001 (L10 : V → V → V → St → Res) (x0 : V) (x2 : V) (x3 : V) (x4 : V) (x5 : V) (x6 : V) (st : St) : Res :=
 A.eql 2 true x6 (.int .i64 0) fun a1 =>
 A.cond a1
 (some (.ret (.tup [x2.er1, x3.er1]), st))
 (A.load true 4 x4 st fun a2 z3 =>
 A.bslice 4 (.agg [(.int .i64 0), (.lst [] 1), (.lst [] 1), (.lst [] 1)]) 1 [(0, a2)] fun a4 =>
 A.app 4 x2 (elemsOf 5 4 a4 z3) z3 fun a5 z6 =>
 A.bin .add x3 x5 fun a7 =>
 L10 x0 a5 a7 z6)
theorem g24e10001 (L10 : V → V → V → St → Res) : g24X (g24C [1, 0, 0, 0, 1]) (g24k2 L10) = fun env st => g24b10001 L10 (env 0) (env 2) (env 3) (env 4) (env 5) (env 6) st := by
  refine Eq.trans (Eq.refl (g24X (g24C [1, 0, 0, 0, 1]) (g24k2 L10))) ?_
  funext env st
  kernel_rfl
noncomputable def g24b10 : Nat → V → V → V → St → Res
| 0, _, _, _, _ => none
| n + 1, x0, x2, x3, st =>
 A.sliceS x0 (some x3) none fun a1 =>
 A.ret (s36 [a1.er1] st) fun a2 z3 =>
 A.ext a2 0 fun a4 =>
 A.ext a2 1 fun a5 =>
 A.ext a2 2 fun a6 =>
 A.box (.agg [(.int .i64 0), (.lst [] 1), (.lst [] 1), (.lst [] 1)]) z3 fun a7 z8 =>
 A.store 4 a7 a4 z8 fun z9 =>
 g24b10001 (g24b10 n) x0 x2 x3 a7 a5 a6 z9
theorem g24n10 : g24C [1, 0] = .loop (g24C [1, 0, 0]) := by kernel_rfl
theorem g24n100 : g24C [1, 0, 0] = .block 1 (g24C [1, 0, 0, 0]) := by kernel_rfl
theorem g24n1000 : g24C [1, 0, 0, 0] = .seq (g24C [1, 0, 0, 0, 0]) (g24C [1, 0, 0, 0, 1]) := by kernel_rfl
theorem g24e10 : g24X (g24C [1, 0]) (g24k0) = fun env st => g24b10 big (env 0) (env 2) (env 3) st := by
  have key : ∀ n, aloop (g24X (g24C [1, 0, 0])) (g24k0) n = fun env st => g24b10 n (env 0) (env 2) (env 3) st := by
    intro n
    induction n with
    | zero => rfl
    | succ n ih =>
      have h : aloop (g24X (g24C [1, 0, 0])) (g24k0) (n + 1) = g24X (g24C [1, 0, 0]) (kSeq (aloop (g24X (g24C [1, 0, 0])) (g24k0) n) (g24k0)) := rfl
      rw [h, ih]
      refine Eq.trans ((g24blk g24n100).trans (g24seq g24n1000 (g24e10001 (g24b10 n)))) ?_
      funext env st
      kernel_rfl
  exact (g24loop g24n10).trans (key big)
noncomputable def f24 (x0 : V) (st : St) : Res :=
 g24b10 big x0 (.lst [] 1) (.int .i64 0) st
theorem g24nr : g24C [] = .seq (g24C [0]) (g24C [1]) := by kernel_rfl
theorem g24n1 : g24C [1] = .block 0 (g24C [1, 0]) := by kernel_rfl
theorem g24er (env : Env) (st : St) : g24X (g24C []) g24kr env st = f24 (env 0) st := by
  rw [(g24seq g24nr ((g24blk g24n1).trans (g24e10)))]
  kernel_rfl
theorem s24_eq (x0 : V) (st : St) : s24 [x0] st = fg (f24 x0 st) st := by
  have h : afn Try.prog g24mu g24T big (areg Try.prog g24mu g24T) 24 [x0] st = g24X (g24C []) g24kr (fun t => [x0].getD t (.tup [])) st := by kernel_rfl
  rw [s24, sealF_eq]
  show fg _ st = fg _ st
  refine congrArg (fun r => fg r st) ?_
  exact h.trans (g24er _ st)
/-! (*sinew/journal.Journal).Fail -/
def g14mu : Nat → Bool := fun _ => false
noncomputable def g14T : Tbl := tget [(13, s13), (23, s23), (24, s24)]
theorem g14t : SimT Try.prog g14T := simT_cons sim13 ( simT_cons sim23 ( simT_cons sim24 (simT_nil)))
noncomputable def s14 : Fn := sealF (afn Try.prog g14mu g14T big (areg Try.prog g14mu g14T) 14)
theorem sim14 : Sim Try.prog 14 s14 := (afn_sim g14t (fun m => areg_sound g14t hmix m) 14 (by kernel_rfl)).sealed
noncomputable def g14C (p : List Nat) : Code := sub (match Try.f14.body with | some c => c | none => .skip) p
noncomputable def g14X (c : Code) (K : Kon) : Env → St → Res := aexec Try.prog g14mu g14T big 52 (areg Try.prog g14mu g14T 52) c K
noncomputable def g14kr : Kon := aresK Try.prog Try.f14.results.toList
theorem g14reg {c : Code} {K : Kon} {G : Env → St → Res} {id : Nat} {ops : Array Oper} {l1 l2 : List Nat} (hc : c = .region id ops false) (hl : List.range ops.size = l1 ++ l2) (h : (fun env st => aops Try.prog g14mu g14T 52 ops l2 env st (K .normal)) = G) : g14X c K = fun env st => aops Try.prog g14mu g14T 52 ops l1 env st G := reg_cut hc hl h
theorem g14seq {c x y : Code} {K : Kon} {G : Env → St → Res} (hc : c = .seq x y) (hy : g14X y K = G) : g14X c K = g14X x (kSeq G K) := seq_cut hc hy
theorem g14blk {c x : Code} {K : Kon} {i : Nat} (hc : c = .block i x) : g14X c K = g14X x (kBlk i K) := blk_cut hc
theorem g14loop {c x : Code} {K : Kon} (hc : c = .loop x) : g14X c K = aloop (g14X x) K big := loop_cut hc
theorem g14cond {c x y : Code} {K : Kon} {v : Operand} {F G : Env → St → Res} (hc : c = .cond v x y) (hx : g14X x K = F) (hy : g14X y K = G) : g14X c K = condF v F G := cond_cut hc hx hy
noncomputable def g14b1111 (x0 : V) (x7 : V) (st : St) : Res :=
 A.nilc x0 fun a1 =>
 A.faddr 1 a1 fun a2 =>
 A.load false 1 a2 st fun a3 z4 =>
 A.slice 1 a3 none (some x7) none fun a5 =>
 A.nilc x0 fun a6 =>
 A.faddr 1 a6 fun a7 =>
 A.store 1 a7 a5 z4 fun z8 =>
 A.ret (s13 [x0.er1] z8) fun a9 z10 =>
 some (.ret a9.er1, z10)
theorem g14e1111 : g14X (g14C [1, 1, 1, 1]) (g14kr) = fun env st => g14b1111 (env 0) (env 7) st := by
  refine Eq.trans (Eq.refl (g14X (g14C [1, 1, 1, 1]) (g14kr))) ?_
  funext env st
  kernel_rfl
noncomputable def g14b111 (x0 : V) (x5 : V) (st : St) : Res :=
 A.nilc x0 fun a1 =>
 A.faddr 1 a1 fun a2 =>
 A.load false 1 a2 st fun a3 _ =>
 A.nilc x0 fun a4 =>
 A.faddr 2 a4 fun a5 =>
 A.load false 1 a5 st fun a6 _ =>
 A.bin .add a6 x5 fun a7 =>
 A.slice 1 a3 none (some a7) none fun a8 =>
 A.ret (A.toStr a8 st fun v => kid v st) fun a9 z10 =>
 A.ret (A.ret (s24 [a9.er1] z10) kid) fun a11 z12 =>
 A.ext a11 0 fun a13 =>
 A.ext a11 1 fun a14 =>
 g14b1111 x0 a14 z12
theorem g14n111 : g14C [1, 1, 1] = .seq (g14C [1, 1, 1, 0]) (g14C [1, 1, 1, 1]) := by kernel_rfl
theorem g14e111 : g14X (g14C [1, 1, 1]) (g14kr) = fun env st => g14b111 (env 0) (env 5) st := by
  refine Eq.trans (g14seq g14n111 (g14e1111)) ?_
  funext env st
  kernel_rfl
noncomputable def f14 (x0 : V) (x1 : V) (st : St) : Res :=
 A.ret (s23 [x0.er1] st) fun a1 z2 =>
 A.un .not a1 fun a3 =>
 A.cond a3
 (some (.ret ((.int .i64 1) : V).er1, z2))
 (A.max x1 (.int .i64 0) fun a4 =>
 A.nilc x0 fun a5 =>
 A.faddr 1 a5 fun a6 =>
 A.load false 1 a6 z2 fun a7 _ =>
 A.lenL a7 fun a8 =>
 A.nilc x0 fun a9 =>
 A.faddr 2 a9 fun a10 =>
 A.load false 1 a10 z2 fun a11 _ =>
 A.bin .sub a8 a11 fun a12 =>
 A.bin .add a12 (.int .i64 1) fun a13 =>
 A.bin .rem a4 a13 fun a14 =>
 g14b111 x0 a14 z2)
theorem g14nr : g14C [] = .seq (g14C [0]) (g14C [1]) := by kernel_rfl
theorem g14n1 : g14C [1] = .seq (g14C [1, 0]) (g14C [1, 1]) := by kernel_rfl
theorem g14n11 : g14C [1, 1] = .seq (g14C [1, 1, 0]) (g14C [1, 1, 1]) := by kernel_rfl
theorem g14er (env : Env) (st : St) : g14X (g14C []) g14kr env st = f14 (env 0) (env 1) st := by
  rw [(g14seq g14nr (g14seq g14n1 (g14seq g14n11 (g14e111))))]
  kernel_rfl
theorem s14_eq (x0 : V) (x1 : V) (st : St) : s14 [x0, x1] st = f14 x0 x1 st := by
  have h : afn Try.prog g14mu g14T big (areg Try.prog g14mu g14T) 14 [x0, x1] st = g14X (g14C []) g14kr (fun t => [x0, x1].getD t (.tup [])) st := by kernel_rfl
  rw [s14, sealF_eq]
  exact h.trans (g14er _ st)
/-! (*sinew/journal.Journal).Notes -/
def g15mu : Nat → Bool := fun _ => false
noncomputable def g15T : Tbl := tget [(23, s23), (24, s24)]
theorem g15t : SimT Try.prog g15T := simT_cons sim23 ( simT_cons sim24 (simT_nil))
noncomputable def s15 : Fn := sealF (afn Try.prog g15mu g15T big (areg Try.prog g15mu g15T) 15)
theorem sim15 : Sim Try.prog 15 s15 := (afn_sim g15t (fun m => areg_sound g15t hmix m) 15 (by kernel_rfl)).sealed
noncomputable def f15 (x0 : V) (st : St) : Res :=
 A.ret (s23 [x0.er1] st) fun a1 z2 =>
 A.un .not a1 fun a3 =>
 A.cond a3
 (some (.ret ((.lst [] 1) : V).er1, z2))
 (A.nilc x0 fun a4 =>
 A.faddr 1 a4 fun a5 =>
 A.load false 1 a5 z2 fun a6 z7 =>
 A.toStr a6 z7 fun a8 =>
 A.ret (s24 [a8.er1] z7) fun a9 z10 =>
 A.ext a9 0 fun a11 =>
 A.ext a9 1 fun a12 =>
 some (.ret a11.er1, z10))
theorem s15_eq (x0 : V) (st : St) : s15 [x0] st = f15 x0 st := by
  rw [s15, sealF_eq]
  kernel_rfl
/-! (*sinew/journal.Journal).Size -/
def g17mu : Nat → Bool := fun _ => false
noncomputable def g17T : Tbl := tget [(23, s23)]
theorem g17t : SimT Try.prog g17T := simT_cons sim23 (simT_nil)
noncomputable def s17 : Fn := sealF (afn Try.prog g17mu g17T big (areg Try.prog g17mu g17T) 17)
theorem sim17 : Sim Try.prog 17 s17 := (afn_sim g17t (fun m => areg_sound g17t hmix m) 17 (by kernel_rfl)).sealed
noncomputable def f17 (x0 : V) (st : St) : Res :=
 A.ret (s23 [x0.er1] st) fun a1 z2 =>
 A.un .not a1 fun a3 =>
 A.cond a3
 (some (.ret (.tup [((.int .i64 0) : V).er1, ((.int .i64 0) : V).er1]), z2))
 (A.nilc x0 fun a4 =>
 A.faddr 1 a4 fun a5 =>
 A.load false 1 a5 z2 fun a6 _ =>
 A.lenL a6 fun a7 =>
 A.nilc x0 fun a8 =>
 A.faddr 2 a8 fun a9 =>
 A.load false 1 a9 z2 fun a10 _ =>
 some (.ret (.tup [a7.er1, a10.er1]), z2))
theorem s17_eq (x0 : V) (st : St) : s17 [x0] st = f17 x0 st := by
  rw [s17, sealF_eq]
  kernel_rfl
end Go.Ab
