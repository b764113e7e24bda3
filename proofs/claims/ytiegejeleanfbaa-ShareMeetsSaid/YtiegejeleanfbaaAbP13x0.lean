import Derived.Test.YtiegejeleanfbaaAbForget
import Derived.Test.YtiegejeleanfbaaAbR13
import Derived.Test.YtiegejeleanfbaaAbR13s
namespace Go.Ab
open Go.Proofs
set_option linter.unusedVariables false
set_option maxRecDepth 100000
theorem hmix : Try.prog.follows .mixedOrders = true := by kernel_rfl
/-! sinew/share.may$1 -/
def g39mu : Nat → Bool := fun _ => false
noncomputable def g39T : Tbl := tget []
theorem g39t : SimT Try.prog g39T := simT_nil
noncomputable def s39 : Fn := sealF (afn Try.prog g39mu g39T big (areg Try.prog g39mu g39T) 39)
theorem sim39 : Sim Try.prog 39 s39 := (afn_sim g39t (fun m => areg_sound g39t hmix m) 39 (by kernel_rfl)).sealed
noncomputable def f39 (x0 : V) (st : St) : Res :=
 A.bin .lss x0 (.int .i64 1) fun a1 =>
 A.guard a1 false
 (A.bin .gtr x0 (.int .i64 64) fun a2 =>
 some (.ret a2.er1, st))
 (some (.ret ((.bool true) : V).er1, st))
theorem s39_eq (x0 : V) (st : St) : s39 [x0] st = f39 x0 st := by
  rw [s39, sealF_eq]
  kernel_rfl
/-! sinew/share.Route$1 -/
def g33mu : Nat → Bool := fun _ => false
noncomputable def g33T : Tbl := tget []
theorem g33t : SimT Try.prog g33T := simT_nil
noncomputable def s33 : Fn := sealF (afn Try.prog g33mu g33T big (areg Try.prog g33mu g33T) 33)
theorem sim33 : Sim Try.prog 33 s33 := (afn_sim g33t (fun m => areg_sound g33t hmix m) 33 (by kernel_rfl)).sealed
noncomputable def f33 (x0 : V) (x1 : V) (st : St) : Res :=
 A.bin .lss x0 (.int .i64 0) fun a1 =>
 A.guard a1 false
 (A.load false 1 x1 st fun a2 z3 =>
 A.lenL a2 fun a4 =>
 A.bin .geq x0 a4 fun a5 =>
 some (.ret a5.er1, z3))
 (some (.ret ((.bool true) : V).er1, st))
theorem s33_eq (x0 : V) (x1 : V) (st : St) : s33 [x0, x1] st = f33 x0 x1 st := by
  rw [s33, sealF_eq]
  kernel_rfl
/-! sinew/share.Shares$1 -/
def g23mu : Nat → Bool := fun _ => false
noncomputable def g23T : Tbl := tget []
theorem g23t : SimT Try.prog g23T := simT_nil
noncomputable def s23 : Fn := sealF (afn Try.prog g23mu g23T big (areg Try.prog g23mu g23T) 23)
theorem sim23 : Sim Try.prog 23 s23 := (afn_sim g23t (fun m => areg_sound g23t hmix m) 23 (by kernel_rfl)).sealed
noncomputable def f23 (x0 : V) (x1 : V) (st : St) : Res :=
 A.bin .lss x0 (.int .i64 0) fun a1 =>
 A.guard a1 false
 (A.load false 1 x1 st fun a2 z3 =>
 A.bin .geq x0 a2 fun a4 =>
 some (.ret a4.er1, z3))
 (some (.ret ((.bool true) : V).er1, st))
theorem s23_eq (x0 : V) (x1 : V) (st : St) : s23 [x0, x1] st = f23 x0 x1 st := by
  rw [s23, sealF_eq]
  kernel_rfl
/-! slices.IndexFunc[[]int,int] -/
def g37mu : Nat → Bool := fun _ => false
noncomputable def g37T : Tbl := tget [(23, s23), (33, s33), (39, s39)]
theorem g37t : SimT Try.prog g37T := simT_cons sim23 ( simT_cons sim33 ( simT_cons sim39 (simT_nil)))
noncomputable def s37 : Fn := sealF (afn Try.prog g37mu g37T big (areg Try.prog g37mu g37T) 37)
theorem sim37 : Sim Try.prog 37 s37 := (afn_sim g37t (fun m => areg_sound g37t hmix m) 37 (by kernel_rfl)).sealed
noncomputable def g37C (p : List Nat) : Code := sub (match Try.f37.body with | some c => c | none => .skip) p
noncomputable def g37X (c : Code) (K : Kon) : Env → St → Res := aexec Try.prog g37mu g37T big 19 (areg Try.prog g37mu g37T 19) c K
noncomputable def g37kr : Kon := aresK Try.prog Try.f37.results.toList
theorem g37reg {c : Code} {K : Kon} {G : Env → St → Res} {id : Nat} {ops : Array Oper} {l1 l2 : List Nat} (hc : c = .region id ops false) (hl : List.range ops.size = l1 ++ l2) (h : (fun env st => aops Try.prog g37mu g37T 19 ops l2 env st (K .normal)) = G) : g37X c K = fun env st => aops Try.prog g37mu g37T 19 ops l1 env st G := reg_cut hc hl h
theorem g37seq {c x y : Code} {K : Kon} {G : Env → St → Res} (hc : c = .seq x y) (hy : g37X y K = G) : g37X c K = g37X x (kSeq G K) := seq_cut hc hy
theorem g37blk {c x : Code} {K : Kon} {i : Nat} (hc : c = .block i x) : g37X c K = g37X x (kBlk i K) := blk_cut hc
theorem g37loop {c x : Code} {K : Kon} (hc : c = .loop x) : g37X c K = aloop (g37X x) K big := loop_cut hc
theorem g37cond {c x y : Code} {K : Kon} {v : Operand} {F G : Env → St → Res} (hc : c = .cond v x y) (hx : g37X x K = F) (hy : g37X y K = G) : g37X c K = condF v F G := cond_cut hc hx hy
noncomputable def g37k0 : Kon := kSeq (g37X (g37C [1, 1]) (g37kr)) (g37kr)
noncomputable def g37k1 : Kon := kBlk 0 (g37k0)
noncomputable def g37b1010 : Nat → V → V → V → V → St → Res
| 0, _, _, _, _, _ => none
| n + 1, x0, x1, x7, x8, st =>
 A.bin .lss x8 x7 fun a1 =>
 A.cond a1
 (A.iaddr 1 x0 x8 fun a2 =>
 A.load false 1 a2 st fun a3 z4 =>
 A.call g37T x1 [a3] z4 fun a5 z6 =>
 A.cond a5
 (some (.ret x8.er1, z6))
 (A.bin .add x8 (.int .i64 1) fun a7 =>
 (g37b1010 n) x0 x1 x7 a7 z6))
 (some (.ret ((.int .i64 (-1)) : V).er1, st))
theorem g37n1010 : g37C [1, 0, 1, 0] = .loop (g37C [1, 0, 1, 0, 0]) := by kernel_rfl
noncomputable def g37k2 (L1010 : V → V → V → V → St → Res) : Kon := kSeq (fun env st => L1010 (env 0) (env 1) (env 7) (env 8) st) (g37k1)
theorem g37e1010 : g37X (g37C [1, 0, 1, 0]) (g37k1) = fun env st => g37b1010 big (env 0) (env 1) (env 7) (env 8) st := by
  have key : ∀ n, aloop (g37X (g37C [1, 0, 1, 0, 0])) (g37k1) n = fun env st => g37b1010 n (env 0) (env 1) (env 7) (env 8) st := by
    intro n
    induction n with
    | zero => rfl
    | succ n ih =>
      have h : aloop (g37X (g37C [1, 0, 1, 0, 0])) (g37k1) (n + 1) = g37X (g37C [1, 0, 1, 0, 0]) (kSeq (aloop (g37X (g37C [1, 0, 1, 0, 0])) (g37k1) n) (g37k1)) := rfl
      rw [h, ih]
      refine Eq.trans (Eq.refl _) ?_
      funext env st
      kernel_rfl
  exact (g37loop g37n1010).trans (key big)
noncomputable def f37 (x0 : V) (x1 : V) (st : St) : Res :=
 A.lenL x0 fun a1 =>
 g37b1010 big x0 x1 a1 (.int .i64 0) st
theorem g37nr : g37C [] = .seq (g37C [0]) (g37C [1]) := by kernel_rfl
theorem g37n1 : g37C [1] = .seq (g37C [1, 0]) (g37C [1, 1]) := by kernel_rfl
theorem g37n10 : g37C [1, 0] = .seq (g37C [1, 0, 0]) (g37C [1, 0, 1]) := by kernel_rfl
theorem g37n101 : g37C [1, 0, 1] = .block 0 (g37C [1, 0, 1, 0]) := by kernel_rfl
theorem g37er (env : Env) (st : St) : g37X (g37C []) g37kr env st = f37 (env 0) (env 1) st := by
  rw [(g37seq g37nr ((g37seq g37n1 rfl).trans (g37seq g37n10 ((g37blk g37n101).trans (g37e1010)))))]
  kernel_rfl
theorem s37_eq (x0 : V) (x1 : V) (st : St) : s37 [x0, x1] st = f37 x0 x1 st := by
  have h : afn Try.prog g37mu g37T big (areg Try.prog g37mu g37T) 37 [x0, x1] st = g37X (g37C []) g37kr (fun t => [x0, x1].getD t (.tup [])) st := by kernel_rfl
  rw [s37, sealF_eq]
  exact h.trans (g37er _ st)
/-! slices.ContainsFunc[[]int,int] -/
def g24mu : Nat → Bool := fun _ => false
noncomputable def g24T : Tbl := tget [(37, s37)]
theorem g24t : SimT Try.prog g24T := simT_cons sim37 (simT_nil)
noncomputable def s24 : Fn := sealF (afn Try.prog g24mu g24T big (areg Try.prog g24mu g24T) 24)
theorem sim24 : Sim Try.prog 24 s24 := (afn_sim g24t (fun m => areg_sound g24t hmix m) 24 (by kernel_rfl)).sealed
noncomputable def f24 (x0 : V) (x1 : V) (st : St) : Res :=
 A.ret (s37 [x0.er1, x1.er1] st) fun a1 z2 =>
 A.bin .geq a1 (.int .i64 0) fun a3 =>
 some (.ret a3.er1, z2)
theorem s24_eq (x0 : V) (x1 : V) (st : St) : s24 [x0, x1] st = f24 x0 x1 st := by
  rw [s24, sealF_eq]
  kernel_rfl
/-! sinew/share.product -/
def g26mu : Nat → Bool := fun _ => false
noncomputable def g26T : Tbl := tget []
theorem g26t : SimT Try.prog g26T := simT_nil
noncomputable def s26 : Fn := sealF (afn Try.prog g26mu g26T big (areg Try.prog g26mu g26T) 26)
theorem sim26 : Sim Try.prog 26 s26 := (afn_sim g26t (fun m => areg_sound g26t hmix m) 26 (by kernel_rfl)).sealed
noncomputable def g26C (p : List Nat) : Code := sub (match Try.f26.body with | some c => c | none => .skip) p
noncomputable def g26X (c : Code) (K : Kon) : Env → St → Res := aexec Try.prog g26mu g26T big 20 (areg Try.prog g26mu g26T 20) c K
noncomputable def g26kr : Kon := aresK Try.prog Try.f26.results.toList
theorem g26reg {c : Code} {K : Kon} {G : Env → St → Res} {id : Nat} {ops : Array Oper} {l1 l2 : List Nat} (hc : c = .region id ops false) (hl : List.range ops.size = l1 ++ l2) (h : (fun env st => aops Try.prog g26mu g26T 20 ops l2 env st (K .normal)) = G) : g26X c K = fun env st => aops Try.prog g26mu g26T 20 ops l1 env st G := reg_cut hc hl h
theorem g26seq {c x y : Code} {K : Kon} {G : Env → St → Res} (hc : c = .seq x y) (hy : g26X y K = G) : g26X c K = g26X x (kSeq G K) := seq_cut hc hy
theorem g26blk {c x : Code} {K : Kon} {i : Nat} (hc : c = .block i x) : g26X c K = g26X x (kBlk i K) := blk_cut hc
theorem g26loop {c x : Code} {K : Kon} (hc : c = .loop x) : g26X c K = aloop (g26X x) K big := loop_cut hc
theorem g26cond {c x y : Code} {K : Kon} {v : Operand} {F G : Env → St → Res} (hc : c = .cond v x y) (hx : g26X x K = F) (hy : g26X y K = G) : g26X c K = condF v F G := cond_cut hc hx hy
noncomputable def g26k0 : Kon := kSeq (g26X (g26C [1, 1, 1]) (g26kr)) (g26kr)
noncomputable def g26k1 : Kon := kBlk 0 (g26k0)
noncomputable def g26b11010 : Nat → V → V → V → V → St → Res
| 0, _, _, _, _, _ => none
| n + 1, x3, x6, x7, x8, st =>
 A.bin .lss x8 x7 fun a1 =>
 A.cond a1
 (A.iaddr 1 x6 x8 fun a2 =>
 A.load false 1 a2 st fun a3 z4 =>
 A.bin .mul x3 a3 fun a5 =>
 A.bin .gtr a5 (.int .i64 64) fun a6 =>
 A.cond a6
 (some (.ret a5.er1, z4))
 (A.bin .add x8 (.int .i64 1) fun a7 =>
 (g26b11010 n) a5 x6 x7 a7 z4))
 (some (.ret x3.er1, st))
theorem g26n11010 : g26C [1, 1, 0, 1, 0] = .loop (g26C [1, 1, 0, 1, 0, 0]) := by kernel_rfl
noncomputable def g26k2 (L11010 : V → V → V → V → St → Res) : Kon := kSeq (fun env st => L11010 (env 3) (env 6) (env 7) (env 8) st) (g26k1)
theorem g26e11010 : g26X (g26C [1, 1, 0, 1, 0]) (g26k1) = fun env st => g26b11010 big (env 3) (env 6) (env 7) (env 8) st := by
  have key : ∀ n, aloop (g26X (g26C [1, 1, 0, 1, 0, 0])) (g26k1) n = fun env st => g26b11010 n (env 3) (env 6) (env 7) (env 8) st := by
    intro n
    induction n with
    | zero => rfl
    | succ n ih =>
      have h : aloop (g26X (g26C [1, 1, 0, 1, 0, 0])) (g26k1) (n + 1) = g26X (g26C [1, 1, 0, 1, 0, 0]) (kSeq (aloop (g26X (g26C [1, 1, 0, 1, 0, 0])) (g26k1) n) (g26k1)) := rfl
      rw [h, ih]
      refine Eq.trans (Eq.refl _) ?_
      funext env st
      kernel_rfl
  exact (g26loop g26n11010).trans (key big)
noncomputable def f26 (x0 : V) (st : St) : Res :=
 A.lenL x0 fun a1 =>
 g26b11010 big (.int .i64 1) x0 a1 (.int .i64 0) st
theorem g26nr : g26C [] = .seq (g26C [0]) (g26C [1]) := by kernel_rfl
theorem g26n1 : g26C [1] = .seq (g26C [1, 0]) (g26C [1, 1]) := by kernel_rfl
theorem g26n11 : g26C [1, 1] = .seq (g26C [1, 1, 0]) (g26C [1, 1, 1]) := by kernel_rfl
theorem g26n110 : g26C [1, 1, 0] = .seq (g26C [1, 1, 0, 0]) (g26C [1, 1, 0, 1]) := by kernel_rfl
theorem g26n1101 : g26C [1, 1, 0, 1] = .block 0 (g26C [1, 1, 0, 1, 0]) := by kernel_rfl
theorem g26er (env : Env) (st : St) : g26X (g26C []) g26kr env st = f26 (env 0) st := by
  rw [(g26seq g26nr (g26seq g26n1 ((g26seq g26n11 rfl).trans (g26seq g26n110 ((g26blk g26n1101).trans (g26e11010))))))]
  kernel_rfl
theorem s26_eq (x0 : V) (st : St) : s26 [x0] st = f26 x0 st := by
  have h : afn Try.prog g26mu g26T big (areg Try.prog g26mu g26T) 26 [x0] st = g26X (g26C []) g26kr (fun t => [x0].getD t (.tup [])) st := by kernel_rfl
  rw [s26, sealF_eq]
  exact h.trans (g26er _ st)
/-! sinew/share.may -/
def g31mu : Nat → Bool := fun _ => false
noncomputable def g31T : Tbl := tget [(24, s24), (26, s26)]
theorem g31t : SimT Try.prog g31T := simT_cons sim24 ( simT_cons sim26 (simT_nil))
noncomputable def s31 : Fn := sealF (afn Try.prog g31mu g31T big (areg Try.prog g31mu g31T) 31)
theorem sim31 : Sim Try.prog 31 s31 := (afn_sim g31t (fun m => areg_sound g31t hmix m) 31 (by kernel_rfl)).sealed
noncomputable def g31C (p : List Nat) : Code := sub (match Try.f31.body with | some c => c | none => .skip) p
noncomputable def g31X (c : Code) (K : Kon) : Env → St → Res := aexec Try.prog g31mu g31T big 18 (areg Try.prog g31mu g31T 18) c K
noncomputable def g31kr : Kon := aresK Try.prog Try.f31.results.toList
theorem g31reg {c : Code} {K : Kon} {G : Env → St → Res} {id : Nat} {ops : Array Oper} {l1 l2 : List Nat} (hc : c = .region id ops false) (hl : List.range ops.size = l1 ++ l2) (h : (fun env st => aops Try.prog g31mu g31T 18 ops l2 env st (K .normal)) = G) : g31X c K = fun env st => aops Try.prog g31mu g31T 18 ops l1 env st G := reg_cut hc hl h
theorem g31seq {c x y : Code} {K : Kon} {G : Env → St → Res} (hc : c = .seq x y) (hy : g31X y K = G) : g31X c K = g31X x (kSeq G K) := seq_cut hc hy
theorem g31blk {c x : Code} {K : Kon} {i : Nat} (hc : c = .block i x) : g31X c K = g31X x (kBlk i K) := blk_cut hc
theorem g31loop {c x : Code} {K : Kon} (hc : c = .loop x) : g31X c K = aloop (g31X x) K big := loop_cut hc
theorem g31cond {c x y : Code} {K : Kon} {v : Operand} {F G : Env → St → Res} (hc : c = .cond v x y) (hx : g31X x K = F) (hy : g31X y K = G) : g31X c K = condF v F G := cond_cut hc hx hy
noncomputable def g31k0 : Kon := kSeq (g31X (g31C [1, 1, 1]) (g31kr)) (g31kr)
noncomputable def g31b110_10 (x0 : V) (x13 : V) (st : St) : Res :=
 A.guard x13 true
 (A.ret (s26 [x0.er1] st) fun a1 z2 =>
 A.bin .leq a1 (.int .i64 64) fun a3 =>
 some (.ret a3.er1, z2))
 (some (.ret ((.bool false) : V).er1, st))
theorem g31e110_10 : (fun env st => aops Try.prog g31mu g31T 18 (rops (g31C [1, 1, 0])) [10, 11, 12, 13, 14] env st ((g31k0) .normal)) = fun env st => g31b110_10 (env 0) (env 13) st := by
  refine Eq.trans (Eq.refl _) ?_
  funext env st
  kernel_rfl
noncomputable def f31 (x0 : V) (st : St) : Res :=
 A.lenL x0 fun a1 =>
 A.bin .leq a1 (.int .i64 16) fun a2 =>
 A.guard a2 true
 (A.ret (s24 [x0.er1, ((.fn 39 [] []) : V).er1] st) fun a3 z4 =>
 A.un .not a3 fun a5 =>
 g31b110_10 x0 a5 z4)
 (g31b110_10 x0 (.bool false) st)
theorem g31nr : g31C [] = .seq (g31C [0]) (g31C [1]) := by kernel_rfl
theorem g31n1 : g31C [1] = .seq (g31C [1, 0]) (g31C [1, 1]) := by kernel_rfl
theorem g31n11 : g31C [1, 1] = .seq (g31C [1, 1, 0]) (g31C [1, 1, 1]) := by kernel_rfl
theorem g31rg110 : g31C [1, 1, 0] = .region 2 (rops (g31C [1, 1, 0])) false := by kernel_rfl
theorem g31rg110l : List.range (rops (g31C [1, 1, 0])).size = [0, 1, 2, 3, 4, 5, 6, 7, 8, 9] ++ [10, 11, 12, 13, 14] := by kernel_rfl
theorem g31er (env : Env) (st : St) : g31X (g31C []) g31kr env st = f31 (env 0) st := by
  rw [(g31seq g31nr (g31seq g31n1 ((g31seq g31n11 rfl).trans (g31reg g31rg110 g31rg110l (g31e110_10)))))]
  kernel_rfl
theorem s31_eq (x0 : V) (st : St) : s31 [x0] st = f31 x0 st := by
  have h : afn Try.prog g31mu g31T big (areg Try.prog g31mu g31T) 31 [x0] st = g31X (g31C []) g31kr (fun t => [x0].getD t (.tup [])) st := by kernel_rfl
  rw [s31, sealF_eq]
  exact h.trans (g31er _ st)
/-! slices.Index[[]int,int] -/
def g41mu : Nat → Bool := fun _ => false
noncomputable def g41T : Tbl := tget []
theorem g41t : SimT Try.prog g41T := simT_nil
noncomputable def s41 : Fn := sealF (afn Try.prog g41mu g41T big (areg Try.prog g41mu g41T) 41)
theorem sim41 : Sim Try.prog 41 s41 := (afn_sim g41t (fun m => areg_sound g41t hmix m) 41 (by kernel_rfl)).sealed
noncomputable def g41C (p : List Nat) : Code := sub (match Try.f41.body with | some c => c | none => .skip) p
noncomputable def g41X (c : Code) (K : Kon) : Env → St → Res := aexec Try.prog g41mu g41T big 19 (areg Try.prog g41mu g41T 19) c K
noncomputable def g41kr : Kon := aresK Try.prog Try.f41.results.toList
theorem g41reg {c : Code} {K : Kon} {G : Env → St → Res} {id : Nat} {ops : Array Oper} {l1 l2 : List Nat} (hc : c = .region id ops false) (hl : List.range ops.size = l1 ++ l2) (h : (fun env st => aops Try.prog g41mu g41T 19 ops l2 env st (K .normal)) = G) : g41X c K = fun env st => aops Try.prog g41mu g41T 19 ops l1 env st G := reg_cut hc hl h
theorem g41seq {c x y : Code} {K : Kon} {G : Env → St → Res} (hc : c = .seq x y) (hy : g41X y K = G) : g41X c K = g41X x (kSeq G K) := seq_cut hc hy
theorem g41blk {c x : Code} {K : Kon} {i : Nat} (hc : c = .block i x) : g41X c K = g41X x (kBlk i K) := blk_cut hc
theorem g41loop {c x : Code} {K : Kon} (hc : c = .loop x) : g41X c K = aloop (g41X x) K big := loop_cut hc
theorem g41cond {c x y : Code} {K : Kon} {v : Operand} {F G : Env → St → Res} (hc : c = .cond v x y) (hx : g41X x K = F) (hy : g41X y K = G) : g41X c K = condF v F G := cond_cut hc hx hy
noncomputable def g41k0 : Kon := kSeq (g41X (g41C [1, 1]) (g41kr)) (g41kr)
noncomputable def g41k1 : Kon := kBlk 0 (g41k0)
noncomputable def g41b1010 : Nat → V → V → V → V → St → Res
| 0, _, _, _, _, _ => none
| n + 1, x0, x1, x7, x8, st =>
 A.bin .lss x8 x7 fun a1 =>
 A.cond a1
 (A.iaddr 1 x0 x8 fun a2 =>
 A.load false 1 a2 st fun a3 z4 =>
 A.eql 2 false x1 a3 fun a5 =>
 A.cond a5
 (some (.ret x8.er1, z4))
 (A.bin .add x8 (.int .i64 1) fun a6 =>
 (g41b1010 n) x0 x1 x7 a6 z4))
 (some (.ret ((.int .i64 (-1)) : V).er1, st))
theorem g41n1010 : g41C [1, 0, 1, 0] = .loop (g41C [1, 0, 1, 0, 0]) := by kernel_rfl
noncomputable def g41k2 (L1010 : V → V → V → V → St → Res) : Kon := kSeq (fun env st => L1010 (env 0) (env 1) (env 7) (env 8) st) (g41k1)
theorem g41e1010 : g41X (g41C [1, 0, 1, 0]) (g41k1) = fun env st => g41b1010 big (env 0) (env 1) (env 7) (env 8) st := by
  have key : ∀ n, aloop (g41X (g41C [1, 0, 1, 0, 0])) (g41k1) n = fun env st => g41b1010 n (env 0) (env 1) (env 7) (env 8) st := by
    intro n
    induction n with
    | zero => rfl
    | succ n ih =>
      have h : aloop (g41X (g41C [1, 0, 1, 0, 0])) (g41k1) (n + 1) = g41X (g41C [1, 0, 1, 0, 0]) (kSeq (aloop (g41X (g41C [1, 0, 1, 0, 0])) (g41k1) n) (g41k1)) := rfl
      rw [h, ih]
      refine Eq.trans (Eq.refl _) ?_
      funext env st
      kernel_rfl
  exact (g41loop g41n1010).trans (key big)
noncomputable def f41 (x0 : V) (x1 : V) (st : St) : Res :=
 A.lenL x0 fun a1 =>
 g41b1010 big x0 x1 a1 (.int .i64 0) st
theorem g41nr : g41C [] = .seq (g41C [0]) (g41C [1]) := by kernel_rfl
theorem g41n1 : g41C [1] = .seq (g41C [1, 0]) (g41C [1, 1]) := by kernel_rfl
theorem g41n10 : g41C [1, 0] = .seq (g41C [1, 0, 0]) (g41C [1, 0, 1]) := by kernel_rfl
theorem g41n101 : g41C [1, 0, 1] = .block 0 (g41C [1, 0, 1, 0]) := by kernel_rfl
theorem g41er (env : Env) (st : St) : g41X (g41C []) g41kr env st = f41 (env 0) (env 1) st := by
  rw [(g41seq g41nr ((g41seq g41n1 rfl).trans (g41seq g41n10 ((g41blk g41n101).trans (g41e1010)))))]
  kernel_rfl
theorem s41_eq (x0 : V) (x1 : V) (st : St) : s41 [x0, x1] st = f41 x0 x1 st := by
  have h : afn Try.prog g41mu g41T big (areg Try.prog g41mu g41T) 41 [x0, x1] st = g41X (g41C []) g41kr (fun t => [x0, x1].getD t (.tup [])) st := by kernel_rfl
  rw [s41, sealF_eq]
  exact h.trans (g41er _ st)
/-! slices.Contains[[]int,int] -/
def g38mu : Nat → Bool := fun _ => false
noncomputable def g38T : Tbl := tget [(41, s41)]
theorem g38t : SimT Try.prog g38T := simT_cons sim41 (simT_nil)
noncomputable def s38 : Fn := sealF (afn Try.prog g38mu g38T big (areg Try.prog g38mu g38T) 38)
theorem sim38 : Sim Try.prog 38 s38 := (afn_sim g38t (fun m => areg_sound g38t hmix m) 38 (by kernel_rfl)).sealed
noncomputable def f38 (x0 : V) (x1 : V) (st : St) : Res :=
 A.ret (s41 [x0.er1, x1.er1] st) fun a1 z2 =>
 A.bin .geq a1 (.int .i64 0) fun a3 =>
 some (.ret a3.er1, z2)
theorem s38_eq (x0 : V) (x1 : V) (st : St) : s38 [x0, x1] st = f38 x0 x1 st := by
  rw [s38, sealF_eq]
  kernel_rfl
/-! sinew/share.load -/
def g28mu : Nat → Bool := fun _ => false
noncomputable def g28T : Tbl := tget [(38, s38)]
theorem g28t : SimT Try.prog g28T := simT_cons sim38 (simT_nil)
noncomputable def s28 : Fn := sealF (afn Try.prog g28mu g28T big (areg Try.prog g28mu g28T) 28)
theorem sim28 : Sim Try.prog 28 s28 := (afn_sim g28t (fun m => areg_sound g28t hmix m) 28 (by kernel_rfl)).sealed
noncomputable def g28C (p : List Nat) : Code := sub (match Try.f28.body with | some c => c | none => .skip) p
noncomputable def g28X (c : Code) (K : Kon) : Env → St → Res := aexec Try.prog g28mu g28T big 53 (areg Try.prog g28mu g28T 53) c K
noncomputable def g28kr : Kon := aresK Try.prog Try.f28.results.toList
theorem g28reg {c : Code} {K : Kon} {G : Env → St → Res} {id : Nat} {ops : Array Oper} {l1 l2 : List Nat} (hc : c = .region id ops false) (hl : List.range ops.size = l1 ++ l2) (h : (fun env st => aops Try.prog g28mu g28T 53 ops l2 env st (K .normal)) = G) : g28X c K = fun env st => aops Try.prog g28mu g28T 53 ops l1 env st G := reg_cut hc hl h
theorem g28seq {c x y : Code} {K : Kon} {G : Env → St → Res} (hc : c = .seq x y) (hy : g28X y K = G) : g28X c K = g28X x (kSeq G K) := seq_cut hc hy
theorem g28blk {c x : Code} {K : Kon} {i : Nat} (hc : c = .block i x) : g28X c K = g28X x (kBlk i K) := blk_cut hc
theorem g28loop {c x : Code} {K : Kon} (hc : c = .loop x) : g28X c K = aloop (g28X x) K big := loop_cut hc
theorem g28cond {c x y : Code} {K : Kon} {v : Operand} {F G : Env → St → Res} (hc : c = .cond v x y) (hx : g28X x K = F) (hy : g28X y K = G) : g28X c K = condF v F G := cond_cut hc hx hy
noncomputable def g28k0 : Kon := kSeq (g28X (g28C [1, 1, 1]) (g28kr)) (g28kr)
noncomputable def g28k1 : Kon := kBlk 0 (g28k0)
noncomputable def g28k2 (L11010 : V → V → V → V → V → V → St → Res) : Kon := kSeq (fun env st => L11010 (env 0) (env 2) (env 7) (env 13) (env 14) (env 15) st) (g28k1)
noncomputable def g28k3 (L11010 : V → V → V → V → V → V → St → Res) : Kon := kSeq (g28X (g28C [1, 1, 0, 1, 0, 0, 1, 1, 1]) (g28k2 L11010)) (g28k2 L11010)
noncomputable def g28k4 (L11010 : V → V → V → V → V → V → St → Res) : Kon := kBlk 1 (g28k3 L11010)
noncomputable def g28k5 (L11010 : V → V → V → V → V → V → St → Res) : Kon := kSeq (g28X (g28C [1, 1, 0, 1, 0, 0, 1, 1, 0, 0, 1, 1, 1]) (g28k4 L11010)) (g28k4 L11010)
noncomputable def g28k6 (L11010 : V → V → V → V → V → V → St → Res) : Kon := kBlk 2 (g28k5 L11010)
noncomputable def g28k7 (L11010 : V → V → V → V → V → V → St → Res) (L110100110011010 : V → V → V → V → V → V → V → V → V → V → V → V → St → Res) : Kon := kSeq (fun env st => L110100110011010 (env 0) (env 2) (env 7) (env 8) (env 9) (env 10) (env 13) (env 14) (env 15) (env 20) (env 21) (env 22) st) (g28k6 L11010)
noncomputable def g28k8 (L11010 : V → V → V → V → V → V → St → Res) (L110100110011010 : V → V → V → V → V → V → V → V → V → V → V → V → St → Res) : Kon := kSeq (g28X (g28C [1, 1, 0, 1, 0, 0, 1, 1, 0, 0, 1, 1, 0, 1, 0, 0, 1, 1, 1]) (g28k7 L11010 L110100110011010)) (g28k7 L11010 L110100110011010)
noncomputable def g28k9 (L11010 : V → V → V → V → V → V → St → Res) (L110100110011010 : V → V → V → V → V → V → V → V → V → V → V → V → St → Res) : Kon := kBlk 3 (g28k8 L11010 L110100110011010)
noncomputable def g28b1101001100110100110011 (L11010 : V → V → V → V → V → V → St → Res) (L110100110011010 : V → V → V → V → V → V → V → V → V → V → V → V → St → Res) (x0 : V) (x2 : V) (x7 : V) (x8 : V) (x9 : V) (x10 : V) (x12 : V) (x13 : V) (x14 : V) (x15 : V) (x20 : V) (x21 : V) (x22 : V) (x32 : V) (st : St) : Res :=
 A.cond x32
 (A.iaddr 1 x0 x12 fun a1 =>
 A.load false 1 a1 st fun a2 z3 =>
 A.bin .mul x10 a2 fun a4 =>
 A.bin .add x22 (.int .i64 1) fun a5 =>
 L110100110011010 x0 x2 x7 x8 x9 a4 x13 x14 x15 x20 x21 a5 z3)
 (A.bin .add x22 (.int .i64 1) fun a6 =>
 L110100110011010 x0 x2 x7 x8 x9 x10 x13 x14 x15 x20 x21 a6 st)
theorem g28e1101001100110100110011 (L11010 : V → V → V → V → V → V → St → Res) (L110100110011010 : V → V → V → V → V → V → V → V → V → V → V → V → St → Res) : g28X (g28C [1, 1, 0, 1, 0, 0, 1, 1, 0, 0, 1, 1, 0, 1, 0, 0, 1, 1, 0, 0, 1, 1]) (g28k9 L11010 L110100110011010) = fun env st => g28b1101001100110100110011 L11010 L110100110011010 (env 0) (env 2) (env 7) (env 8) (env 9) (env 10) (env 12) (env 13) (env 14) (env 15) (env 20) (env 21) (env 22) (env 32) st := by
  refine Eq.trans (Eq.refl (g28X (g28C [1, 1, 0, 1, 0, 0, 1, 1, 0, 0, 1, 1, 0, 1, 0, 0, 1, 1, 0, 0, 1, 1]) (g28k9 L11010 L110100110011010))) ?_
  funext env st
  kernel_rfl
noncomputable def g28b110100110011010 (L11010 : V → V → V → V → V → V → St → Res) : Nat → V → V → V → V → V → V → V → V → V → V → V → V → St → Res
| 0, _, _, _, _, _, _, _, _, _, _, _, _, _ => none
| n + 1, x0, x2, x7, x8, x9, x10, x13, x14, x15, x20, x21, x22, st =>
 A.bin .lss x22 x21 fun a1 =>
 A.cond a1
 (A.iaddr 1 x20 x22 fun a2 =>
 A.load false 1 a2 st fun a3 z4 =>
 A.slice 1 x9 none (some x22) none fun a5 =>
 A.ret (s38 [a5.er1, a3.er1] z4) fun a6 z7 =>
 A.un .not a6 fun a8 =>
 g28b1101001100110100110011 L11010 (g28b110100110011010 L11010 n) x0 x2 x7 x8 x9 x10 a3 x13 x14 x15 x20 x21 x22 a8 z7)
 (A.iaddr 1 x2 x8 fun a9 =>
 A.load false 1 a9 st fun a10 z11 =>
 A.bin .add a10 x10 fun a12 =>
 A.bin .sub a12 (.int .i64 1) fun a13 =>
 A.bin .quo a13 x10 fun a14 =>
 A.bin .add x7 a14 fun a15 =>
 A.bin .add x15 (.int .i64 1) fun a16 =>
 L11010 x0 x2 a15 x13 x14 a16 z11)
theorem g28n110100110011010 : g28C [1, 1, 0, 1, 0, 0, 1, 1, 0, 0, 1, 1, 0, 1, 0] = .loop (g28C [1, 1, 0, 1, 0, 0, 1, 1, 0, 0, 1, 1, 0, 1, 0, 0]) := by kernel_rfl
theorem g28n1101001100110100 : g28C [1, 1, 0, 1, 0, 0, 1, 1, 0, 0, 1, 1, 0, 1, 0, 0] = .seq (g28C [1, 1, 0, 1, 0, 0, 1, 1, 0, 0, 1, 1, 0, 1, 0, 0, 0]) (g28C [1, 1, 0, 1, 0, 0, 1, 1, 0, 0, 1, 1, 0, 1, 0, 0, 1]) := by kernel_rfl
theorem g28n11010011001101001 : g28C [1, 1, 0, 1, 0, 0, 1, 1, 0, 0, 1, 1, 0, 1, 0, 0, 1] = .seq (g28C [1, 1, 0, 1, 0, 0, 1, 1, 0, 0, 1, 1, 0, 1, 0, 0, 1, 0]) (g28C [1, 1, 0, 1, 0, 0, 1, 1, 0, 0, 1, 1, 0, 1, 0, 0, 1, 1]) := by kernel_rfl
theorem g28n110100110011010011 : g28C [1, 1, 0, 1, 0, 0, 1, 1, 0, 0, 1, 1, 0, 1, 0, 0, 1, 1] = .seq (g28C [1, 1, 0, 1, 0, 0, 1, 1, 0, 0, 1, 1, 0, 1, 0, 0, 1, 1, 0]) (g28C [1, 1, 0, 1, 0, 0, 1, 1, 0, 0, 1, 1, 0, 1, 0, 0, 1, 1, 1]) := by kernel_rfl
theorem g28n1101001100110100110 : g28C [1, 1, 0, 1, 0, 0, 1, 1, 0, 0, 1, 1, 0, 1, 0, 0, 1, 1, 0] = .block 3 (g28C [1, 1, 0, 1, 0, 0, 1, 1, 0, 0, 1, 1, 0, 1, 0, 0, 1, 1, 0, 0]) := by kernel_rfl
theorem g28n11010011001101001100 : g28C [1, 1, 0, 1, 0, 0, 1, 1, 0, 0, 1, 1, 0, 1, 0, 0, 1, 1, 0, 0] = .seq (g28C [1, 1, 0, 1, 0, 0, 1, 1, 0, 0, 1, 1, 0, 1, 0, 0, 1, 1, 0, 0, 0]) (g28C [1, 1, 0, 1, 0, 0, 1, 1, 0, 0, 1, 1, 0, 1, 0, 0, 1, 1, 0, 0, 1]) := by kernel_rfl
theorem g28n110100110011010011001 : g28C [1, 1, 0, 1, 0, 0, 1, 1, 0, 0, 1, 1, 0, 1, 0, 0, 1, 1, 0, 0, 1] = .seq (g28C [1, 1, 0, 1, 0, 0, 1, 1, 0, 0, 1, 1, 0, 1, 0, 0, 1, 1, 0, 0, 1, 0]) (g28C [1, 1, 0, 1, 0, 0, 1, 1, 0, 0, 1, 1, 0, 1, 0, 0, 1, 1, 0, 0, 1, 1]) := by kernel_rfl
theorem g28e110100110011010 (L11010 : V → V → V → V → V → V → St → Res) : g28X (g28C [1, 1, 0, 1, 0, 0, 1, 1, 0, 0, 1, 1, 0, 1, 0]) (g28k6 L11010) = fun env st => g28b110100110011010 L11010 big (env 0) (env 2) (env 7) (env 8) (env 9) (env 10) (env 13) (env 14) (env 15) (env 20) (env 21) (env 22) st := by
  have key : ∀ n, aloop (g28X (g28C [1, 1, 0, 1, 0, 0, 1, 1, 0, 0, 1, 1, 0, 1, 0, 0])) (g28k6 L11010) n = fun env st => g28b110100110011010 L11010 n (env 0) (env 2) (env 7) (env 8) (env 9) (env 10) (env 13) (env 14) (env 15) (env 20) (env 21) (env 22) st := by
    intro n
    induction n with
    | zero => rfl
    | succ n ih =>
      have h : aloop (g28X (g28C [1, 1, 0, 1, 0, 0, 1, 1, 0, 0, 1, 1, 0, 1, 0, 0])) (g28k6 L11010) (n + 1) = g28X (g28C [1, 1, 0, 1, 0, 0, 1, 1, 0, 0, 1, 1, 0, 1, 0, 0]) (kSeq (aloop (g28X (g28C [1, 1, 0, 1, 0, 0, 1, 1, 0, 0, 1, 1, 0, 1, 0, 0])) (g28k6 L11010) n) (g28k6 L11010)) := rfl
      rw [h, ih]
      refine Eq.trans (g28seq g28n1101001100110100 (g28seq g28n11010011001101001 ((g28seq g28n110100110011010011 rfl).trans ((g28blk g28n1101001100110100110).trans (g28seq g28n11010011001101001100 (g28seq g28n110100110011010011001 (g28e1101001100110100110011 L11010 (g28b110100110011010 L11010 n)))))))) ?_
      funext env st
      kernel_rfl
  exact (g28loop g28n110100110011010).trans (key big)
noncomputable def g28b11010 : Nat → V → V → V → V → V → V → St → Res
| 0, _, _, _, _, _, _, _ => none
| n + 1, x0, x2, x7, x13, x14, x15, st =>
 A.bin .lss x15 x14 fun a1 =>
 A.cond a1
 (A.iaddr 1 x13 x15 fun a2 =>
 A.load false 1 a2 st fun a3 z4 =>
 A.lenL a3 fun a5 =>
 g28b110100110011010 (g28b11010 n) big x0 x2 x7 x15 a3 (.int .i64 1) x13 x14 x15 a3 a5 (.int .i64 0) z4)
 (some (.ret x7.er1, st))
theorem g28n11010 : g28C [1, 1, 0, 1, 0] = .loop (g28C [1, 1, 0, 1, 0, 0]) := by kernel_rfl
theorem g28n110100 : g28C [1, 1, 0, 1, 0, 0] = .seq (g28C [1, 1, 0, 1, 0, 0, 0]) (g28C [1, 1, 0, 1, 0, 0, 1]) := by kernel_rfl
theorem g28n1101001 : g28C [1, 1, 0, 1, 0, 0, 1] = .seq (g28C [1, 1, 0, 1, 0, 0, 1, 0]) (g28C [1, 1, 0, 1, 0, 0, 1, 1]) := by kernel_rfl
theorem g28n11010011 : g28C [1, 1, 0, 1, 0, 0, 1, 1] = .seq (g28C [1, 1, 0, 1, 0, 0, 1, 1, 0]) (g28C [1, 1, 0, 1, 0, 0, 1, 1, 1]) := by kernel_rfl
theorem g28n110100110 : g28C [1, 1, 0, 1, 0, 0, 1, 1, 0] = .block 1 (g28C [1, 1, 0, 1, 0, 0, 1, 1, 0, 0]) := by kernel_rfl
theorem g28n1101001100 : g28C [1, 1, 0, 1, 0, 0, 1, 1, 0, 0] = .seq (g28C [1, 1, 0, 1, 0, 0, 1, 1, 0, 0, 0]) (g28C [1, 1, 0, 1, 0, 0, 1, 1, 0, 0, 1]) := by kernel_rfl
theorem g28n11010011001 : g28C [1, 1, 0, 1, 0, 0, 1, 1, 0, 0, 1] = .seq (g28C [1, 1, 0, 1, 0, 0, 1, 1, 0, 0, 1, 0]) (g28C [1, 1, 0, 1, 0, 0, 1, 1, 0, 0, 1, 1]) := by kernel_rfl
theorem g28n110100110011 : g28C [1, 1, 0, 1, 0, 0, 1, 1, 0, 0, 1, 1] = .seq (g28C [1, 1, 0, 1, 0, 0, 1, 1, 0, 0, 1, 1, 0]) (g28C [1, 1, 0, 1, 0, 0, 1, 1, 0, 0, 1, 1, 1]) := by kernel_rfl
theorem g28n1101001100110 : g28C [1, 1, 0, 1, 0, 0, 1, 1, 0, 0, 1, 1, 0] = .seq (g28C [1, 1, 0, 1, 0, 0, 1, 1, 0, 0, 1, 1, 0, 0]) (g28C [1, 1, 0, 1, 0, 0, 1, 1, 0, 0, 1, 1, 0, 1]) := by kernel_rfl
theorem g28n11010011001101 : g28C [1, 1, 0, 1, 0, 0, 1, 1, 0, 0, 1, 1, 0, 1] = .block 2 (g28C [1, 1, 0, 1, 0, 0, 1, 1, 0, 0, 1, 1, 0, 1, 0]) := by kernel_rfl
theorem g28e11010 : g28X (g28C [1, 1, 0, 1, 0]) (g28k1) = fun env st => g28b11010 big (env 0) (env 2) (env 7) (env 13) (env 14) (env 15) st := by
  have key : ∀ n, aloop (g28X (g28C [1, 1, 0, 1, 0, 0])) (g28k1) n = fun env st => g28b11010 n (env 0) (env 2) (env 7) (env 13) (env 14) (env 15) st := by
    intro n
    induction n with
    | zero => rfl
    | succ n ih =>
      have h : aloop (g28X (g28C [1, 1, 0, 1, 0, 0])) (g28k1) (n + 1) = g28X (g28C [1, 1, 0, 1, 0, 0]) (kSeq (aloop (g28X (g28C [1, 1, 0, 1, 0, 0])) (g28k1) n) (g28k1)) := rfl
      rw [h, ih]
      refine Eq.trans (g28seq g28n110100 (g28seq g28n1101001 ((g28seq g28n11010011 rfl).trans ((g28blk g28n110100110).trans (g28seq g28n1101001100 (g28seq g28n11010011001 ((g28seq g28n110100110011 rfl).trans (g28seq g28n1101001100110 ((g28blk g28n11010011001101).trans (g28e110100110011010 (g28b11010 n))))))))))) ?_
      funext env st
      kernel_rfl
  exact (g28loop g28n11010).trans (key big)
noncomputable def f28 (x0 : V) (x1 : V) (x2 : V) (st : St) : Res :=
 A.lenL x1 fun a1 =>
 g28b11010 big x0 x2 (.int .i64 0) x1 a1 (.int .i64 0) st
theorem g28nr : g28C [] = .seq (g28C [0]) (g28C [1]) := by kernel_rfl
theorem g28n1 : g28C [1] = .seq (g28C [1, 0]) (g28C [1, 1]) := by kernel_rfl
theorem g28n11 : g28C [1, 1] = .seq (g28C [1, 1, 0]) (g28C [1, 1, 1]) := by kernel_rfl
theorem g28n110 : g28C [1, 1, 0] = .seq (g28C [1, 1, 0, 0]) (g28C [1, 1, 0, 1]) := by kernel_rfl
theorem g28n1101 : g28C [1, 1, 0, 1] = .block 0 (g28C [1, 1, 0, 1, 0]) := by kernel_rfl
theorem g28er (env : Env) (st : St) : g28X (g28C []) g28kr env st = f28 (env 0) (env 1) (env 2) st := by
  rw [(g28seq g28nr (g28seq g28n1 ((g28seq g28n11 rfl).trans (g28seq g28n110 ((g28blk g28n1101).trans (g28e11010))))))]
  kernel_rfl
theorem s28_eq (x0 : V) (x1 : V) (x2 : V) (st : St) : s28 [x0, x1, x2] st = f28 x0 x1 x2 st := by
  have h : afn Try.prog g28mu g28T big (areg Try.prog g28mu g28T) 28 [x0, x1, x2] st = g28X (g28C []) g28kr (fun t => [x0, x1, x2].getD t (.tup [])) st := by kernel_rfl
  rw [s28, sealF_eq]
  exact h.trans (g28er _ st)
/-! slices.Clone[[]int,int] -/
def g27mu : Nat → Bool := fun _ => false
noncomputable def g27T : Tbl := tget []
theorem g27t : SimT Try.prog g27T := simT_nil
noncomputable def s27 : Fn := sealF (afn Try.prog g27mu g27T big (areg Try.prog g27mu g27T) 27)
theorem sim27 : Sim Try.prog 27 s27 := (afn_sim g27t (fun m => areg_sound g27t hmix m) 27 (by kernel_rfl)).sealed
noncomputable def f27 (x0 : V) (st : St) : Res :=
 A.eql 5 false x0 (.lst [] 1) fun a1 =>
 A.cond a1
 (some (.ret ((.lst [] 1) : V).er1, st))
 (A.bslice 1 (.int .i64 0) 0 [] fun a2 =>
 A.app 1 a2 (elemsOf 5 1 x0 st) st fun a3 z4 =>
 some (.ret a3.er1, z4))
theorem s27_eq (x0 : V) (st : St) : s27 [x0] st = f27 x0 st := by
  rw [s27, sealF_eq]
  kernel_rfl
/-! sinew/share.Shares$2 -/
def g25mu : Nat → Bool := fun _ => false
noncomputable def g25T (R : Fn) : Tbl := tget [(25, R), (26, s26), (27, s27), (28, s28)]
theorem g25t (R : Fn) (hR : Sim Try.prog 25 R) : SimT Try.prog (g25T R) := simT_cons hR (simT_cons sim26 ( simT_cons sim27 ( simT_cons sim28 (simT_nil))))
noncomputable def s25n : Nat → Fn
| 0 => fun _ _ => none
| n + 1 => afn Try.prog g25mu (g25T (s25n n)) big (areg Try.prog g25mu (g25T (s25n n))) 25
theorem sim25n : ∀ n, Sim Try.prog 25 (s25n n)
| 0 => ⟨by kernel_rfl, fun _ _ _ _ _ _ _ h => by cases h⟩
| n + 1 => afn_sim (g25t (s25n n) (sim25n n)) (fun m => areg_sound (g25t (s25n n) (sim25n n)) hmix m) 25 (by kernel_rfl)
noncomputable def s25 : Fn := sealF (s25n big)
theorem sim25 : Sim Try.prog 25 s25 := (sim25n big).sealed
theorem s25_n : s25 = s25n big := sealF_eq _
noncomputable def g25C (p : List Nat) : Code := sub (match Try.f25.body with | some c => c | none => .skip) p
noncomputable def g25X (R : Fn) (c : Code) (K : Kon) : Env → St → Res := aexec Try.prog g25mu (g25T R) big 46 (areg Try.prog g25mu (g25T R) 46) c K
noncomputable def g25kr (R : Fn) : Kon := aresK Try.prog Try.f25.results.toList
theorem g25reg (R : Fn) {c : Code} {K : Kon} {G : Env → St → Res} {id : Nat} {ops : Array Oper} {l1 l2 : List Nat} (hc : c = .region id ops false) (hl : List.range ops.size = l1 ++ l2) (h : (fun env st => aops Try.prog g25mu (g25T R) 46 ops l2 env st (K .normal)) = G) : (g25X R) c K = fun env st => aops Try.prog g25mu (g25T R) 46 ops l1 env st G := reg_cut hc hl h
theorem g25seq (R : Fn) {c x y : Code} {K : Kon} {G : Env → St → Res} (hc : c = .seq x y) (hy : (g25X R) y K = G) : (g25X R) c K = (g25X R) x (kSeq G K) := seq_cut hc hy
theorem g25blk (R : Fn) {c x : Code} {K : Kon} {i : Nat} (hc : c = .block i x) : (g25X R) c K = (g25X R) x (kBlk i K) := blk_cut hc
theorem g25loop (R : Fn) {c x : Code} {K : Kon} (hc : c = .loop x) : (g25X R) c K = aloop ((g25X R) x) K big := loop_cut hc
theorem g25cond (R : Fn) {c x y : Code} {K : Kon} {v : Operand} {F G : Env → St → Res} (hc : c = .cond v x y) (hx : (g25X R) x K = F) (hy : (g25X R) y K = G) : (g25X R) c K = condF v F G := cond_cut hc hx hy
noncomputable def g25b111 (R : Fn) (x0 : V) (x6 : V) (x7 : V) (x10 : V) (x42 : V) (st : St) : Res :=
 A.cond x42
 (A.ret (s27 [x0.er1] st) fun a1 z2 =>
 A.store 1 x7 a1 z2 fun z3 =>
 A.store 1 x6 x10 z3 fun z4 =>
 some (.ret (.tup []), z4))
 (some (.ret (.tup []), st))
theorem g25e111 (R : Fn) : (g25X R) (g25C [1, 1, 1]) ((g25kr R)) = fun env st => (g25b111 R) (env 0) (env 6) (env 7) (env 10) (env 42) st := by
  refine Eq.trans (Eq.refl ((g25X R) (g25C [1, 1, 1]) ((g25kr R)))) ?_
  funext env st
  kernel_rfl
noncomputable def g25b1 (R : Fn) (x0 : V) (x4 : V) (x5 : V) (x6 : V) (x7 : V) (st : St) : Res :=
 A.load false 1 x4 st fun a1 z2 =>
 A.load false 1 x5 z2 fun a3 z4 =>
 A.ret (s28 [x0.er1, a1.er1, a3.er1] z4) fun a5 z6 =>
 A.load false 1 x6 z6 fun a7 z8 =>
 A.bin .lss a7 (.int .i64 0) fun a9 =>
 A.guard a9 false
 (A.load false 1 x6 z8 fun a10 z11 =>
 A.bin .lss a5 a10 fun a12 =>
 (g25b111 R) x0 x6 x7 a5 a12 z11)
 ((g25b111 R) x0 x6 x7 a5 (.bool true) z8)
theorem g25n1 : g25C [1] = .seq (g25C [1, 0]) (g25C [1, 1]) := by kernel_rfl
theorem g25n11 : g25C [1, 1] = .seq (g25C [1, 1, 0]) (g25C [1, 1, 1]) := by kernel_rfl
theorem g25e1 (R : Fn) : (g25X R) (g25C [1]) ((g25kr R)) = fun env st => (g25b1 R) (env 0) (env 4) (env 5) (env 6) (env 7) st := by
  refine Eq.trans ((g25seq R) g25n1 ((g25seq R) g25n11 ((g25e111 R)))) ?_
  funext env st
  kernel_rfl
noncomputable def g25k0 (R : Fn) : Kon := kSeq (fun env st => (g25b1 R) (env 0) (env 4) (env 5) (env 6) (env 7) st) ((g25kr R))
noncomputable def g25k1 (R : Fn) : Kon := kSeq ((g25X R) (g25C [0, 1, 0, 1]) ((g25k0 R))) ((g25k0 R))
noncomputable def g25k2 (R : Fn) : Kon := kBlk 0 ((g25k1 R))
noncomputable def g25b010010 (R : Fn) : Nat → V → V → V → V → St → Res
| 0, _, _, _, _, _ => none
| n + 1, x0, x2, x3, x9, st =>
 A.noP (A.ret (s27 [x0.er1] st) kid) fun a1 z2 =>
 A.bslice 1 (.int .i64 0) 1 [(0, x9)] fun a3 =>
 A.noP (A.app 1 a1 (elemsOf 5 1 a3 z2) z2 kid) fun a4 z5 =>
 A.noP (A.ret (s26 [a4.er1] z5) kid) fun a6 z7 =>
 A.load false 1 x2 z7 fun a8 _ =>
 A.chk (ldv false 1 x2 z5) a8
 (A.chk (ldv false 1 x2 z2) a8
 (A.chk (ldv false 1 x2 st) a8
 (A.bin .leq a6 a8 fun a9 =>
 A.cond a9
 (A.load false 1 x3 z7 fun a10 _ =>
 A.noP (A.ret (s27 [x0.er1] z7) kid) fun a11 z12 =>
 A.chk (ldv false 1 x3 z12) a10
 (A.bslice 1 (.int .i64 0) 1 [(0, x9)] fun a13 =>
 A.noP (A.app 1 a11 (elemsOf 5 1 a13 z12) z12 kid) fun a14 z15 =>
 A.chk (ldv false 1 x3 z15) a10
 (A.noP (A.call (g25T R) a10 [a14] z15 kid) fun a16 z17 =>
 A.bin .add x9 (.int .i64 1) fun a18 =>
 ((g25b010010 R) n) x0 x2 x3 a18 z17)))
 (some (.ret (.tup []), z7)))))
theorem g25n010010 : g25C [0, 1, 0, 0, 1, 0] = .loop (g25C [0, 1, 0, 0, 1, 0, 0]) := by kernel_rfl
noncomputable def g25k3 (R : Fn) (L010010 : V → V → V → V → St → Res) : Kon := kSeq (fun env st => L010010 (env 0) (env 2) (env 3) (env 9) st) ((g25k2 R))
theorem g25e010010 (R : Fn) : (g25X R) (g25C [0, 1, 0, 0, 1, 0]) ((g25k2 R)) = fun env st => (g25b010010 R) big (env 0) (env 2) (env 3) (env 9) st := by
  have key : ∀ n, aloop ((g25X R) (g25C [0, 1, 0, 0, 1, 0, 0])) ((g25k2 R)) n = fun env st => (g25b010010 R) n (env 0) (env 2) (env 3) (env 9) st := by
    intro n
    induction n with
    | zero => rfl
    | succ n ih =>
      have h : aloop ((g25X R) (g25C [0, 1, 0, 0, 1, 0, 0])) ((g25k2 R)) (n + 1) = (g25X R) (g25C [0, 1, 0, 0, 1, 0, 0]) (kSeq (aloop ((g25X R) (g25C [0, 1, 0, 0, 1, 0, 0])) ((g25k2 R)) n) ((g25k2 R))) := rfl
      rw [h, ih]
      refine Eq.trans (Eq.refl _) ?_
      funext env st
      kernel_rfl
  exact ((g25loop R) g25n010010).trans (key big)
noncomputable def f25 (R : Fn) (x0 : V) (x1 : V) (x2 : V) (x3 : V) (x4 : V) (x5 : V) (x6 : V) (x7 : V) (st : St) : Res :=
 A.lenL x0 fun a1 =>
 A.load false 1 x1 st fun a2 z3 =>
 A.bin .lss a1 a2 fun a4 =>
 A.cond a4
 ((g25b010010 R) big x0 x2 x3 (.int .i64 1) z3)
 ((g25b1 R) x0 x4 x5 x6 x7 z3)
theorem g25nr : g25C [] = .seq (g25C [0]) (g25C [1]) := by kernel_rfl
theorem g25n0 : g25C [0] = .seq (g25C [0, 0]) (g25C [0, 1]) := by kernel_rfl
theorem g25n01 : g25C [0, 1] = .cond (.tmp 14) (g25C [0, 1, 0]) (g25C [0, 1, 1]) := by kernel_rfl
theorem g25n010 : g25C [0, 1, 0] = .seq (g25C [0, 1, 0, 0]) (g25C [0, 1, 0, 1]) := by kernel_rfl
theorem g25n0100 : g25C [0, 1, 0, 0] = .seq (g25C [0, 1, 0, 0, 0]) (g25C [0, 1, 0, 0, 1]) := by kernel_rfl
theorem g25n01001 : g25C [0, 1, 0, 0, 1] = .block 0 (g25C [0, 1, 0, 0, 1, 0]) := by kernel_rfl
theorem g25er (R : Fn) (env : Env) (st : St) : (g25X R) (g25C []) (g25kr R) env st = (f25 R) (env 0) (env 1) (env 2) (env 3) (env 4) (env 5) (env 6) (env 7) st := by
  rw [(((g25seq R) g25nr ((g25e1 R))).trans ((g25seq R) g25n0 ((g25cond R) g25n01 (((g25seq R) g25n010 rfl).trans ((g25seq R) g25n0100 (((g25blk R) g25n01001).trans ((g25e010010 R))))) rfl)))]
  kernel_rfl
theorem s25n_eq (n : Nat) (x0 : V) (x1 : V) (x2 : V) (x3 : V) (x4 : V) (x5 : V) (x6 : V) (x7 : V) (st : St) : s25n (n + 1) [x0, x1, x2, x3, x4, x5, x6, x7] st = (f25 (s25n n)) x0 x1 x2 x3 x4 x5 x6 x7 st := by
  have h : afn Try.prog g25mu (g25T (s25n n)) big (areg Try.prog g25mu (g25T (s25n n))) 25 [x0, x1, x2, x3, x4, x5, x6, x7] st = (g25X (s25n n)) (g25C []) (g25kr (s25n n)) (fun t => [x0, x1, x2, x3, x4, x5, x6, x7].getD t (.tup [])) st := by kernel_rfl
  show afn Try.prog g25mu (g25T (s25n n)) big (areg Try.prog g25mu (g25T (s25n n))) 25 _ st = _
  exact h.trans ((g25er (s25n n)) _ st)
/-! sinew/share.Shares -/
def g12mu : Nat → Bool := fun _ => false
noncomputable def g12T : Tbl := tget [(24, s24), (25, s25)]
theorem g12t : SimT Try.prog g12T := simT_cons sim24 ( simT_cons sim25 (simT_nil))
noncomputable def s12 : Fn := sealF (fun args st => fg (afn Try.prog g12mu g12T big (areg Try.prog g12mu g12T) 12 args st) st)
theorem sim12 : Sim Try.prog 12 s12 := (afn_sim g12t (fun m => areg_sound g12t hmix m) 12 (by kernel_rfl)).fg.sealed
noncomputable def g12C (p : List Nat) : Code := sub (match Try.f12.body with | some c => c | none => .skip) p
noncomputable def g12X (c : Code) (K : Kon) : Env → St → Res := aexec Try.prog g12mu g12T big 72 (areg Try.prog g12mu g12T 72) c K
noncomputable def g12kr : Kon := aresK Try.prog Try.f12.results.toList
theorem g12reg {c : Code} {K : Kon} {G : Env → St → Res} {id : Nat} {ops : Array Oper} {l1 l2 : List Nat} (hc : c = .region id ops false) (hl : List.range ops.size = l1 ++ l2) (h : (fun env st => aops Try.prog g12mu g12T 72 ops l2 env st (K .normal)) = G) : g12X c K = fun env st => aops Try.prog g12mu g12T 72 ops l1 env st G := reg_cut hc hl h
theorem g12seq {c x y : Code} {K : Kon} {G : Env → St → Res} (hc : c = .seq x y) (hy : g12X y K = G) : g12X c K = g12X x (kSeq G K) := seq_cut hc hy
theorem g12blk {c x : Code} {K : Kon} {i : Nat} (hc : c = .block i x) : g12X c K = g12X x (kBlk i K) := blk_cut hc
theorem g12loop {c x : Code} {K : Kon} (hc : c = .loop x) : g12X c K = aloop (g12X x) K big := loop_cut hc
theorem g12cond {c x y : Code} {K : Kon} {v : Operand} {F G : Env → St → Res} (hc : c = .cond v x y) (hx : g12X x K = F) (hy : g12X y K = G) : g12X c K = condF v F G := cond_cut hc hx hy
noncomputable def g12k0 : Kon := kSeq (g12X (g12C [1, 1, 1, 1]) (g12kr)) (g12kr)
noncomputable def g12k1 : Kon := kBlk 0 (g12k0)
noncomputable def g12k2 (L111010 : V → V → V → V → V → V → V → V → St → Res) : Kon := kSeq (fun env st => L111010 (env 4) (env 5) (env 6) (env 7) (env 10) (env 43) (env 44) (env 45) st) (g12k1)
noncomputable def g12k3 (L111010 : V → V → V → V → V → V → V → V → St → Res) : Kon := kSeq (g12X (g12C [1, 1, 1, 0, 1, 0, 0, 1, 1, 1]) (g12k2 L111010)) (g12k2 L111010)
noncomputable def g12k4 (L111010 : V → V → V → V → V → V → V → V → St → Res) : Kon := kBlk 1 (g12k3 L111010)
noncomputable def g12k5 (L111010 : V → V → V → V → V → V → V → V → St → Res) : Kon := kSeq (g12X (g12C [1, 1, 1, 0, 1, 0, 0, 1, 1, 0, 0, 1, 1]) (g12k4 L111010)) (g12k4 L111010)
noncomputable def g12b1110100110010_13 (L111010 : V → V → V → V → V → V → V → V → St → Res) (x4 : V) (x5 : V) (x6 : V) (x7 : V) (x10 : V) (x12 : V) (x43 : V) (x44 : V) (x45 : V) (x62 : V) (st : St) : Res :=
 A.guard x62 false
 (A.ret (s24 [x12.er1, x10.er1] st) fun a1 z2 =>
 A.cond a1
 (some (.ret (.tup [((.lst [] 1) : V).er1, ((.int .i64 1) : V).er1]), z2))
 (A.bin .add x45 (.int .i64 1) fun a3 =>
 L111010 x4 x5 x6 x7 x10 x43 x44 a3 z2))
 (some (.ret (.tup [((.lst [] 1) : V).er1, ((.int .i64 1) : V).er1]), st))
theorem g12e1110100110010_13 (L111010 : V → V → V → V → V → V → V → V → St → Res) : (fun env st => aops Try.prog g12mu g12T 72 (rops (g12C [1, 1, 1, 0, 1, 0, 0, 1, 1, 0, 0, 1, 0])) [13, 14, 15, 16] env st ((g12k5 L111010) .normal)) = fun env st => g12b1110100110010_13 L111010 (env 4) (env 5) (env 6) (env 7) (env 10) (env 12) (env 43) (env 44) (env 45) (env 62) st := by
  refine Eq.trans (Eq.refl _) ?_
  funext env st
  kernel_rfl
noncomputable def g12b1110100110010_6 (L111010 : V → V → V → V → V → V → V → V → St → Res) (x4 : V) (x5 : V) (x6 : V) (x7 : V) (x10 : V) (x11 : V) (x12 : V) (x43 : V) (x44 : V) (x45 : V) (x55 : V) (st : St) : Res :=
 A.guard x55 false
 (A.load false 1 x7 st fun a1 z2 =>
 A.iaddr 1 a1 x11 fun a3 =>
 A.load false 1 a3 z2 fun a4 z5 =>
 A.bin .gtr a4 (.int .i64 1048576) fun a6 =>
 g12b1110100110010_13 L111010 x4 x5 x6 x7 x10 x12 x43 x44 x45 a6 z5)
 (g12b1110100110010_13 L111010 x4 x5 x6 x7 x10 x12 x43 x44 x45 (.bool true) st)
theorem g12e1110100110010_6 (L111010 : V → V → V → V → V → V → V → V → St → Res) : (fun env st => aops Try.prog g12mu g12T 72 (rops (g12C [1, 1, 1, 0, 1, 0, 0, 1, 1, 0, 0, 1, 0])) [6, 7, 8, 9, 10, 11, 12, 13, 14, 15, 16] env st ((g12k5 L111010) .normal)) = fun env st => g12b1110100110010_6 L111010 (env 4) (env 5) (env 6) (env 7) (env 10) (env 11) (env 12) (env 43) (env 44) (env 45) (env 55) st := by
  refine Eq.trans (ops_cut (l1 := [6, 7, 8, 9, 10, 11, 12]) (l2 := [13, 14, 15, 16]) (g12e1110100110010_13 L111010)) ?_
  funext env st
  kernel_rfl
noncomputable def g12b111010 : Nat → V → V → V → V → V → V → V → V → St → Res
| 0, _, _, _, _, _, _, _, _, _ => none
| n + 1, x4, x5, x6, x7, x10, x43, x44, x45, st =>
 A.bin .lss x45 x44 fun a1 =>
 A.cond a1
 (A.iaddr 1 x43 x45 fun a2 =>
 A.load false 1 a2 st fun a3 z4 =>
 A.load false 1 x7 z4 fun a5 z6 =>
 A.iaddr 1 a5 x45 fun a7 =>
 A.load false 1 a7 z6 fun a8 z9 =>
 A.bin .lss a8 (.int .i64 0) fun a10 =>
 g12b1110100110010_6 (g12b111010 n) x4 x5 x6 x7 x10 x45 a3 x43 x44 x45 a10 z9)
 (A.box (.lst [] 1) st fun a11 z12 =>
 A.box (.int .i64 0) z12 fun a13 z14 =>
 A.store 1 a13 (.int .i64 (-1)) z14 fun z15 =>
 A.box .fn0 z15 fun a16 z17 =>
 A.store 1 a16 (.fn 25 [] [x5, x4, a16, x6, x7, a13, a11]) z17 fun z18 =>
 A.load false 1 a16 z18 fun a19 z20 =>
 A.call g12T a19 [(.lst [] 1)] z20 fun a21 z22 =>
 A.load false 1 a11 z22 fun a23 z24 =>
 some (.ret (.tup [a23.er1, ((.int .i64 0) : V).er1]), z24))
theorem g12n111010 : g12C [1, 1, 1, 0, 1, 0] = .loop (g12C [1, 1, 1, 0, 1, 0, 0]) := by kernel_rfl
theorem g12n1110100 : g12C [1, 1, 1, 0, 1, 0, 0] = .seq (g12C [1, 1, 1, 0, 1, 0, 0, 0]) (g12C [1, 1, 1, 0, 1, 0, 0, 1]) := by kernel_rfl
theorem g12n11101001 : g12C [1, 1, 1, 0, 1, 0, 0, 1] = .seq (g12C [1, 1, 1, 0, 1, 0, 0, 1, 0]) (g12C [1, 1, 1, 0, 1, 0, 0, 1, 1]) := by kernel_rfl
theorem g12n111010011 : g12C [1, 1, 1, 0, 1, 0, 0, 1, 1] = .seq (g12C [1, 1, 1, 0, 1, 0, 0, 1, 1, 0]) (g12C [1, 1, 1, 0, 1, 0, 0, 1, 1, 1]) := by kernel_rfl
theorem g12n1110100110 : g12C [1, 1, 1, 0, 1, 0, 0, 1, 1, 0] = .block 1 (g12C [1, 1, 1, 0, 1, 0, 0, 1, 1, 0, 0]) := by kernel_rfl
theorem g12n11101001100 : g12C [1, 1, 1, 0, 1, 0, 0, 1, 1, 0, 0] = .seq (g12C [1, 1, 1, 0, 1, 0, 0, 1, 1, 0, 0, 0]) (g12C [1, 1, 1, 0, 1, 0, 0, 1, 1, 0, 0, 1]) := by kernel_rfl
theorem g12n111010011001 : g12C [1, 1, 1, 0, 1, 0, 0, 1, 1, 0, 0, 1] = .seq (g12C [1, 1, 1, 0, 1, 0, 0, 1, 1, 0, 0, 1, 0]) (g12C [1, 1, 1, 0, 1, 0, 0, 1, 1, 0, 0, 1, 1]) := by kernel_rfl
theorem g12rg1110100110010 : g12C [1, 1, 1, 0, 1, 0, 0, 1, 1, 0, 0, 1, 0] = .region 7 (rops (g12C [1, 1, 1, 0, 1, 0, 0, 1, 1, 0, 0, 1, 0])) false := by kernel_rfl
theorem g12rg1110100110010l : List.range (rops (g12C [1, 1, 1, 0, 1, 0, 0, 1, 1, 0, 0, 1, 0])).size = [0, 1, 2, 3, 4, 5] ++ [6, 7, 8, 9, 10, 11, 12, 13, 14, 15, 16] := by kernel_rfl
theorem g12e111010 : g12X (g12C [1, 1, 1, 0, 1, 0]) (g12k1) = fun env st => g12b111010 big (env 4) (env 5) (env 6) (env 7) (env 10) (env 43) (env 44) (env 45) st := by
  have key : ∀ n, aloop (g12X (g12C [1, 1, 1, 0, 1, 0, 0])) (g12k1) n = fun env st => g12b111010 n (env 4) (env 5) (env 6) (env 7) (env 10) (env 43) (env 44) (env 45) st := by
    intro n
    induction n with
    | zero => rfl
    | succ n ih =>
      have h : aloop (g12X (g12C [1, 1, 1, 0, 1, 0, 0])) (g12k1) (n + 1) = g12X (g12C [1, 1, 1, 0, 1, 0, 0]) (kSeq (aloop (g12X (g12C [1, 1, 1, 0, 1, 0, 0])) (g12k1) n) (g12k1)) := rfl
      rw [h, ih]
      refine Eq.trans (g12seq g12n1110100 (g12seq g12n11101001 ((g12seq g12n111010011 rfl).trans ((g12blk g12n1110100110).trans (g12seq g12n11101001100 ((g12seq g12n111010011001 rfl).trans (g12reg g12rg1110100110010 g12rg1110100110010l (g12e1110100110010_6 (g12b111010 n))))))))) ?_
      funext env st
      kernel_rfl
  exact (g12loop g12n111010).trans (key big)
noncomputable def g12b11101 (x4 : V) (x5 : V) (x6 : V) (x7 : V) (x10 : V) (x43 : V) (x44 : V) (x45 : V) (st : St) : Res :=
 g12b111010 big x4 x5 x6 x7 x10 x43 x44 x45 st
theorem g12n11101 : g12C [1, 1, 1, 0, 1] = .block 0 (g12C [1, 1, 1, 0, 1, 0]) := by kernel_rfl
theorem g12e11101 : g12X (g12C [1, 1, 1, 0, 1]) (g12k0) = fun env st => g12b11101 (env 4) (env 5) (env 6) (env 7) (env 10) (env 43) (env 44) (env 45) st := by
  refine Eq.trans ((g12blk g12n11101).trans (g12e111010)) ?_
  funext env st
  kernel_rfl
noncomputable def g12b11 (x4 : V) (x5 : V) (x6 : V) (x7 : V) (st : St) : Res :=
 A.load false 1 x6 st fun a1 z2 =>
 A.lenL a1 fun a3 =>
 g12b11101 x4 x5 x6 x7 (.fn 23 [] [x5]) a1 a3 (.int .i64 0) z2
theorem g12n11 : g12C [1, 1] = .seq (g12C [1, 1, 0]) (g12C [1, 1, 1]) := by kernel_rfl
theorem g12n111 : g12C [1, 1, 1] = .seq (g12C [1, 1, 1, 0]) (g12C [1, 1, 1, 1]) := by kernel_rfl
theorem g12n1110 : g12C [1, 1, 1, 0] = .seq (g12C [1, 1, 1, 0, 0]) (g12C [1, 1, 1, 0, 1]) := by kernel_rfl
theorem g12e11 : g12X (g12C [1, 1]) (g12kr) = fun env st => g12b11 (env 4) (env 5) (env 6) (env 7) st := by
  refine Eq.trans (g12seq g12n11 ((g12seq g12n111 rfl).trans (g12seq g12n1110 (g12e11101)))) ?_
  funext env st
  kernel_rfl
noncomputable def g12k6 : Kon := kSeq (fun env st => g12b11 (env 4) (env 5) (env 6) (env 7) st) (g12kr)
noncomputable def g12k7 : Kon := kSeq (g12X (g12C [1, 0, 1]) (g12k6)) (g12k6)
noncomputable def g12b100_22 (x4 : V) (x5 : V) (x6 : V) (x7 : V) (x37 : V) (st : St) : Res :=
 A.guard x37 false
 (A.load false 1 x6 st fun a1 z2 =>
 A.lenL a1 fun a3 =>
 A.bin .gtr a3 (.int .i64 12) fun a4 =>
 A.cond a4
 (some (.ret (.tup [((.lst [] 1) : V).er1, ((.int .i64 1) : V).er1]), z2))
 (g12b11 x4 x5 x6 x7 z2))
 (some (.ret (.tup [((.lst [] 1) : V).er1, ((.int .i64 1) : V).er1]), st))
theorem g12e100_22 : (fun env st => aops Try.prog g12mu g12T 72 (rops (g12C [1, 0, 0])) [22, 23, 24, 25] env st ((g12k7) .normal)) = fun env st => g12b100_22 (env 4) (env 5) (env 6) (env 7) (env 37) st := by
  refine Eq.trans (Eq.refl _) ?_
  funext env st
  kernel_rfl
noncomputable def g12b100_15 (x4 : V) (x5 : V) (x6 : V) (x7 : V) (x30 : V) (st : St) : Res :=
 A.guard x30 false
 (A.load false 1 x6 st fun a1 z2 =>
 A.lenL a1 fun a3 =>
 A.load false 1 x7 z2 fun a4 z5 =>
 A.lenL a4 fun a6 =>
 A.eql 2 true a3 a6 fun a7 =>
 g12b100_22 x4 x5 x6 x7 a7 z5)
 (g12b100_22 x4 x5 x6 x7 (.bool true) st)
theorem g12e100_15 : (fun env st => aops Try.prog g12mu g12T 72 (rops (g12C [1, 0, 0])) [15, 16, 17, 18, 19, 20, 21, 22, 23, 24, 25] env st ((g12k7) .normal)) = fun env st => g12b100_15 (env 4) (env 5) (env 6) (env 7) (env 30) st := by
  refine Eq.trans (ops_cut (l1 := [15, 16, 17, 18, 19, 20, 21]) (l2 := [22, 23, 24, 25]) (g12e100_22)) ?_
  funext env st
  kernel_rfl
noncomputable def g12b100_7 (x4 : V) (x5 : V) (x6 : V) (x7 : V) (x22 : V) (st : St) : Res :=
 A.guard x22 false
 (A.load false 1 x5 st fun a1 z2 =>
 A.bin .lss a1 (.int .i64 0) fun a3 =>
 A.guard a3 false
 (A.load false 1 x5 z2 fun a4 z5 =>
 A.bin .gtr a4 (.int .i64 6) fun a6 =>
 g12b100_15 x4 x5 x6 x7 a6 z5)
 (g12b100_15 x4 x5 x6 x7 (.bool true) z2))
 (g12b100_15 x4 x5 x6 x7 (.bool true) st)
theorem g12e100_7 : (fun env st => aops Try.prog g12mu g12T 72 (rops (g12C [1, 0, 0])) [7, 8, 9, 10, 11, 12, 13, 14, 15, 16, 17, 18, 19, 20, 21, 22, 23, 24, 25] env st ((g12k7) .normal)) = fun env st => g12b100_7 (env 4) (env 5) (env 6) (env 7) (env 22) st := by
  refine Eq.trans (ops_cut (l1 := [7, 8, 9, 10, 11, 12, 13, 14]) (l2 := [15, 16, 17, 18, 19, 20, 21, 22, 23, 24, 25]) (g12e100_15)) ?_
  funext env st
  kernel_rfl
noncomputable def f12 (x0 : V) (x1 : V) (x2 : V) (x3 : V) (st : St) : Res :=
 A.box x0 st fun a1 z2 =>
 A.box x1 z2 fun a3 z4 =>
 A.box x2 z4 fun a5 z6 =>
 A.box x3 z6 fun a7 z8 =>
 A.load false 1 a1 z8 fun a9 z10 =>
 A.bin .lss a9 (.int .i64 1) fun a11 =>
 A.guard a11 false
 (A.load false 1 a1 z10 fun a12 z13 =>
 A.bin .gtr a12 (.int .i64 64) fun a14 =>
 g12b100_7 a1 a3 a5 a7 a14 z13)
 (g12b100_7 a1 a3 a5 a7 (.bool true) z10)
theorem g12nr : g12C [] = .seq (g12C [0]) (g12C [1]) := by kernel_rfl
theorem g12n1 : g12C [1] = .seq (g12C [1, 0]) (g12C [1, 1]) := by kernel_rfl
theorem g12n10 : g12C [1, 0] = .seq (g12C [1, 0, 0]) (g12C [1, 0, 1]) := by kernel_rfl
theorem g12rg100 : g12C [1, 0, 0] = .region 1 (rops (g12C [1, 0, 0])) false := by kernel_rfl
theorem g12rg100l : List.range (rops (g12C [1, 0, 0])).size = [0, 1, 2, 3, 4, 5, 6] ++ [7, 8, 9, 10, 11, 12, 13, 14, 15, 16, 17, 18, 19, 20, 21, 22, 23, 24, 25] := by kernel_rfl
theorem g12er (env : Env) (st : St) : g12X (g12C []) g12kr env st = f12 (env 0) (env 1) (env 2) (env 3) st := by
  rw [(g12seq g12nr ((g12seq g12n1 (g12e11)).trans ((g12seq g12n10 rfl).trans (g12reg g12rg100 g12rg100l (g12e100_7)))))]
  kernel_rfl
theorem s12_eq (x0 : V) (x1 : V) (x2 : V) (x3 : V) (st : St) : s12 [x0, x1, x2, x3] st = fg (f12 x0 x1 x2 x3 st) st := by
  have h : afn Try.prog g12mu g12T big (areg Try.prog g12mu g12T) 12 [x0, x1, x2, x3] st = g12X (g12C []) g12kr (fun t => [x0, x1, x2, x3].getD t (.tup [])) st := by kernel_rfl
  rw [s12, sealF_eq]
  show fg _ st = fg _ st
  refine congrArg (fun r => fg r st) ?_
  exact h.trans (g12er _ st)
/-! sinew/sinewlaw13.light -/
def g10mu : Nat → Bool := fun _ => false
noncomputable def g10T : Tbl := tget []
theorem g10t : SimT Try.prog g10T := simT_nil
noncomputable def s10 : Fn := sealF (afn Try.prog g10mu g10T big (areg Try.prog g10mu g10T) 10)
theorem sim10 : Sim Try.prog 10 s10 := (afn_sim g10t (fun m => areg_sound g10t hmix m) 10 (by kernel_rfl)).sealed
noncomputable def g10C (p : List Nat) : Code := sub (match Try.f10.body with | some c => c | none => .skip) p
noncomputable def g10X (c : Code) (K : Kon) : Env → St → Res := aexec Try.prog g10mu g10T big 20 (areg Try.prog g10mu g10T 20) c K
noncomputable def g10kr : Kon := aresK Try.prog Try.f10.results.toList
theorem g10reg {c : Code} {K : Kon} {G : Env → St → Res} {id : Nat} {ops : Array Oper} {l1 l2 : List Nat} (hc : c = .region id ops false) (hl : List.range ops.size = l1 ++ l2) (h : (fun env st => aops Try.prog g10mu g10T 20 ops l2 env st (K .normal)) = G) : g10X c K = fun env st => aops Try.prog g10mu g10T 20 ops l1 env st G := reg_cut hc hl h
theorem g10seq {c x y : Code} {K : Kon} {G : Env → St → Res} (hc : c = .seq x y) (hy : g10X y K = G) : g10X c K = g10X x (kSeq G K) := seq_cut hc hy
theorem g10blk {c x : Code} {K : Kon} {i : Nat} (hc : c = .block i x) : g10X c K = g10X x (kBlk i K) := blk_cut hc
theorem g10loop {c x : Code} {K : Kon} (hc : c = .loop x) : g10X c K = aloop (g10X x) K big := loop_cut hc
theorem g10cond {c x y : Code} {K : Kon} {v : Operand} {F G : Env → St → Res} (hc : c = .cond v x y) (hx : g10X x K = F) (hy : g10X y K = G) : g10X c K = condF v F G := cond_cut hc hx hy
noncomputable def g10k0 : Kon := kSeq (g10X (g10C [1, 1]) (g10kr)) (g10kr)
noncomputable def g10k1 : Kon := kBlk 0 (g10k0)
noncomputable def g10b1010 : Nat → V → V → St → Res
| 0, _, _, _ => none
| n + 1, x0, x3, st =>
 A.lenL x0 fun a1 =>
 A.bin .lss x3 a1 fun a2 =>
 A.cond a2
 (A.bin .gtr x3 (.int .i64 20) fun a3 =>
 A.guard a3 false
 (A.iaddr 1 x0 x3 fun a4 =>
 A.load false 1 a4 st fun a5 z6 =>
 A.lenL a5 fun a7 =>
 A.bin .gtr a7 (.int .i64 20) fun a8 =>
 A.cond a8
 (some (.ret ((.bool false) : V).er1, z6))
 (A.bin .add x3 (.int .i64 1) fun a9 =>
 (g10b1010 n) x0 a9 z6))
 (some (.ret ((.bool false) : V).er1, st)))
 (some (.ret ((.bool true) : V).er1, st))
theorem g10n1010 : g10C [1, 0, 1, 0] = .loop (g10C [1, 0, 1, 0, 0]) := by kernel_rfl
noncomputable def g10k2 (L1010 : V → V → St → Res) : Kon := kSeq (fun env st => L1010 (env 0) (env 3) st) (g10k1)
theorem g10e1010 : g10X (g10C [1, 0, 1, 0]) (g10k1) = fun env st => g10b1010 big (env 0) (env 3) st := by
  have key : ∀ n, aloop (g10X (g10C [1, 0, 1, 0, 0])) (g10k1) n = fun env st => g10b1010 n (env 0) (env 3) st := by
    intro n
    induction n with
    | zero => rfl
    | succ n ih =>
      have h : aloop (g10X (g10C [1, 0, 1, 0, 0])) (g10k1) (n + 1) = g10X (g10C [1, 0, 1, 0, 0]) (kSeq (aloop (g10X (g10C [1, 0, 1, 0, 0])) (g10k1) n) (g10k1)) := rfl
      rw [h, ih]
      refine Eq.trans (Eq.refl _) ?_
      funext env st
      kernel_rfl
  exact (g10loop g10n1010).trans (key big)
noncomputable def f10 (x0 : V) (st : St) : Res :=
 g10b1010 big x0 (.int .i64 0) st
theorem g10nr : g10C [] = .seq (g10C [0]) (g10C [1]) := by kernel_rfl
theorem g10n1 : g10C [1] = .seq (g10C [1, 0]) (g10C [1, 1]) := by kernel_rfl
theorem g10n10 : g10C [1, 0] = .seq (g10C [1, 0, 0]) (g10C [1, 0, 1]) := by kernel_rfl
theorem g10n101 : g10C [1, 0, 1] = .block 0 (g10C [1, 0, 1, 0]) := by kernel_rfl
theorem g10er (env : Env) (st : St) : g10X (g10C []) g10kr env st = f10 (env 0) st := by
  rw [(g10seq g10nr ((g10seq g10n1 rfl).trans (g10seq g10n10 ((g10blk g10n101).trans (g10e1010)))))]
  kernel_rfl
theorem s10_eq (x0 : V) (st : St) : s10 [x0] st = f10 x0 st := by
  have h : afn Try.prog g10mu g10T big (areg Try.prog g10mu g10T) 10 [x0] st = g10X (g10C []) g10kr (fun t => [x0].getD t (.tup [])) st := by kernel_rfl
  rw [s10, sealF_eq]
  exact h.trans (g10er _ st)
end Go.Ab
