import Derived.Test.YtimicmlpaaohoaaAbQuiet
import Derived.Test.YtimicmlpaaohoaaAbP156
namespace Go.Ab
open Go.Proofs
set_option linter.unusedVariables false
set_option maxRecDepth 100000
/-! sinew/sinewlaw15.LinkNobody -/
def g7mu : Nat → Bool := fun _ => false
noncomputable def g7T : Tbl := tget [(11, s11), (13, s13), (16, s16), (19, s19), (22, s22), (23, s23)]
theorem g7t : SimT Try.prog g7T := simT_cons sim11 ( simT_cons sim13 ( simT_cons sim16 ( simT_cons sim19 ( simT_cons sim22 ( simT_cons sim23 (simT_nil))))))
noncomputable def s7 : Fn := sealF (afn Try.prog g7mu g7T big (areg Try.prog g7mu g7T) 7)
theorem sim7 : Sim Try.prog 7 s7 := (afn_sim g7t (fun m => areg_sound g7t hmix m) 7 (by kernel_rfl)).sealed
noncomputable def g7C (p : List Nat) : Code := sub (match Try.f7.body with | some c => c | none => .skip) p
noncomputable def g7X (c : Code) (K : Kon) : Env → St → Res := aexec Try.prog g7mu g7T big 81 (areg Try.prog g7mu g7T 81) c K
noncomputable def g7kr : Kon := aresK Try.prog Try.f7.results.toList
theorem g7reg {c : Code} {K : Kon} {G : Env → St → Res} {id : Nat} {ops : Array Oper} {l1 l2 : List Nat} (hc : c = .region id ops false) (hl : List.range ops.size = l1 ++ l2) (h : (fun env st => aops Try.prog g7mu g7T 81 ops l2 env st (K .normal)) = G) : g7X c K = fun env st => aops Try.prog g7mu g7T 81 ops l1 env st G := reg_cut hc hl h
theorem g7seq {c x y : Code} {K : Kon} {G : Env → St → Res} (hc : c = .seq x y) (hy : g7X y K = G) : g7X c K = g7X x (kSeq G K) := seq_cut hc hy
theorem g7blk {c x : Code} {K : Kon} {i : Nat} (hc : c = .block i x) : g7X c K = g7X x (kBlk i K) := blk_cut hc
theorem g7loop {c x : Code} {K : Kon} (hc : c = .loop x) : g7X c K = aloop (g7X x) K big := loop_cut hc
theorem g7cond {c x y : Code} {K : Kon} {v : Operand} {F G : Env → St → Res} (hc : c = .cond v x y) (hx : g7X x K = F) (hy : g7X y K = G) : g7X c K = condF v F G := cond_cut hc hx hy
noncomputable def g7k0 : Kon := kSeq (g7X (g7C [1, 1, 1]) (g7kr)) (g7kr)
noncomputable def g7k1 : Kon := kBlk 0 (g7k0)
noncomputable def g7k2 (L11010 : V → V → V → V → St → Res) : Kon := kSeq (fun env st => L11010 (env 1) (env 2) (env 5) (env 6) st) (g7k1)
noncomputable def g7k3 (L11010 : V → V → V → V → St → Res) : Kon := kSeq (g7X (g7C [1, 1, 0, 1, 0, 0, 1, 1]) (g7k2 L11010)) (g7k2 L11010)
noncomputable def g7k4 (L11010 : V → V → V → V → St → Res) : Kon := kBlk 1 (g7k3 L11010)
noncomputable def g7k5 (L11010 : V → V → V → V → St → Res) : Kon := kSeq (g7X (g7C [1, 1, 0, 1, 0, 0, 1, 0, 0, 1, 1, 1]) (g7k4 L11010)) (g7k4 L11010)
noncomputable def g7bz5ra_39 (L11010 : V → V → V → V → St → Res) (x1 : V) (x2 : V) (x5 : V) (x6 : V) (x72 : V) (st : St) : Res :=
 A.guard x72 false
 (A.iaddr 1 x5 x6 fun a1 =>
 A.load false 1 a1 st fun a2 z3 =>
 A.ret (s23 [a2.er1] z3) fun a4 z5 =>
 A.eql 2 true a4 (.int .i64 0) fun a6 =>
 A.cond a6
 (some (.ret ((.bool false) : V).er1, z5))
 (A.bin .add x6 (.int .i64 1) fun a7 =>
 L11010 x1 x2 x5 a7 z5))
 (some (.ret ((.bool false) : V).er1, st))
theorem g7ez5ra_39 (L11010 : V → V → V → V → St → Res) : (fun env st => aops Try.prog g7mu g7T 81 (rops (g7C [1, 1, 0, 1, 0, 0, 1, 0, 0, 1, 1, 0])) [39, 40, 41, 42, 43, 44, 45] env st ((g7k5 L11010) .normal)) = fun env st => g7bz5ra_39 L11010 (env 1) (env 2) (env 5) (env 6) (env 72) st := by
  refine Eq.trans (Eq.refl _) ?_
  funext env st
  kernel_rfl
noncomputable def g7bz5ra_27 (L11010 : V → V → V → V → St → Res) (x1 : V) (x2 : V) (x5 : V) (x6 : V) (x9 : V) (x60 : V) (st : St) : Res :=
 A.guard x60 false
 (A.faddr 2 x9 fun a1 =>
 A.load false 1 a1 st fun a2 z3 =>
 A.guard a2 false
 (A.iaddr 1 x5 x6 fun a4 =>
 A.load false 1 a4 z3 fun a5 z6 =>
 A.ret (s22 [a5.er1] z6) fun a7 z8 =>
 A.eql 2 true a7 (.int .i64 0) fun a9 =>
 g7bz5ra_39 L11010 x1 x2 x5 x6 a9 z8)
 (g7bz5ra_39 L11010 x1 x2 x5 x6 (.bool true) z3))
 (g7bz5ra_39 L11010 x1 x2 x5 x6 (.bool true) st)
theorem g7ez5ra_27 (L11010 : V → V → V → V → St → Res) : (fun env st => aops Try.prog g7mu g7T 81 (rops (g7C [1, 1, 0, 1, 0, 0, 1, 0, 0, 1, 1, 0])) [27, 28, 29, 30, 31, 32, 33, 34, 35, 36, 37, 38, 39, 40, 41, 42, 43, 44, 45] env st ((g7k5 L11010) .normal)) = fun env st => g7bz5ra_27 L11010 (env 1) (env 2) (env 5) (env 6) (env 9) (env 60) st := by
  refine Eq.trans (ops_cut (l1 := [27, 28, 29, 30, 31, 32, 33, 34, 35, 36, 37, 38]) (l2 := [39, 40, 41, 42, 43, 44, 45]) (g7ez5ra_39 L11010)) ?_
  funext env st
  kernel_rfl
noncomputable def g7bz5ra_17 (L11010 : V → V → V → V → St → Res) (x1 : V) (x2 : V) (x5 : V) (x6 : V) (x9 : V) (x50 : V) (st : St) : Res :=
 A.guard x50 false
 (A.faddr 0 x9 fun a1 =>
 A.load false 1 a1 st fun a2 z3 =>
 A.lenL a2 fun a4 =>
 A.faddr 1 x9 fun a5 =>
 A.load false 1 a5 z3 fun a6 z7 =>
 A.lenL a6 fun a8 =>
 A.bin .add a4 a8 fun a9 =>
 A.bin .gtr a9 (.int .i64 0) fun a10 =>
 g7bz5ra_27 L11010 x1 x2 x5 x6 x9 a10 z7)
 (g7bz5ra_27 L11010 x1 x2 x5 x6 x9 (.bool true) st)
theorem g7ez5ra_17 (L11010 : V → V → V → V → St → Res) : (fun env st => aops Try.prog g7mu g7T 81 (rops (g7C [1, 1, 0, 1, 0, 0, 1, 0, 0, 1, 1, 0])) [17, 18, 19, 20, 21, 22, 23, 24, 25, 26, 27, 28, 29, 30, 31, 32, 33, 34, 35, 36, 37, 38, 39, 40, 41, 42, 43, 44, 45] env st ((g7k5 L11010) .normal)) = fun env st => g7bz5ra_17 L11010 (env 1) (env 2) (env 5) (env 6) (env 9) (env 50) st := by
  refine Eq.trans (ops_cut (l1 := [17, 18, 19, 20, 21, 22, 23, 24, 25, 26]) (l2 := [27, 28, 29, 30, 31, 32, 33, 34, 35, 36, 37, 38, 39, 40, 41, 42, 43, 44, 45]) (g7ez5ra_27 L11010)) ?_
  funext env st
  kernel_rfl
noncomputable def g7bz5ra_8 (L11010 : V → V → V → V → St → Res) (x1 : V) (x2 : V) (x5 : V) (x6 : V) (x9 : V) (x41 : V) (st : St) : Res :=
 A.guard x41 false
 (A.iaddr 1 x5 x6 fun a1 =>
 A.load false 1 a1 st fun a2 z3 =>
 A.ret (s16 [a2.er1] z3) fun a4 z5 =>
 A.lenL a4 fun a6 =>
 A.bin .gtr a6 (.int .i64 0) fun a7 =>
 g7bz5ra_17 L11010 x1 x2 x5 x6 x9 a7 z5)
 (g7bz5ra_17 L11010 x1 x2 x5 x6 x9 (.bool true) st)
theorem g7ez5ra_8 (L11010 : V → V → V → V → St → Res) : (fun env st => aops Try.prog g7mu g7T 81 (rops (g7C [1, 1, 0, 1, 0, 0, 1, 0, 0, 1, 1, 0])) [8, 9, 10, 11, 12, 13, 14, 15, 16, 17, 18, 19, 20, 21, 22, 23, 24, 25, 26, 27, 28, 29, 30, 31, 32, 33, 34, 35, 36, 37, 38, 39, 40, 41, 42, 43, 44, 45] env st ((g7k5 L11010) .normal)) = fun env st => g7bz5ra_8 L11010 (env 1) (env 2) (env 5) (env 6) (env 9) (env 41) st := by
  refine Eq.trans (ops_cut (l1 := [8, 9, 10, 11, 12, 13, 14, 15, 16]) (l2 := [17, 18, 19, 20, 21, 22, 23, 24, 25, 26, 27, 28, 29, 30, 31, 32, 33, 34, 35, 36, 37, 38, 39, 40, 41, 42, 43, 44, 45]) (g7ez5ra_17 L11010)) ?_
  funext env st
  kernel_rfl
noncomputable def g7bz1ft (L11010 : V → V → V → V → St → Res) (x1 : V) (x2 : V) (x5 : V) (x6 : V) (x7 : V) (x8 : V) (st : St) : Res :=
 A.iaddr 1 x5 x6 fun a1 =>
 A.load false 1 a1 st fun a2 z3 =>
 A.ret (s19 [a2.er1, x1.er1] z3) fun a4 z5 =>
 A.box (.agg [(.lst [] 1), (.lst [] 1), (.bool false)]) z5 fun a6 z7 =>
 A.store 3 a6 a4 z7 fun z8 =>
 A.lenL x7 fun a9 =>
 A.bin .gtr a9 (.int .i64 0) fun a10 =>
 A.guard a10 false
 (A.eql 2 true x8 (.int .i64 1) fun a11 =>
 g7bz5ra_8 L11010 x1 x2 x5 x6 a6 a11 z8)
 (g7bz5ra_8 L11010 x1 x2 x5 x6 a6 (.bool true) z8)
theorem g7nz1ft : g7C [1, 1, 0, 1, 0, 0, 1, 0, 0, 1] = .seq (g7C [1, 1, 0, 1, 0, 0, 1, 0, 0, 1, 0]) (g7C [1, 1, 0, 1, 0, 0, 1, 0, 0, 1, 1]) := by kernel_rfl
theorem g7nz2vn : g7C [1, 1, 0, 1, 0, 0, 1, 0, 0, 1, 1] = .seq (g7C [1, 1, 0, 1, 0, 0, 1, 0, 0, 1, 1, 0]) (g7C [1, 1, 0, 1, 0, 0, 1, 0, 0, 1, 1, 1]) := by kernel_rfl
theorem g7rgz5ra : g7C [1, 1, 0, 1, 0, 0, 1, 0, 0, 1, 1, 0] = .region 7 (rops (g7C [1, 1, 0, 1, 0, 0, 1, 0, 0, 1, 1, 0])) false := by kernel_rfl
theorem g7rgz5ral : List.range (rops (g7C [1, 1, 0, 1, 0, 0, 1, 0, 0, 1, 1, 0])).size = [0, 1, 2, 3, 4, 5, 6, 7] ++ [8, 9, 10, 11, 12, 13, 14, 15, 16, 17, 18, 19, 20, 21, 22, 23, 24, 25, 26, 27, 28, 29, 30, 31, 32, 33, 34, 35, 36, 37, 38, 39, 40, 41, 42, 43, 44, 45] := by kernel_rfl
theorem g7ez1ft (L11010 : V → V → V → V → St → Res) : g7X (g7C [1, 1, 0, 1, 0, 0, 1, 0, 0, 1]) (g7k4 L11010) = fun env st => g7bz1ft L11010 (env 1) (env 2) (env 5) (env 6) (env 7) (env 8) st := by
  refine Eq.trans (g7seq g7nz1ft ((g7seq g7nz2vn rfl).trans (g7reg g7rgz5ra g7rgz5ral (g7ez5ra_8 L11010)))) ?_
  funext env st
  kernel_rfl
noncomputable def g7b11010 : Nat → V → V → V → V → St → Res
| 0, _, _, _, _, _ => none
| n + 1, x1, x2, x5, x6, st =>
 A.lenL x5 fun a1 =>
 A.bin .lss x6 a1 fun a2 =>
 A.cond a2
 (A.iaddr 1 x5 x6 fun a3 =>
 A.load false 1 a3 st fun a4 _ =>
 A.load true 4 x2 st fun a5 _ =>
 A.noP (A.ret (s13 [a4.er1, a5.er1] st) kid) fun a6 z7 =>
 A.ext a6 0 fun a8 =>
 A.ext a6 1 fun a9 =>
 g7bz1ft (g7b11010 n) x1 x2 x5 x6 a8 a9 z7)
 (A.ret (s11 [] st) fun a10 z11 =>
 some (.ret a10.er1, z11))
theorem g7n11010 : g7C [1, 1, 0, 1, 0] = .loop (g7C [1, 1, 0, 1, 0, 0]) := by kernel_rfl
theorem g7nz38 : g7C [1, 1, 0, 1, 0, 0] = .seq (g7C [1, 1, 0, 1, 0, 0, 0]) (g7C [1, 1, 0, 1, 0, 0, 1]) := by kernel_rfl
theorem g7nz6h : g7C [1, 1, 0, 1, 0, 0, 1] = .seq (g7C [1, 1, 0, 1, 0, 0, 1, 0]) (g7C [1, 1, 0, 1, 0, 0, 1, 1]) := by kernel_rfl
theorem g7nzcy : g7C [1, 1, 0, 1, 0, 0, 1, 0] = .block 1 (g7C [1, 1, 0, 1, 0, 0, 1, 0, 0]) := by kernel_rfl
theorem g7nzpw : g7C [1, 1, 0, 1, 0, 0, 1, 0, 0] = .seq (g7C [1, 1, 0, 1, 0, 0, 1, 0, 0, 0]) (g7C [1, 1, 0, 1, 0, 0, 1, 0, 0, 1]) := by kernel_rfl
theorem g7e11010 : g7X (g7C [1, 1, 0, 1, 0]) (g7k1) = fun env st => g7b11010 big (env 1) (env 2) (env 5) (env 6) st := by
  have key : ∀ n, aloop (g7X (g7C [1, 1, 0, 1, 0, 0])) (g7k1) n = fun env st => g7b11010 n (env 1) (env 2) (env 5) (env 6) st := by
    intro n
    induction n with
    | zero => rfl
    | succ n ih =>
      have h : aloop (g7X (g7C [1, 1, 0, 1, 0, 0])) (g7k1) (n + 1) = g7X (g7C [1, 1, 0, 1, 0, 0]) (kSeq (aloop (g7X (g7C [1, 1, 0, 1, 0, 0])) (g7k1) n) (g7k1)) := rfl
      rw [h, ih]
      refine Eq.trans (g7seq g7nz38 ((g7seq g7nz6h rfl).trans ((g7blk g7nzcy).trans (g7seq g7nzpw (g7ez1ft (g7b11010 n)))))) ?_
      funext env st
      kernel_rfl
  exact (g7loop g7n11010).trans (key big)
noncomputable def f7 (x0 : V) (x1 : V) (st : St) : Res :=
 A.box x0 st fun a1 z2 =>
 A.build [(.int .i64 0), (.int .i64 0), (.int .i64 0), (.int .i64 0), (.lst [] 1)] [] fun a3 =>
 A.box a3 z2 fun a4 z5 =>
 A.bslice 1 .ptr0 2 [(0, .ptr0), (1, a4)] fun a6 =>
 g7b11010 big x1 a1 a6 (.int .i64 0) z5
theorem g7nr : g7C [] = .seq (g7C [0]) (g7C [1]) := by kernel_rfl
theorem g7n1 : g7C [1] = .seq (g7C [1, 0]) (g7C [1, 1]) := by kernel_rfl
theorem g7n11 : g7C [1, 1] = .seq (g7C [1, 1, 0]) (g7C [1, 1, 1]) := by kernel_rfl
theorem g7n110 : g7C [1, 1, 0] = .seq (g7C [1, 1, 0, 0]) (g7C [1, 1, 0, 1]) := by kernel_rfl
theorem g7n1101 : g7C [1, 1, 0, 1] = .block 0 (g7C [1, 1, 0, 1, 0]) := by kernel_rfl
theorem g7er (env : Env) (st : St) : g7X (g7C []) g7kr env st = f7 (env 0) (env 1) st := by
  rw [(g7seq g7nr (g7seq g7n1 ((g7seq g7n11 rfl).trans (g7seq g7n110 ((g7blk g7n1101).trans (g7e11010))))))]
  kernel_rfl
theorem s7_eq (x0 : V) (x1 : V) (st : St) : s7 [x0, x1] st = f7 x0 x1 st := by
  have h : afn Try.prog g7mu g7T big (areg Try.prog g7mu g7T) 7 [x0, x1] st = g7X (g7C []) g7kr (fun t => [x0, x1].getD t (.tup [])) st := by kernel_rfl
  rw [s7, sealF_eq]
  exact h.trans (g7er _ st)
end Go.Ab
