import Derived.Test.YtimicmlpaaohoaaAbQuiet
import Derived.Test.YtimicmlpaaohoaaAbP156
namespace Go.Ab
open Go.Proofs
set_option linter.unusedVariables false
set_option maxRecDepth 100000
/-! sinew/sinewlaw15.LinkAnew -/
def g6mu : Nat → Bool := fun _ => false
noncomputable def g6T : Tbl := tget [(9, s9), (11, s11), (13, s13), (16, s16), (19, s19), (22, s22), (23, s23), (29, s29)]
theorem g6t : SimT Try.prog g6T := simT_cons sim9 ( simT_cons sim11 ( simT_cons sim13 ( simT_cons sim16 ( simT_cons sim19 ( simT_cons sim22 ( simT_cons sim23 ( simT_cons sim29 (simT_nil))))))))
noncomputable def s6 : Fn := sealF (afn Try.prog g6mu g6T big (areg Try.prog g6mu g6T) 6)
theorem sim6 : Sim Try.prog 6 s6 := (afn_sim g6t (fun m => areg_sound g6t hmix m) 6 (by kernel_rfl)).sealed
noncomputable def g6C (p : List Nat) : Code := sub (match Try.f6.body with | some c => c | none => .skip) p
noncomputable def g6X (c : Code) (K : Kon) : Env → St → Res := aexec Try.prog g6mu g6T big 202 (areg Try.prog g6mu g6T 202) c K
noncomputable def g6kr : Kon := aresK Try.prog Try.f6.results.toList
theorem g6reg {c : Code} {K : Kon} {G : Env → St → Res} {id : Nat} {ops : Array Oper} {l1 l2 : List Nat} (hc : c = .region id ops false) (hl : List.range ops.size = l1 ++ l2) (h : (fun env st => aops Try.prog g6mu g6T 202 ops l2 env st (K .normal)) = G) : g6X c K = fun env st => aops Try.prog g6mu g6T 202 ops l1 env st G := reg_cut hc hl h
theorem g6seq {c x y : Code} {K : Kon} {G : Env → St → Res} (hc : c = .seq x y) (hy : g6X y K = G) : g6X c K = g6X x (kSeq G K) := seq_cut hc hy
theorem g6blk {c x : Code} {K : Kon} {i : Nat} (hc : c = .block i x) : g6X c K = g6X x (kBlk i K) := blk_cut hc
theorem g6loop {c x : Code} {K : Kon} (hc : c = .loop x) : g6X c K = aloop (g6X x) K big := loop_cut hc
theorem g6cond {c x y : Code} {K : Kon} {v : Operand} {F G : Env → St → Res} (hc : c = .cond v x y) (hx : g6X x K = F) (hy : g6X y K = G) : g6X c K = condF v F G := cond_cut hc hx hy
noncomputable def g6k0 : Kon := kSeq (g6X (g6C [1, 1, 1, 1, 1, 1, 1, 1, 1, 1, 1, 1, 1, 1, 1, 1]) (g6kr)) (g6kr)
noncomputable def g6bz2t4u_18 (x11 : V) (x194 : V) (st : St) : Res :=
 A.guard x194 true
 (A.ret (s22 [x11.er1] st) fun a1 z2 =>
 A.eql 2 false a1 (.int .i64 0) fun a3 =>
 A.guard a3 true
 (A.ret (s11 [] z2) fun a4 z5 =>
 some (.ret a4.er1, z5))
 (some (.ret ((.bool false) : V).er1, z2)))
 (some (.ret ((.bool false) : V).er1, st))
theorem g6ez2t4u_18 : (fun env st => aops Try.prog g6mu g6T 202 (rops (g6C [1, 1, 1, 1, 1, 1, 1, 1, 1, 1, 1, 1, 1, 1, 1, 0])) [18, 19, 20, 21, 22, 23, 24, 25] env st ((g6k0) .normal)) = fun env st => g6bz2t4u_18 (env 11) (env 194) st := by
  refine Eq.trans (Eq.refl _) ?_
  funext env st
  kernel_rfl
noncomputable def g6bz2t4u_8 (x7 : V) (x11 : V) (x184 : V) (st : St) : Res :=
 A.guard x184 true
 (A.ret (s22 [x7.er1] st) fun a1 z2 =>
 A.eql 2 false a1 (.int .i64 0) fun a3 =>
 A.guard a3 true
 (A.ret (s23 [x7.er1] z2) fun a4 z5 =>
 A.eql 2 false a4 (.int .i64 4) fun a6 =>
 g6bz2t4u_18 x11 a6 z5)
 (g6bz2t4u_18 x11 (.bool false) z2))
 (g6bz2t4u_18 x11 (.bool false) st)
theorem g6ez2t4u_8 : (fun env st => aops Try.prog g6mu g6T 202 (rops (g6C [1, 1, 1, 1, 1, 1, 1, 1, 1, 1, 1, 1, 1, 1, 1, 0])) [8, 9, 10, 11, 12, 13, 14, 15, 16, 17, 18, 19, 20, 21, 22, 23, 24, 25] env st ((g6k0) .normal)) = fun env st => g6bz2t4u_8 (env 7) (env 11) (env 184) st := by
  refine Eq.trans (ops_cut (l1 := [8, 9, 10, 11, 12, 13, 14, 15, 16, 17]) (l2 := [18, 19, 20, 21, 22, 23, 24, 25]) (g6ez2t4u_18)) ?_
  funext env st
  kernel_rfl
noncomputable def g6bz1ekf (x7 : V) (x11 : V) (x14 : V) (x20 : V) (x21 : V) (st : St) : Res :=
 A.eql 2 false x20 (.int .i64 1) fun a1 =>
 A.guard a1 true
 (A.eql 2 false x21 x14 fun a2 =>
 g6bz2t4u_8 x7 x11 a2 st)
 (g6bz2t4u_8 x7 x11 (.bool false) st)
theorem g6nz1ekf : g6C [1, 1, 1, 1, 1, 1, 1, 1, 1, 1, 1, 1, 1, 1, 1] = .seq (g6C [1, 1, 1, 1, 1, 1, 1, 1, 1, 1, 1, 1, 1, 1, 1, 0]) (g6C [1, 1, 1, 1, 1, 1, 1, 1, 1, 1, 1, 1, 1, 1, 1, 1]) := by kernel_rfl
theorem g6rgz2t4u : g6C [1, 1, 1, 1, 1, 1, 1, 1, 1, 1, 1, 1, 1, 1, 1, 0] = .region 40 (rops (g6C [1, 1, 1, 1, 1, 1, 1, 1, 1, 1, 1, 1, 1, 1, 1, 0])) false := by kernel_rfl
theorem g6rgz2t4ul : List.range (rops (g6C [1, 1, 1, 1, 1, 1, 1, 1, 1, 1, 1, 1, 1, 1, 1, 0])).size = [0, 1, 2, 3, 4, 5, 6, 7] ++ [8, 9, 10, 11, 12, 13, 14, 15, 16, 17, 18, 19, 20, 21, 22, 23, 24, 25] := by kernel_rfl
theorem g6ez1ekf : g6X (g6C [1, 1, 1, 1, 1, 1, 1, 1, 1, 1, 1, 1, 1, 1, 1]) (g6kr) = fun env st => g6bz1ekf (env 7) (env 11) (env 14) (env 20) (env 21) st := by
  refine Eq.trans ((g6seq g6nz1ekf rfl).trans (g6reg g6rgz2t4u g6rgz2t4ul (g6ez2t4u_8))) ?_
  funext env st
  kernel_rfl
noncomputable def g6k1 : Kon := kSeq (fun env st => g6bz1ekf (env 7) (env 11) (env 14) (env 20) (env 21) st) (g6kr)
noncomputable def g6k2 : Kon := kBlk 4 (g6k1)
noncomputable def g6k3 (Lz5m9m : V → V → V → V → V → V → V → V → St → Res) : Kon := kSeq (fun env st => Lz5m9m (env 2) (env 7) (env 11) (env 14) (env 16) (env 20) (env 21) (env 22) st) (g6k2)
noncomputable def g6k4 (Lz5m9m : V → V → V → V → V → V → V → V → St → Res) : Kon := kSeq (g6X (g6C [1, 1, 1, 1, 1, 1, 1, 1, 1, 1, 1, 1, 1, 1, 0, 1, 0, 0, 1, 1]) (g6k3 Lz5m9m)) (g6k3 Lz5m9m)
noncomputable def g6k5 (Lz5m9m : V → V → V → V → V → V → V → V → St → Res) : Kon := kBlk 5 (g6k4 Lz5m9m)
noncomputable def g6bz13ycen (Lz5m9m : V → V → V → V → V → V → V → V → St → Res) (x2 : V) (x7 : V) (x11 : V) (x14 : V) (x16 : V) (x20 : V) (x21 : V) (x22 : V) (x26 : V) (st : St) : Res :=
 A.faddr 0 x26 fun a1 =>
 A.load false 1 a1 st fun a2 z3 =>
 A.lenL a2 fun a4 =>
 A.faddr 1 x26 fun a5 =>
 A.load false 1 a5 z3 fun a6 z7 =>
 A.lenL a6 fun a8 =>
 A.bin .add a4 a8 fun a9 =>
 A.bin .gtr a9 (.int .i64 0) fun a10 =>
 A.guard a10 false
 (A.faddr 2 x26 fun a11 =>
 A.load false 1 a11 z7 fun a12 z13 =>
 A.cond a12
 (some (.ret ((.bool false) : V).er1, z13))
 (A.bin .add x22 (.int .i64 1) fun a14 =>
 Lz5m9m x2 x7 x11 x14 x16 x20 x21 a14 z13))
 (some (.ret ((.bool false) : V).er1, z7))
theorem g6ez13ycen (Lz5m9m : V → V → V → V → V → V → V → V → St → Res) : g6X (g6C [1, 1, 1, 1, 1, 1, 1, 1, 1, 1, 1, 1, 1, 1, 0, 1, 0, 0, 1, 0, 0, 1, 1, 1, 1]) (g6k5 Lz5m9m) = fun env st => g6bz13ycen Lz5m9m (env 2) (env 7) (env 11) (env 14) (env 16) (env 20) (env 21) (env 22) (env 26) st := by
  refine Eq.trans (Eq.refl (g6X (g6C [1, 1, 1, 1, 1, 1, 1, 1, 1, 1, 1, 1, 1, 1, 0, 1, 0, 0, 1, 0, 0, 1, 1, 1, 1]) (g6k5 Lz5m9m))) ?_
  funext env st
  kernel_rfl
noncomputable def g6bzjz67b (Lz5m9m : V → V → V → V → V → V → V → V → St → Res) (x2 : V) (x7 : V) (x11 : V) (x14 : V) (x16 : V) (x20 : V) (x21 : V) (x22 : V) (st : St) : Res :=
 A.bin .and x2 (.int .i64 65535) fun a1 =>
 A.lenL x16 fun a2 =>
 A.bin .rem a1 a2 fun a3 =>
 A.iaddr 1 x16 a3 fun a4 =>
 A.load false 1 a4 st fun a5 z6 =>
 A.ret (s19 [x7.er1, a5.er1] z6) fun a7 z8 =>
 A.box (.agg [(.lst [] 1), (.lst [] 1), (.bool false)]) z8 fun a9 z10 =>
 A.store 3 a9 a7 z10 fun z11 =>
 g6bz13ycen Lz5m9m x2 x7 x11 x14 x16 x20 x21 x22 a9 z11
theorem g6nzjz67b : g6C [1, 1, 1, 1, 1, 1, 1, 1, 1, 1, 1, 1, 1, 1, 0, 1, 0, 0, 1, 0, 0, 1, 1, 1] = .seq (g6C [1, 1, 1, 1, 1, 1, 1, 1, 1, 1, 1, 1, 1, 1, 0, 1, 0, 0, 1, 0, 0, 1, 1, 1, 0]) (g6C [1, 1, 1, 1, 1, 1, 1, 1, 1, 1, 1, 1, 1, 1, 0, 1, 0, 0, 1, 0, 0, 1, 1, 1, 1]) := by kernel_rfl
theorem g6ezjz67b (Lz5m9m : V → V → V → V → V → V → V → V → St → Res) : g6X (g6C [1, 1, 1, 1, 1, 1, 1, 1, 1, 1, 1, 1, 1, 1, 0, 1, 0, 0, 1, 0, 0, 1, 1, 1]) (g6k5 Lz5m9m) = fun env st => g6bzjz67b Lz5m9m (env 2) (env 7) (env 11) (env 14) (env 16) (env 20) (env 21) (env 22) st := by
  refine Eq.trans (g6seq g6nzjz67b (g6ez13ycen Lz5m9m)) ?_
  funext env st
  kernel_rfl
noncomputable def g6k6 (Lz5m9m : V → V → V → V → V → V → V → V → St → Res) : Kon := kSeq (fun env st => g6bzjz67b Lz5m9m (env 2) (env 7) (env 11) (env 14) (env 16) (env 20) (env 21) (env 22) st) (g6k5 Lz5m9m)
noncomputable def g6k7 (Lz5m9m : V → V → V → V → V → V → V → V → St → Res) : Kon := kBlk 6 (g6k6 Lz5m9m)
noncomputable def g6k8 (Lz5m9m : V → V → V → V → V → V → V → V → St → Res) (Lz27wot6 : V → V → V → V → V → V → V → V → V → V → St → Res) : Kon := kSeq (fun env st => Lz27wot6 (env 2) (env 7) (env 11) (env 14) (env 16) (env 20) (env 21) (env 22) (env 23) (env 25) st) (g6k7 Lz5m9m)
noncomputable def g6k9 (Lz5m9m : V → V → V → V → V → V → V → V → St → Res) (Lz27wot6 : V → V → V → V → V → V → V → V → V → V → St → Res) : Kon := kSeq (g6X (g6C [1, 1, 1, 1, 1, 1, 1, 1, 1, 1, 1, 1, 1, 1, 0, 1, 0, 0, 1, 0, 0, 1, 1, 0, 1, 0, 0, 1, 1]) (g6k8 Lz5m9m Lz27wot6)) (g6k8 Lz5m9m Lz27wot6)
noncomputable def g6k10 (Lz5m9m : V → V → V → V → V → V → V → V → St → Res) (Lz27wot6 : V → V → V → V → V → V → V → V → V → V → St → Res) : Kon := kBlk 7 (g6k9 Lz5m9m Lz27wot6)
noncomputable def g6k11 (Lz5m9m : V → V → V → V → V → V → V → V → St → Res) (Lz27wot6 : V → V → V → V → V → V → V → V → V → V → St → Res) : Kon := kSeq (g6X (g6C [1, 1, 1, 1, 1, 1, 1, 1, 1, 1, 1, 1, 1, 1, 0, 1, 0, 0, 1, 0, 0, 1, 1, 0, 1, 0, 0, 1, 0, 0, 1]) (g6k10 Lz5m9m Lz27wot6)) (g6k10 Lz5m9m Lz27wot6)
noncomputable def g6k12 (Lz5m9m : V → V → V → V → V → V → V → V → St → Res) (Lz27wot6 : V → V → V → V → V → V → V → V → V → V → St → Res) : Kon := kSeq (g6X (g6C [1, 1, 1, 1, 1, 1, 1, 1, 1, 1, 1, 1, 1, 1, 0, 1, 0, 0, 1, 0, 0, 1, 1, 0, 1, 0, 0, 1, 0, 0, 0, 1]) (g6k11 Lz5m9m Lz27wot6)) (g6k11 Lz5m9m Lz27wot6)
noncomputable def g6bz3y243v4_16 (Lz5m9m : V → V → V → V → V → V → V → V → St → Res) (Lz27wot6 : V → V → V → V → V → V → V → V → V → V → St → Res) (x2 : V) (x7 : V) (x11 : V) (x14 : V) (x16 : V) (x20 : V) (x21 : V) (x22 : V) (x23 : V) (x25 : V) (x142 : V) (st : St) : Res :=
 A.guard x142 false
 (A.iaddr 4 x23 x25 fun a1 =>
 A.faddr 1 a1 fun a2 =>
 A.load false 1 a2 st fun a3 z4 =>
 A.iaddr 1 a3 (.int .i64 0) fun a5 =>
 A.load false 1 a5 z4 fun a6 z7 =>
 A.eql 2 true a6 x21 fun a8 =>
 A.cond a8
 (some (.ret ((.bool false) : V).er1, z7))
 (A.bin .add x21 (.int .i64 1) fun a9 =>
 A.bin .add x25 (.int .i64 1) fun a10 =>
 Lz27wot6 x2 x7 x11 x14 x16 x20 a9 x22 x23 a10 z7))
 (some (.ret ((.bool false) : V).er1, st))
theorem g6ez3y243v4_16 (Lz5m9m : V → V → V → V → V → V → V → V → St → Res) (Lz27wot6 : V → V → V → V → V → V → V → V → V → V → St → Res) : (fun env st => aops Try.prog g6mu g6T 202 (rops (g6C [1, 1, 1, 1, 1, 1, 1, 1, 1, 1, 1, 1, 1, 1, 0, 1, 0, 0, 1, 0, 0, 1, 1, 0, 1, 0, 0, 1, 0, 0, 0, 0])) [16, 17, 18, 19, 20, 21, 22, 23, 24, 25] env st ((g6k12 Lz5m9m Lz27wot6) .normal)) = fun env st => g6bz3y243v4_16 Lz5m9m Lz27wot6 (env 2) (env 7) (env 11) (env 14) (env 16) (env 20) (env 21) (env 22) (env 23) (env 25) (env 142) st := by
  refine Eq.trans (Eq.refl _) ?_
  funext env st
  kernel_rfl
noncomputable def g6bz3y243v4_7 (Lz5m9m : V → V → V → V → V → V → V → V → St → Res) (Lz27wot6 : V → V → V → V → V → V → V → V → V → V → St → Res) (x2 : V) (x7 : V) (x11 : V) (x14 : V) (x16 : V) (x20 : V) (x21 : V) (x22 : V) (x23 : V) (x25 : V) (x133 : V) (st : St) : Res :=
 A.guard x133 false
 (A.iaddr 4 x23 x25 fun a1 =>
 A.faddr 1 a1 fun a2 =>
 A.load false 1 a2 st fun a3 z4 =>
 A.lenL a3 fun a5 =>
 A.eql 2 true a5 (.int .i64 1) fun a6 =>
 g6bz3y243v4_16 Lz5m9m Lz27wot6 x2 x7 x11 x14 x16 x20 x21 x22 x23 x25 a6 z4)
 (g6bz3y243v4_16 Lz5m9m Lz27wot6 x2 x7 x11 x14 x16 x20 x21 x22 x23 x25 (.bool true) st)
theorem g6ez3y243v4_7 (Lz5m9m : V → V → V → V → V → V → V → V → St → Res) (Lz27wot6 : V → V → V → V → V → V → V → V → V → V → St → Res) : (fun env st => aops Try.prog g6mu g6T 202 (rops (g6C [1, 1, 1, 1, 1, 1, 1, 1, 1, 1, 1, 1, 1, 1, 0, 1, 0, 0, 1, 0, 0, 1, 1, 0, 1, 0, 0, 1, 0, 0, 0, 0])) [7, 8, 9, 10, 11, 12, 13, 14, 15, 16, 17, 18, 19, 20, 21, 22, 23, 24, 25] env st ((g6k12 Lz5m9m Lz27wot6) .normal)) = fun env st => g6bz3y243v4_7 Lz5m9m Lz27wot6 (env 2) (env 7) (env 11) (env 14) (env 16) (env 20) (env 21) (env 22) (env 23) (env 25) (env 133) st := by
  refine Eq.trans (ops_cut (l1 := [7, 8, 9, 10, 11, 12, 13, 14, 15]) (l2 := [16, 17, 18, 19, 20, 21, 22, 23, 24, 25]) (g6ez3y243v4_16 Lz5m9m Lz27wot6)) ?_
  funext env st
  kernel_rfl
noncomputable def g6bz27wot6 (Lz5m9m : V → V → V → V → V → V → V → V → St → Res) : Nat → V → V → V → V → V → V → V → V → V → V → St → Res
| 0, _, _, _, _, _, _, _, _, _, _, _ => none
| n + 1, x2, x7, x11, x14, x16, x20, x21, x22, x23, x25, st =>
 A.lenL x23 fun a1 =>
 A.bin .lss x25 a1 fun a2 =>
 A.cond a2
 (A.iaddr 4 x23 x25 fun a3 =>
 A.faddr 0 a3 fun a4 =>
 A.load false 1 a4 st fun a5 z6 =>
 A.eql 2 true a5 (.int .i64 7) fun a7 =>
 g6bz3y243v4_7 Lz5m9m (g6bz27wot6 Lz5m9m n) x2 x7 x11 x14 x16 x20 x21 x22 x23 x25 a7 z6)
 (g6bzjz67b Lz5m9m x2 x7 x11 x14 x16 x20 x21 x22 st)
theorem g6nz27wot6 : g6C [1, 1, 1, 1, 1, 1, 1, 1, 1, 1, 1, 1, 1, 1, 0, 1, 0, 0, 1, 0, 0, 1, 1, 0, 1, 0] = .loop (g6C [1, 1, 1, 1, 1, 1, 1, 1, 1, 1, 1, 1, 1, 1, 0, 1, 0, 0, 1, 0, 0, 1, 1, 0, 1, 0, 0]) := by kernel_rfl
theorem g6nz4ftdmc : g6C [1, 1, 1, 1, 1, 1, 1, 1, 1, 1, 1, 1, 1, 1, 0, 1, 0, 0, 1, 0, 0, 1, 1, 0, 1, 0, 0] = .seq (g6C [1, 1, 1, 1, 1, 1, 1, 1, 1, 1, 1, 1, 1, 1, 0, 1, 0, 0, 1, 0, 0, 1, 1, 0, 1, 0, 0, 0]) (g6C [1, 1, 1, 1, 1, 1, 1, 1, 1, 1, 1, 1, 1, 1, 0, 1, 0, 0, 1, 0, 0, 1, 1, 0, 1, 0, 0, 1]) := by kernel_rfl
theorem g6nz8vmr8p : g6C [1, 1, 1, 1, 1, 1, 1, 1, 1, 1, 1, 1, 1, 1, 0, 1, 0, 0, 1, 0, 0, 1, 1, 0, 1, 0, 0, 1] = .seq (g6C [1, 1, 1, 1, 1, 1, 1, 1, 1, 1, 1, 1, 1, 1, 0, 1, 0, 0, 1, 0, 0, 1, 1, 0, 1, 0, 0, 1, 0]) (g6C [1, 1, 1, 1, 1, 1, 1, 1, 1, 1, 1, 1, 1, 1, 0, 1, 0, 0, 1, 0, 0, 1, 1, 0, 1, 0, 0, 1, 1]) := by kernel_rfl
theorem g6nzhr9ihe : g6C [1, 1, 1, 1, 1, 1, 1, 1, 1, 1, 1, 1, 1, 1, 0, 1, 0, 0, 1, 0, 0, 1, 1, 0, 1, 0, 0, 1, 0] = .block 7 (g6C [1, 1, 1, 1, 1, 1, 1, 1, 1, 1, 1, 1, 1, 1, 0, 1, 0, 0, 1, 0, 0, 1, 1, 0, 1, 0, 0, 1, 0, 0]) := by kernel_rfl
theorem g6nzzij0ys : g6C [1, 1, 1, 1, 1, 1, 1, 1, 1, 1, 1, 1, 1, 1, 0, 1, 0, 0, 1, 0, 0, 1, 1, 0, 1, 0, 0, 1, 0, 0] = .seq (g6C [1, 1, 1, 1, 1, 1, 1, 1, 1, 1, 1, 1, 1, 1, 0, 1, 0, 0, 1, 0, 0, 1, 1, 0, 1, 0, 0, 1, 0, 0, 0]) (g6C [1, 1, 1, 1, 1, 1, 1, 1, 1, 1, 1, 1, 1, 1, 0, 1, 0, 0, 1, 0, 0, 1, 1, 0, 1, 0, 0, 1, 0, 0, 1]) := by kernel_rfl
theorem g6nz1z121xk : g6C [1, 1, 1, 1, 1, 1, 1, 1, 1, 1, 1, 1, 1, 1, 0, 1, 0, 0, 1, 0, 0, 1, 1, 0, 1, 0, 0, 1, 0, 0, 0] = .seq (g6C [1, 1, 1, 1, 1, 1, 1, 1, 1, 1, 1, 1, 1, 1, 0, 1, 0, 0, 1, 0, 0, 1, 1, 0, 1, 0, 0, 1, 0, 0, 0, 0]) (g6C [1, 1, 1, 1, 1, 1, 1, 1, 1, 1, 1, 1, 1, 1, 0, 1, 0, 0, 1, 0, 0, 1, 1, 0, 1, 0, 0, 1, 0, 0, 0, 1]) := by kernel_rfl
theorem g6rgz3y243v4 : g6C [1, 1, 1, 1, 1, 1, 1, 1, 1, 1, 1, 1, 1, 1, 0, 1, 0, 0, 1, 0, 0, 1, 1, 0, 1, 0, 0, 1, 0, 0, 0, 0] = .region 34 (rops (g6C [1, 1, 1, 1, 1, 1, 1, 1, 1, 1, 1, 1, 1, 1, 0, 1, 0, 0, 1, 0, 0, 1, 1, 0, 1, 0, 0, 1, 0, 0, 0, 0])) false := by kernel_rfl
theorem g6rgz3y243v4l : List.range (rops (g6C [1, 1, 1, 1, 1, 1, 1, 1, 1, 1, 1, 1, 1, 1, 0, 1, 0, 0, 1, 0, 0, 1, 1, 0, 1, 0, 0, 1, 0, 0, 0, 0])).size = [0, 1, 2, 3, 4, 5, 6] ++ [7, 8, 9, 10, 11, 12, 13, 14, 15, 16, 17, 18, 19, 20, 21, 22, 23, 24, 25] := by kernel_rfl
theorem g6ez27wot6 (Lz5m9m : V → V → V → V → V → V → V → V → St → Res) : g6X (g6C [1, 1, 1, 1, 1, 1, 1, 1, 1, 1, 1, 1, 1, 1, 0, 1, 0, 0, 1, 0, 0, 1, 1, 0, 1, 0]) (g6k7 Lz5m9m) = fun env st => g6bz27wot6 Lz5m9m big (env 2) (env 7) (env 11) (env 14) (env 16) (env 20) (env 21) (env 22) (env 23) (env 25) st := by
  have key : ∀ n, aloop (g6X (g6C [1, 1, 1, 1, 1, 1, 1, 1, 1, 1, 1, 1, 1, 1, 0, 1, 0, 0, 1, 0, 0, 1, 1, 0, 1, 0, 0])) (g6k7 Lz5m9m) n = fun env st => g6bz27wot6 Lz5m9m n (env 2) (env 7) (env 11) (env 14) (env 16) (env 20) (env 21) (env 22) (env 23) (env 25) st := by
    intro n
    induction n with
    | zero => rfl
    | succ n ih =>
      have h : aloop (g6X (g6C [1, 1, 1, 1, 1, 1, 1, 1, 1, 1, 1, 1, 1, 1, 0, 1, 0, 0, 1, 0, 0, 1, 1, 0, 1, 0, 0])) (g6k7 Lz5m9m) (n + 1) = g6X (g6C [1, 1, 1, 1, 1, 1, 1, 1, 1, 1, 1, 1, 1, 1, 0, 1, 0, 0, 1, 0, 0, 1, 1, 0, 1, 0, 0]) (kSeq (aloop (g6X (g6C [1, 1, 1, 1, 1, 1, 1, 1, 1, 1, 1, 1, 1, 1, 0, 1, 0, 0, 1, 0, 0, 1, 1, 0, 1, 0, 0])) (g6k7 Lz5m9m) n) (g6k7 Lz5m9m)) := rfl
      rw [h, ih]
      refine Eq.trans (g6seq g6nz4ftdmc ((g6seq g6nz8vmr8p rfl).trans ((g6blk g6nzhr9ihe).trans ((g6seq g6nzzij0ys rfl).trans ((g6seq g6nz1z121xk rfl).trans (g6reg g6rgz3y243v4 g6rgz3y243v4l (g6ez3y243v4_7 Lz5m9m (g6bz27wot6 Lz5m9m n)))))))) ?_
      funext env st
      kernel_rfl
  exact (g6loop g6nz27wot6).trans (key big)
noncomputable def g6bz9zl3n (Lz5m9m : V → V → V → V → V → V → V → V → St → Res) (x2 : V) (x7 : V) (x11 : V) (x14 : V) (x16 : V) (x20 : V) (x21 : V) (x22 : V) (x23 : V) (st : St) : Res :=
 g6bz27wot6 Lz5m9m big x2 x7 x11 x14 x16 x20 x21 x22 x23 (.int .i64 0) st
theorem g6nz9zl3n : g6C [1, 1, 1, 1, 1, 1, 1, 1, 1, 1, 1, 1, 1, 1, 0, 1, 0, 0, 1, 0, 0, 1, 1] = .seq (g6C [1, 1, 1, 1, 1, 1, 1, 1, 1, 1, 1, 1, 1, 1, 0, 1, 0, 0, 1, 0, 0, 1, 1, 0]) (g6C [1, 1, 1, 1, 1, 1, 1, 1, 1, 1, 1, 1, 1, 1, 0, 1, 0, 0, 1, 0, 0, 1, 1, 1]) := by kernel_rfl
theorem g6nzjz67a : g6C [1, 1, 1, 1, 1, 1, 1, 1, 1, 1, 1, 1, 1, 1, 0, 1, 0, 0, 1, 0, 0, 1, 1, 0] = .seq (g6C [1, 1, 1, 1, 1, 1, 1, 1, 1, 1, 1, 1, 1, 1, 0, 1, 0, 0, 1, 0, 0, 1, 1, 0, 0]) (g6C [1, 1, 1, 1, 1, 1, 1, 1, 1, 1, 1, 1, 1, 1, 0, 1, 0, 0, 1, 0, 0, 1, 1, 0, 1]) := by kernel_rfl
theorem g6nz13ycel : g6C [1, 1, 1, 1, 1, 1, 1, 1, 1, 1, 1, 1, 1, 1, 0, 1, 0, 0, 1, 0, 0, 1, 1, 0, 1] = .block 6 (g6C [1, 1, 1, 1, 1, 1, 1, 1, 1, 1, 1, 1, 1, 1, 0, 1, 0, 0, 1, 0, 0, 1, 1, 0, 1, 0]) := by kernel_rfl
theorem g6ez9zl3n (Lz5m9m : V → V → V → V → V → V → V → V → St → Res) : g6X (g6C [1, 1, 1, 1, 1, 1, 1, 1, 1, 1, 1, 1, 1, 1, 0, 1, 0, 0, 1, 0, 0, 1, 1]) (g6k5 Lz5m9m) = fun env st => g6bz9zl3n Lz5m9m (env 2) (env 7) (env 11) (env 14) (env 16) (env 20) (env 21) (env 22) (env 23) st := by
  refine Eq.trans ((g6seq g6nz9zl3n (g6ezjz67b Lz5m9m)).trans (g6seq g6nzjz67a ((g6blk g6nz13ycel).trans (g6ez27wot6 Lz5m9m)))) ?_
  funext env st
  kernel_rfl
noncomputable def g6bz5m9m : Nat → V → V → V → V → V → V → V → V → St → Res
| 0, _, _, _, _, _, _, _, _, _ => none
| n + 1, x2, x7, x11, x14, x16, x20, x21, x22, st =>
 A.bin .lss x22 (.int .i64 4) fun a1 =>
 A.cond a1
 (A.ret (s29 [x11.er1, x7.er1] st) fun a2 z3 =>
 A.ext a2 0 fun a4 =>
 A.ext a2 1 fun a5 =>
 A.cond a5
 (A.bin .add x20 (.int .i64 1) fun a6 =>
 g6bz9zl3n (g6bz5m9m n) x2 x7 x11 x14 x16 a6 x21 x22 a4 z3)
 (g6bz9zl3n (g6bz5m9m n) x2 x7 x11 x14 x16 x20 x21 x22 a4 z3))
 (g6bz1ekf x7 x11 x14 x20 x21 st)
theorem g6nz5m9m : g6C [1, 1, 1, 1, 1, 1, 1, 1, 1, 1, 1, 1, 1, 1, 0, 1, 0] = .loop (g6C [1, 1, 1, 1, 1, 1, 1, 1, 1, 1, 1, 1, 1, 1, 0, 1, 0, 0]) := by kernel_rfl
theorem g6nzb8j8 : g6C [1, 1, 1, 1, 1, 1, 1, 1, 1, 1, 1, 1, 1, 1, 0, 1, 0, 0] = .seq (g6C [1, 1, 1, 1, 1, 1, 1, 1, 1, 1, 1, 1, 1, 1, 0, 1, 0, 0, 0]) (g6C [1, 1, 1, 1, 1, 1, 1, 1, 1, 1, 1, 1, 1, 1, 0, 1, 0, 0, 1]) := by kernel_rfl
theorem g6nzmh2h : g6C [1, 1, 1, 1, 1, 1, 1, 1, 1, 1, 1, 1, 1, 1, 0, 1, 0, 0, 1] = .seq (g6C [1, 1, 1, 1, 1, 1, 1, 1, 1, 1, 1, 1, 1, 1, 0, 1, 0, 0, 1, 0]) (g6C [1, 1, 1, 1, 1, 1, 1, 1, 1, 1, 1, 1, 1, 1, 0, 1, 0, 0, 1, 1]) := by kernel_rfl
theorem g6nz18y4y : g6C [1, 1, 1, 1, 1, 1, 1, 1, 1, 1, 1, 1, 1, 1, 0, 1, 0, 0, 1, 0] = .block 5 (g6C [1, 1, 1, 1, 1, 1, 1, 1, 1, 1, 1, 1, 1, 1, 0, 1, 0, 0, 1, 0, 0]) := by kernel_rfl
theorem g6nz2hw9w : g6C [1, 1, 1, 1, 1, 1, 1, 1, 1, 1, 1, 1, 1, 1, 0, 1, 0, 0, 1, 0, 0] = .seq (g6C [1, 1, 1, 1, 1, 1, 1, 1, 1, 1, 1, 1, 1, 1, 0, 1, 0, 0, 1, 0, 0, 0]) (g6C [1, 1, 1, 1, 1, 1, 1, 1, 1, 1, 1, 1, 1, 1, 0, 1, 0, 0, 1, 0, 0, 1]) := by kernel_rfl
theorem g6nz4zsjt : g6C [1, 1, 1, 1, 1, 1, 1, 1, 1, 1, 1, 1, 1, 1, 0, 1, 0, 0, 1, 0, 0, 1] = .seq (g6C [1, 1, 1, 1, 1, 1, 1, 1, 1, 1, 1, 1, 1, 1, 0, 1, 0, 0, 1, 0, 0, 1, 0]) (g6C [1, 1, 1, 1, 1, 1, 1, 1, 1, 1, 1, 1, 1, 1, 0, 1, 0, 0, 1, 0, 0, 1, 1]) := by kernel_rfl
theorem g6ez5m9m : g6X (g6C [1, 1, 1, 1, 1, 1, 1, 1, 1, 1, 1, 1, 1, 1, 0, 1, 0]) (g6k2) = fun env st => g6bz5m9m big (env 2) (env 7) (env 11) (env 14) (env 16) (env 20) (env 21) (env 22) st := by
  have key : ∀ n, aloop (g6X (g6C [1, 1, 1, 1, 1, 1, 1, 1, 1, 1, 1, 1, 1, 1, 0, 1, 0, 0])) (g6k2) n = fun env st => g6bz5m9m n (env 2) (env 7) (env 11) (env 14) (env 16) (env 20) (env 21) (env 22) st := by
    intro n
    induction n with
    | zero => rfl
    | succ n ih =>
      have h : aloop (g6X (g6C [1, 1, 1, 1, 1, 1, 1, 1, 1, 1, 1, 1, 1, 1, 0, 1, 0, 0])) (g6k2) (n + 1) = g6X (g6C [1, 1, 1, 1, 1, 1, 1, 1, 1, 1, 1, 1, 1, 1, 0, 1, 0, 0]) (kSeq (aloop (g6X (g6C [1, 1, 1, 1, 1, 1, 1, 1, 1, 1, 1, 1, 1, 1, 0, 1, 0, 0])) (g6k2) n) (g6k2)) := rfl
      rw [h, ih]
      refine Eq.trans (g6seq g6nzb8j8 ((g6seq g6nzmh2h rfl).trans ((g6blk g6nz18y4y).trans (g6seq g6nz2hw9w (g6seq g6nz4zsjt (g6ez9zl3n (g6bz5m9m n))))))) ?_
      funext env st
      kernel_rfl
  exact (g6loop g6nz5m9m).trans (key big)
noncomputable def g6bz6bj (x2 : V) (x7 : V) (x11 : V) (x14 : V) (x16 : V) (st : St) : Res :=
 g6bz5m9m big x2 x7 x11 x14 x16 (.int .i64 0) (.int .i64 0) (.int .i64 0) st
theorem g6nz6bj : g6C [1, 1, 1, 1, 1, 1, 1, 1, 1, 1, 1, 1] = .seq (g6C [1, 1, 1, 1, 1, 1, 1, 1, 1, 1, 1, 1, 0]) (g6C [1, 1, 1, 1, 1, 1, 1, 1, 1, 1, 1, 1, 1]) := by kernel_rfl
theorem g6nzcn3 : g6C [1, 1, 1, 1, 1, 1, 1, 1, 1, 1, 1, 1, 1] = .seq (g6C [1, 1, 1, 1, 1, 1, 1, 1, 1, 1, 1, 1, 1, 0]) (g6C [1, 1, 1, 1, 1, 1, 1, 1, 1, 1, 1, 1, 1, 1]) := by kernel_rfl
theorem g6nzpa7 : g6C [1, 1, 1, 1, 1, 1, 1, 1, 1, 1, 1, 1, 1, 1] = .seq (g6C [1, 1, 1, 1, 1, 1, 1, 1, 1, 1, 1, 1, 1, 1, 0]) (g6C [1, 1, 1, 1, 1, 1, 1, 1, 1, 1, 1, 1, 1, 1, 1]) := by kernel_rfl
theorem g6nz1eke : g6C [1, 1, 1, 1, 1, 1, 1, 1, 1, 1, 1, 1, 1, 1, 0] = .seq (g6C [1, 1, 1, 1, 1, 1, 1, 1, 1, 1, 1, 1, 1, 1, 0, 0]) (g6C [1, 1, 1, 1, 1, 1, 1, 1, 1, 1, 1, 1, 1, 1, 0, 1]) := by kernel_rfl
theorem g6nz2t4t : g6C [1, 1, 1, 1, 1, 1, 1, 1, 1, 1, 1, 1, 1, 1, 0, 1] = .block 4 (g6C [1, 1, 1, 1, 1, 1, 1, 1, 1, 1, 1, 1, 1, 1, 0, 1, 0]) := by kernel_rfl
theorem g6ez6bj : g6X (g6C [1, 1, 1, 1, 1, 1, 1, 1, 1, 1, 1, 1]) (g6kr) = fun env st => g6bz6bj (env 2) (env 7) (env 11) (env 14) (env 16) st := by
  refine Eq.trans (g6seq g6nz6bj (g6seq g6nzcn3 ((g6seq g6nzpa7 (g6ez1ekf)).trans (g6seq g6nz1eke ((g6blk g6nz2t4t).trans (g6ez5m9m)))))) ?_
  funext env st
  kernel_rfl
noncomputable def g6k13 : Kon := kSeq (fun env st => g6bz6bj (env 2) (env 7) (env 11) (env 14) (env 16) st) (g6kr)
noncomputable def g6k14 : Kon := kBlk 2 (g6k13)
noncomputable def g6bzpa2 : Nat → V → V → V → V → V → V → St → Res
| 0, _, _, _, _, _, _, _ => none
| n + 1, x2, x7, x11, x14, x16, x17, st =>
 A.bin .lss x17 x14 fun a1 =>
 A.cond a1
 (A.bslice 1 (.int .i64 0) 1 [(0, x17)] fun a2 =>
 A.build [(.int .i64 0), (.lst [] 1), (.lst [] 1), (.lst [] 1)] [(0, 1, (.int .i64 7)), (1, 1, a2)] fun a3 =>
 A.ret (s13 [x11.er1, a3.er1] st) fun a4 z5 =>
 A.ext a4 0 fun a6 =>
 A.ext a4 1 fun a7 =>
 A.eql 2 true a7 (.int .i64 0) fun a8 =>
 A.cond a8
 (some (.ret ((.bool false) : V).er1, z5))
 (A.bin .add x17 (.int .i64 1) fun a9 =>
 (g6bzpa2 n) x2 x7 x11 x14 x16 a9 z5))
 (g6bz6bj x2 x7 x11 x14 x16 st)
theorem g6nzpa2 : g6C [1, 1, 1, 1, 1, 1, 1, 1, 1, 1, 1, 0, 1, 0] = .loop (g6C [1, 1, 1, 1, 1, 1, 1, 1, 1, 1, 1, 0, 1, 0, 0]) := by kernel_rfl
noncomputable def g6k15 (Lzpa2 : V → V → V → V → V → V → St → Res) : Kon := kSeq (fun env st => Lzpa2 (env 2) (env 7) (env 11) (env 14) (env 16) (env 17) st) (g6k14)
theorem g6ezpa2 : g6X (g6C [1, 1, 1, 1, 1, 1, 1, 1, 1, 1, 1, 0, 1, 0]) (g6k14) = fun env st => g6bzpa2 big (env 2) (env 7) (env 11) (env 14) (env 16) (env 17) st := by
  have key : ∀ n, aloop (g6X (g6C [1, 1, 1, 1, 1, 1, 1, 1, 1, 1, 1, 0, 1, 0, 0])) (g6k14) n = fun env st => g6bzpa2 n (env 2) (env 7) (env 11) (env 14) (env 16) (env 17) st := by
    intro n
    induction n with
    | zero => rfl
    | succ n ih =>
      have h : aloop (g6X (g6C [1, 1, 1, 1, 1, 1, 1, 1, 1, 1, 1, 0, 1, 0, 0])) (g6k14) (n + 1) = g6X (g6C [1, 1, 1, 1, 1, 1, 1, 1, 1, 1, 1, 0, 1, 0, 0]) (kSeq (aloop (g6X (g6C [1, 1, 1, 1, 1, 1, 1, 1, 1, 1, 1, 0, 1, 0, 0])) (g6k14) n) (g6k14)) := rfl
      rw [h, ih]
      refine Eq.trans (Eq.refl _) ?_
      funext env st
      kernel_rfl
  exact (g6loop g6nzpa2).trans (key big)
noncomputable def g6bz35r (x2 : V) (x7 : V) (x11 : V) (x14 : V) (x16 : V) (st : St) : Res :=
 g6bzpa2 big x2 x7 x11 x14 x16 (.int .i64 0) st
theorem g6nz35r : g6C [1, 1, 1, 1, 1, 1, 1, 1, 1, 1, 1] = .seq (g6C [1, 1, 1, 1, 1, 1, 1, 1, 1, 1, 1, 0]) (g6C [1, 1, 1, 1, 1, 1, 1, 1, 1, 1, 1, 1]) := by kernel_rfl
theorem g6nz6bi : g6C [1, 1, 1, 1, 1, 1, 1, 1, 1, 1, 1, 0] = .seq (g6C [1, 1, 1, 1, 1, 1, 1, 1, 1, 1, 1, 0, 0]) (g6C [1, 1, 1, 1, 1, 1, 1, 1, 1, 1, 1, 0, 1]) := by kernel_rfl
theorem g6nzcn1 : g6C [1, 1, 1, 1, 1, 1, 1, 1, 1, 1, 1, 0, 1] = .block 2 (g6C [1, 1, 1, 1, 1, 1, 1, 1, 1, 1, 1, 0, 1, 0]) := by kernel_rfl
theorem g6ez35r : g6X (g6C [1, 1, 1, 1, 1, 1, 1, 1, 1, 1, 1]) (g6kr) = fun env st => g6bz35r (env 2) (env 7) (env 11) (env 14) (env 16) st := by
  refine Eq.trans ((g6seq g6nz35r (g6ez6bj)).trans (g6seq g6nz6bi ((g6blk g6nzcn1).trans (g6ezpa2)))) ?_
  funext env st
  kernel_rfl
noncomputable def g6bz73 (x2 : V) (x7 : V) (x9 : V) (x11 : V) (x14 : V) (st : St) : Res :=
 A.ret (s29 [x9.er1, x7.er1] st) fun a1 z2 =>
 A.ret (s16 [x9.er1] z2) fun a3 z4 =>
 A.lenL a3 fun a5 =>
 A.eql 2 false a5 (.int .i64 0) fun a6 =>
 A.cond a6
 (some (.ret ((.bool false) : V).er1, z4))
 (A.ret (s29 [x9.er1, x7.er1] z4) fun a7 z8 =>
 g6bz35r x2 x7 x11 x14 a3 z8)
theorem g6nz73 : g6C [1, 1, 1, 1, 1, 1, 1] = .seq (g6C [1, 1, 1, 1, 1, 1, 1, 0]) (g6C [1, 1, 1, 1, 1, 1, 1, 1]) := by kernel_rfl
theorem g6nze7 : g6C [1, 1, 1, 1, 1, 1, 1, 1] = .seq (g6C [1, 1, 1, 1, 1, 1, 1, 1, 0]) (g6C [1, 1, 1, 1, 1, 1, 1, 1, 1]) := by kernel_rfl
theorem g6nzsf : g6C [1, 1, 1, 1, 1, 1, 1, 1, 1] = .seq (g6C [1, 1, 1, 1, 1, 1, 1, 1, 1, 0]) (g6C [1, 1, 1, 1, 1, 1, 1, 1, 1, 1]) := by kernel_rfl
theorem g6nz1kv : g6C [1, 1, 1, 1, 1, 1, 1, 1, 1, 1] = .seq (g6C [1, 1, 1, 1, 1, 1, 1, 1, 1, 1, 0]) (g6C [1, 1, 1, 1, 1, 1, 1, 1, 1, 1, 1]) := by kernel_rfl
theorem g6ez73 : g6X (g6C [1, 1, 1, 1, 1, 1, 1]) (g6kr) = fun env st => g6bz73 (env 2) (env 7) (env 9) (env 11) (env 14) st := by
  refine Eq.trans (g6seq g6nz73 (g6seq g6nze7 (g6seq g6nzsf (g6seq g6nz1kv (g6ez35r))))) ?_
  funext env st
  kernel_rfl
noncomputable def g6k16 : Kon := kSeq (fun env st => g6bz73 (env 2) (env 7) (env 9) (env 11) (env 14) st) (g6kr)
noncomputable def g6k17 : Kon := kBlk 0 (g6k16)
noncomputable def g6bzsa : Nat → V → V → V → V → V → V → V → St → Res
| 0, _, _, _, _, _, _, _, _ => none
| n + 1, x2, x7, x9, x11, x13, x14, x15, st =>
 A.bin .lss x15 x13 fun a1 =>
 A.cond a1
 (A.bslice 1 (.int .i64 0) 1 [(0, x15)] fun a2 =>
 A.build [(.int .i64 0), (.lst [] 1), (.lst [] 1), (.lst [] 1)] [(0, 1, (.int .i64 5)), (1, 1, a2)] fun a3 =>
 A.ret (s13 [x9.er1, a3.er1] st) fun a4 z5 =>
 A.bslice 1 (.int .i64 0) 1 [(0, x15)] fun a6 =>
 A.build [(.int .i64 0), (.lst [] 1), (.lst [] 1), (.lst [] 1)] [(0, 1, (.int .i64 6)), (1, 1, a6)] fun a7 =>
 A.ret (s13 [x7.er1, a7.er1] z5) fun a8 z9 =>
 A.bin .add x15 (.int .i64 1) fun a10 =>
 (g6bzsa n) x2 x7 x9 x11 x13 x14 a10 z9)
 (g6bz73 x2 x7 x9 x11 x14 st)
theorem g6nzsa : g6C [1, 1, 1, 1, 1, 1, 0, 1, 0] = .loop (g6C [1, 1, 1, 1, 1, 1, 0, 1, 0, 0]) := by kernel_rfl
noncomputable def g6k18 (Lzsa : V → V → V → V → V → V → V → St → Res) : Kon := kSeq (fun env st => Lzsa (env 2) (env 7) (env 9) (env 11) (env 13) (env 14) (env 15) st) (g6k17)
theorem g6ezsa : g6X (g6C [1, 1, 1, 1, 1, 1, 0, 1, 0]) (g6k17) = fun env st => g6bzsa big (env 2) (env 7) (env 9) (env 11) (env 13) (env 14) (env 15) st := by
  have key : ∀ n, aloop (g6X (g6C [1, 1, 1, 1, 1, 1, 0, 1, 0, 0])) (g6k17) n = fun env st => g6bzsa n (env 2) (env 7) (env 9) (env 11) (env 13) (env 14) (env 15) st := by
    intro n
    induction n with
    | zero => rfl
    | succ n ih =>
      have h : aloop (g6X (g6C [1, 1, 1, 1, 1, 1, 0, 1, 0, 0])) (g6k17) (n + 1) = g6X (g6C [1, 1, 1, 1, 1, 1, 0, 1, 0, 0]) (kSeq (aloop (g6X (g6C [1, 1, 1, 1, 1, 1, 0, 1, 0, 0])) (g6k17) n) (g6k17)) := rfl
      rw [h, ih]
      refine Eq.trans (Eq.refl _) ?_
      funext env st
      kernel_rfl
  exact (g6loop g6nzsa).trans (key big)
noncomputable def g6bz3j (x2 : V) (x7 : V) (x9 : V) (x11 : V) (x13 : V) (x14 : V) (st : St) : Res :=
 g6bzsa big x2 x7 x9 x11 x13 x14 (.int .i64 0) st
theorem g6nz3j : g6C [1, 1, 1, 1, 1, 1] = .seq (g6C [1, 1, 1, 1, 1, 1, 0]) (g6C [1, 1, 1, 1, 1, 1, 1]) := by kernel_rfl
theorem g6nz72 : g6C [1, 1, 1, 1, 1, 1, 0] = .seq (g6C [1, 1, 1, 1, 1, 1, 0, 0]) (g6C [1, 1, 1, 1, 1, 1, 0, 1]) := by kernel_rfl
theorem g6nze5 : g6C [1, 1, 1, 1, 1, 1, 0, 1] = .block 0 (g6C [1, 1, 1, 1, 1, 1, 0, 1, 0]) := by kernel_rfl
theorem g6ez3j : g6X (g6C [1, 1, 1, 1, 1, 1]) (g6kr) = fun env st => g6bz3j (env 2) (env 7) (env 9) (env 11) (env 13) (env 14) st := by
  refine Eq.trans ((g6seq g6nz3j (g6ez73)).trans (g6seq g6nz72 ((g6blk g6nze5).trans (g6ezsa)))) ?_
  funext env st
  kernel_rfl
noncomputable def g6b11111 (x0 : V) (x1 : V) (x2 : V) (x7 : V) (x9 : V) (x11 : V) (st : St) : Res :=
 A.bin .and x0 (.int .i64 15) fun a1 =>
 A.bin .add (.int .i64 1) a1 fun a2 =>
 A.bin .and x1 (.int .i64 15) fun a3 =>
 A.bin .add (.int .i64 1) a3 fun a4 =>
 g6bz3j x2 x7 x9 x11 a2 a4 st
theorem g6n11111 : g6C [1, 1, 1, 1, 1] = .seq (g6C [1, 1, 1, 1, 1, 0]) (g6C [1, 1, 1, 1, 1, 1]) := by kernel_rfl
theorem g6e11111 : g6X (g6C [1, 1, 1, 1, 1]) (g6kr) = fun env st => g6b11111 (env 0) (env 1) (env 2) (env 7) (env 9) (env 11) st := by
  refine Eq.trans (g6seq g6n11111 (g6ez3j)) ?_
  funext env st
  kernel_rfl
noncomputable def g6k19 : Kon := kSeq (fun env st => g6b11111 (env 0) (env 1) (env 2) (env 7) (env 9) (env 11) st) (g6kr)
noncomputable def g6k20 : Kon := kSeq (g6X (g6C [1, 1, 1, 1, 0, 1]) (g6k19)) (g6k19)
noncomputable def g6bz3g_15 (x0 : V) (x1 : V) (x2 : V) (x7 : V) (x9 : V) (x11 : V) (x53 : V) (st : St) : Res :=
 A.guard x53 false
 (A.eql 4 false x9 .ptr0 fun a1 =>
 A.guard a1 false
 (A.eql 4 false x11 .ptr0 fun a2 =>
 A.cond a2
 (some (.ret ((.bool false) : V).er1, st))
 (g6b11111 x0 x1 x2 x7 x9 x11 st))
 (some (.ret ((.bool false) : V).er1, st)))
 (some (.ret ((.bool false) : V).er1, st))
theorem g6ez3g_15 : (fun env st => aops Try.prog g6mu g6T 202 (rops (g6C [1, 1, 1, 1, 0, 0])) [15, 16, 17, 18, 19, 20, 21] env st ((g6k20) .normal)) = fun env st => g6bz3g_15 (env 0) (env 1) (env 2) (env 7) (env 9) (env 11) (env 53) st := by
  refine Eq.trans (Eq.refl _) ?_
  funext env st
  kernel_rfl
noncomputable def g6bz3g_7 (x0 : V) (x1 : V) (x2 : V) (x7 : V) (x9 : V) (x11 : V) (x12 : V) (x45 : V) (st : St) : Res :=
 A.guard x45 false
 (A.eql 2 true x12 (.int .i64 0) fun a1 =>
 A.guard a1 false
 (A.eql 4 false x7 .ptr0 fun a2 =>
 g6bz3g_15 x0 x1 x2 x7 x9 x11 a2 st)
 (g6bz3g_15 x0 x1 x2 x7 x9 x11 (.bool true) st))
 (g6bz3g_15 x0 x1 x2 x7 x9 x11 (.bool true) st)
theorem g6ez3g_7 : (fun env st => aops Try.prog g6mu g6T 202 (rops (g6C [1, 1, 1, 1, 0, 0])) [7, 8, 9, 10, 11, 12, 13, 14, 15, 16, 17, 18, 19, 20, 21] env st ((g6k20) .normal)) = fun env st => g6bz3g_7 (env 0) (env 1) (env 2) (env 7) (env 9) (env 11) (env 12) (env 45) st := by
  refine Eq.trans (ops_cut (l1 := [7, 8, 9, 10, 11, 12, 13, 14]) (l2 := [15, 16, 17, 18, 19, 20, 21]) (g6ez3g_15)) ?_
  funext env st
  kernel_rfl
noncomputable def g6b111 (x0 : V) (x1 : V) (x2 : V) (x7 : V) (x8 : V) (x9 : V) (x10 : V) (st : St) : Res :=
 A.ret (s9 [((.int .i64 4) : V).er1] st) fun a1 z2 =>
 A.ext a1 0 fun a3 =>
 A.ext a1 1 fun a4 =>
 A.eql 2 true x8 (.int .i64 0) fun a5 =>
 A.guard a5 false
 (A.eql 2 true x10 (.int .i64 0) fun a6 =>
 g6bz3g_7 x0 x1 x2 x7 x9 a3 a4 a6 z2)
 (g6bz3g_7 x0 x1 x2 x7 x9 a3 a4 (.bool true) z2)
theorem g6n111 : g6C [1, 1, 1] = .seq (g6C [1, 1, 1, 0]) (g6C [1, 1, 1, 1]) := by kernel_rfl
theorem g6n1111 : g6C [1, 1, 1, 1] = .seq (g6C [1, 1, 1, 1, 0]) (g6C [1, 1, 1, 1, 1]) := by kernel_rfl
theorem g6n11110 : g6C [1, 1, 1, 1, 0] = .seq (g6C [1, 1, 1, 1, 0, 0]) (g6C [1, 1, 1, 1, 0, 1]) := by kernel_rfl
theorem g6rgz3g : g6C [1, 1, 1, 1, 0, 0] = .region 4 (rops (g6C [1, 1, 1, 1, 0, 0])) false := by kernel_rfl
theorem g6rgz3gl : List.range (rops (g6C [1, 1, 1, 1, 0, 0])).size = [0, 1, 2, 3, 4, 5, 6] ++ [7, 8, 9, 10, 11, 12, 13, 14, 15, 16, 17, 18, 19, 20, 21] := by kernel_rfl
theorem g6e111 : g6X (g6C [1, 1, 1]) (g6kr) = fun env st => g6b111 (env 0) (env 1) (env 2) (env 7) (env 8) (env 9) (env 10) st := by
  refine Eq.trans (g6seq g6n111 ((g6seq g6n1111 (g6e11111)).trans ((g6seq g6n11110 rfl).trans (g6reg g6rgz3g g6rgz3gl (g6ez3g_7))))) ?_
  funext env st
  kernel_rfl
noncomputable def f6 (x0 : V) (x1 : V) (x2 : V) (st : St) : Res :=
 A.ret (s9 [((.int .i64 1) : V).er1] st) fun a1 z2 =>
 A.ext a1 0 fun a3 =>
 A.ext a1 1 fun a4 =>
 A.ret (s9 [((.int .i64 3) : V).er1] z2) fun a5 z6 =>
 A.ext a5 0 fun a7 =>
 A.ext a5 1 fun a8 =>
 g6b111 x0 x1 x2 a3 a4 a7 a8 z6
theorem g6nr : g6C [] = .seq (g6C [0]) (g6C [1]) := by kernel_rfl
theorem g6n1 : g6C [1] = .seq (g6C [1, 0]) (g6C [1, 1]) := by kernel_rfl
theorem g6n11 : g6C [1, 1] = .seq (g6C [1, 1, 0]) (g6C [1, 1, 1]) := by kernel_rfl
theorem g6er (env : Env) (st : St) : g6X (g6C []) g6kr env st = f6 (env 0) (env 1) (env 2) st := by
  rw [(g6seq g6nr (g6seq g6n1 (g6seq g6n11 (g6e111))))]
  kernel_rfl
theorem s6_eq (x0 : V) (x1 : V) (x2 : V) (st : St) : s6 [x0, x1, x2] st = f6 x0 x1 x2 st := by
  have h : afn Try.prog g6mu g6T big (areg Try.prog g6mu g6T) 6 [x0, x1, x2] st = g6X (g6C []) g6kr (fun t => [x0, x1, x2].getD t (.tup [])) st := by kernel_rfl
  rw [s6, sealF_eq]
  exact h.trans (g6er _ st)
/-! sinew/sinewlaw15.LinkNobody -/
def g7mu : Nat → Bool := fun _ => false
noncomputable def g7T : Tbl := tget [(11, s11), (13, s13), (16, s16), (19, s19), (22, s22), (23, s23)]
theorem g7t : SimT Try.prog g7T := simT_cons sim11 ( simT_cons sim13 ( simT_cons sim16 ( simT_cons sim19 ( simT_cons sim22 ( simT_cons sim23 (simT_nil))))))
noncomputable def s7 : Fn := sealF (afn Try.prog g7mu g7T big (areg Try.prog g7mu g7T) 7)
theorem sim7 : Sim Try.prog 7 s7 := (afn_sim g7t (fun m => areg_sound g7t hmix m) 7 (by kernel_rfl)).sealed
noncomputable def g7C (p : List Nat) : Code := sub (match Try.f7.body with | some c => c | none => .skip) p
noncomputable def g7X (c : Code) (K : Kon) : Env → St → Res := aexec Try.prog g7mu g7T big 81 (areg Try.prog g7mu g7T 81) c K
noncomputable def g7kr : Kon := aresK Try.prog Try.f7.results.toList
theorem g7reg {c : Code} {K : Kon} {G : Env → St → Res} {id : Nat} {ops : Array Oper} {l1 l2 : List Nat} (hc : c = .region id ops false) (hl : List.range ops.size = l1 ++ l2) (h : (fun env st => aops Try.prog g7mu g7T 81 ops l2 env st (K .normal)) = G) : g7X c K = fun env st => aops Try.prog g7mu g7T 81 ops l1 env st G := reg_cut hc hl h
theorem g7seq {c x y : Code} {K : Kon} {G : Env → St → Res} (hc : c = .seq x y) (hy : g7X y K = G) : g7X c K = g7X x (kSeq G K) := seq_cut hc hy
theorem g7blk {c x : Code} {K : Kon} {i : Nat} (hc : c = .block i x) : g7X c K = g7X x (kBlk i K) := blk_cut hc
theorem g7loop {c x : Code} {K : Kon} (hc : c = .loop x) : g7X c K = aloop (g7X x) K big := loop_cut hc
theorem g7cond {c x y : Code} {K : Kon} {v : Operand} {F G : Env → St → Res} (hc : c = .cond v x y) (hx : g7X x K = F) (hy : g7X y K = G) : g7X c K = condF v F G := cond_cut hc hx hy
noncomputable def g7k0 : Kon := kSeq (g7X (g7C [1, 1, 1]) (g7kr)) (g7kr)
noncomputable def g7k1 : Kon := kBlk 0 (g7k0)
noncomputable def g7k2 (L11010 : V → V → V → V → St → Res) : Kon := kSeq (fun env st => L11010 (env 1) (env 2) (env 5) (env 6) st) (g7k1)
noncomputable def g7k3 (L11010 : V → V → V → V → St → Res) : Kon := kSeq (g7X (g7C [1, 1, 0, 1, 0, 0, 1, 1]) (g7k2 L11010)) (g7k2 L11010)
noncomputable def g7k4 (L11010 : V → V → V → V → St → Res) : Kon := kBlk 1 (g7k3 L11010)
noncomputable def g7k5 (L11010 : V → V → V → V → St → Res) : Kon := kSeq (g7X (g7C [1, 1, 0, 1, 0, 0, 1, 0, 0, 1, 1, 1]) (g7k4 L11010)) (g7k4 L11010)
noncomputable def g7bz5ra_39 (L11010 : V → V → V → V → St → Res) (x1 : V) (x2 : V) (x5 : V) (x6 : V) (x72 : V) (st : St) : Res :=
 A.guard x72 false
 (A.iaddr 1 x5 x6 fun a1 =>
 A.load false 1 a1 st fun a2 z3 =>
 A.ret (s23 [a2.er1] z3) fun a4 z5 =>
 A.eql 2 true a4 (.int .i64 0) fun a6 =>
 A.cond a6
 (some (.ret ((.bool false) : V).er1, z5))
 (A.bin .add x6 (.int .i64 1) fun a7 =>
 L11010 x1 x2 x5 a7 z5))
 (some (.ret ((.bool false) : V).er1, st))
theorem g7ez5ra_39 (L11010 : V → V → V → V → St → Res) : (fun env st => aops Try.prog g7mu g7T 81 (rops (g7C [1, 1, 0, 1, 0, 0, 1, 0, 0, 1, 1, 0])) [39, 40, 41, 42, 43, 44, 45] env st ((g7k5 L11010) .normal)) = fun env st => g7bz5ra_39 L11010 (env 1) (env 2) (env 5) (env 6) (env 72) st := by
  refine Eq.trans (Eq.refl _) ?_
  funext env st
  kernel_rfl
noncomputable def g7bz5ra_27 (L11010 : V → V → V → V → St → Res) (x1 : V) (x2 : V) (x5 : V) (x6 : V) (x9 : V) (x60 : V) (st : St) : Res :=
 A.guard x60 false
 (A.faddr 2 x9 fun a1 =>
 A.load false 1 a1 st fun a2 z3 =>
 A.guard a2 false
 (A.iaddr 1 x5 x6 fun a4 =>
 A.load false 1 a4 z3 fun a5 z6 =>
 A.ret (s22 [a5.er1] z6) fun a7 z8 =>
 A.eql 2 true a7 (.int .i64 0) fun a9 =>
 g7bz5ra_39 L11010 x1 x2 x5 x6 a9 z8)
 (g7bz5ra_39 L11010 x1 x2 x5 x6 (.bool true) z3))
 (g7bz5ra_39 L11010 x1 x2 x5 x6 (.bool true) st)
theorem g7ez5ra_27 (L11010 : V → V → V → V → St → Res) : (fun env st => aops Try.prog g7mu g7T 81 (rops (g7C [1, 1, 0, 1, 0, 0, 1, 0, 0, 1, 1, 0])) [27, 28, 29, 30, 31, 32, 33, 34, 35, 36, 37, 38, 39, 40, 41, 42, 43, 44, 45] env st ((g7k5 L11010) .normal)) = fun env st => g7bz5ra_27 L11010 (env 1) (env 2) (env 5) (env 6) (env 9) (env 60) st := by
  refine Eq.trans (ops_cut (l1 := [27, 28, 29, 30, 31, 32, 33, 34, 35, 36, 37, 38]) (l2 := [39, 40, 41, 42, 43, 44, 45]) (g7ez5ra_39 L11010)) ?_
  funext env st
  kernel_rfl
noncomputable def g7bz5ra_17 (L11010 : V → V → V → V → St → Res) (x1 : V) (x2 : V) (x5 : V) (x6 : V) (x9 : V) (x50 : V) (st : St) : Res :=
 A.guard x50 false
 (A.faddr 0 x9 fun a1 =>
 A.load false 1 a1 st fun a2 z3 =>
 A.lenL a2 fun a4 =>
 A.faddr 1 x9 fun a5 =>
 A.load false 1 a5 z3 fun a6 z7 =>
 A.lenL a6 fun a8 =>
 A.bin .add a4 a8 fun a9 =>
 A.bin .gtr a9 (.int .i64 0) fun a10 =>
 g7bz5ra_27 L11010 x1 x2 x5 x6 x9 a10 z7)
 (g7bz5ra_27 L11010 x1 x2 x5 x6 x9 (.bool true) st)
theorem g7ez5ra_17 (L11010 : V → V → V → V → St → Res) : (fun env st => aops Try.prog g7mu g7T 81 (rops (g7C [1, 1, 0, 1, 0, 0, 1, 0, 0, 1, 1, 0])) [17, 18, 19, 20, 21, 22, 23, 24, 25, 26, 27, 28, 29, 30, 31, 32, 33, 34, 35, 36, 37, 38, 39, 40, 41, 42, 43, 44, 45] env st ((g7k5 L11010) .normal)) = fun env st => g7bz5ra_17 L11010 (env 1) (env 2) (env 5) (env 6) (env 9) (env 50) st := by
  refine Eq.trans (ops_cut (l1 := [17, 18, 19, 20, 21, 22, 23, 24, 25, 26]) (l2 := [27, 28, 29, 30, 31, 32, 33, 34, 35, 36, 37, 38, 39, 40, 41, 42, 43, 44, 45]) (g7ez5ra_27 L11010)) ?_
  funext env st
  kernel_rfl
noncomputable def g7bz5ra_8 (L11010 : V → V → V → V → St → Res) (x1 : V) (x2 : V) (x5 : V) (x6 : V) (x9 : V) (x41 : V) (st : St) : Res :=
 A.guard x41 false
 (A.iaddr 1 x5 x6 fun a1 =>
 A.load false 1 a1 st fun a2 z3 =>
 A.ret (s16 [a2.er1] z3) fun a4 z5 =>
 A.lenL a4 fun a6 =>
 A.bin .gtr a6 (.int .i64 0) fun a7 =>
 g7bz5ra_17 L11010 x1 x2 x5 x6 x9 a7 z5)
 (g7bz5ra_17 L11010 x1 x2 x5 x6 x9 (.bool true) st)
theorem g7ez5ra_8 (L11010 : V → V → V → V → St → Res) : (fun env st => aops Try.prog g7mu g7T 81 (rops (g7C [1, 1, 0, 1, 0, 0, 1, 0, 0, 1, 1, 0])) [8, 9, 10, 11, 12, 13, 14, 15, 16, 17, 18, 19, 20, 21, 22, 23, 24, 25, 26, 27, 28, 29, 30, 31, 32, 33, 34, 35, 36, 37, 38, 39, 40, 41, 42, 43, 44, 45] env st ((g7k5 L11010) .normal)) = fun env st => g7bz5ra_8 L11010 (env 1) (env 2) (env 5) (env 6) (env 9) (env 41) st := by
  refine Eq.trans (ops_cut (l1 := [8, 9, 10, 11, 12, 13, 14, 15, 16]) (l2 := [17, 18, 19, 20, 21, 22, 23, 24, 25, 26, 27, 28, 29, 30, 31, 32, 33, 34, 35, 36, 37, 38, 39, 40, 41, 42, 43, 44, 45]) (g7ez5ra_17 L11010)) ?_
  funext env st
  kernel_rfl
noncomputable def g7bz1ft (L11010 : V → V → V → V → St → Res) (x1 : V) (x2 : V) (x5 : V) (x6 : V) (x7 : V) (x8 : V) (st : St) : Res :=
 A.iaddr 1 x5 x6 fun a1 =>
 A.load false 1 a1 st fun a2 z3 =>
 A.ret (s19 [a2.er1, x1.er1] z3) fun a4 z5 =>
 A.box (.agg [(.lst [] 1), (.lst [] 1), (.bool false)]) z5 fun a6 z7 =>
 A.store 3 a6 a4 z7 fun z8 =>
 A.lenL x7 fun a9 =>
 A.bin .gtr a9 (.int .i64 0) fun a10 =>
 A.guard a10 false
 (A.eql 2 true x8 (.int .i64 1) fun a11 =>
 g7bz5ra_8 L11010 x1 x2 x5 x6 a6 a11 z8)
 (g7bz5ra_8 L11010 x1 x2 x5 x6 a6 (.bool true) z8)
theorem g7nz1ft : g7C [1, 1, 0, 1, 0, 0, 1, 0, 0, 1] = .seq (g7C [1, 1, 0, 1, 0, 0, 1, 0, 0, 1, 0]) (g7C [1, 1, 0, 1, 0, 0, 1, 0, 0, 1, 1]) := by kernel_rfl
theorem g7nz2vn : g7C [1, 1, 0, 1, 0, 0, 1, 0, 0, 1, 1] = .seq (g7C [1, 1, 0, 1, 0, 0, 1, 0, 0, 1, 1, 0]) (g7C [1, 1, 0, 1, 0, 0, 1, 0, 0, 1, 1, 1]) := by kernel_rfl
theorem g7rgz5ra : g7C [1, 1, 0, 1, 0, 0, 1, 0, 0, 1, 1, 0] = .region 7 (rops (g7C [1, 1, 0, 1, 0, 0, 1, 0, 0, 1, 1, 0])) false := by kernel_rfl
theorem g7rgz5ral : List.range (rops (g7C [1, 1, 0, 1, 0, 0, 1, 0, 0, 1, 1, 0])).size = [0, 1, 2, 3, 4, 5, 6, 7] ++ [8, 9, 10, 11, 12, 13, 14, 15, 16, 17, 18, 19, 20, 21, 22, 23, 24, 25, 26, 27, 28, 29, 30, 31, 32, 33, 34, 35, 36, 37, 38, 39, 40, 41, 42, 43, 44, 45] := by kernel_rfl
theorem g7ez1ft (L11010 : V → V → V → V → St → Res) : g7X (g7C [1, 1, 0, 1, 0, 0, 1, 0, 0, 1]) (g7k4 L11010) = fun env st => g7bz1ft L11010 (env 1) (env 2) (env 5) (env 6) (env 7) (env 8) st := by
  refine Eq.trans (g7seq g7nz1ft ((g7seq g7nz2vn rfl).trans (g7reg g7rgz5ra g7rgz5ral (g7ez5ra_8 L11010)))) ?_
  funext env st
  kernel_rfl
noncomputable def g7b11010 : Nat → V → V → V → V → St → Res
| 0, _, _, _, _, _ => none
| n + 1, x1, x2, x5, x6, st =>
 A.lenL x5 fun a1 =>
 A.bin .lss x6 a1 fun a2 =>
 A.cond a2
 (A.iaddr 1 x5 x6 fun a3 =>
 A.load false 1 a3 st fun a4 _ =>
 A.load true 4 x2 st fun a5 _ =>
 A.noP (A.ret (s13 [a4.er1, a5.er1] st) kid) fun a6 z7 =>
 A.ext a6 0 fun a8 =>
 A.ext a6 1 fun a9 =>
 g7bz1ft (g7b11010 n) x1 x2 x5 x6 a8 a9 z7)
 (A.ret (s11 [] st) fun a10 z11 =>
 some (.ret a10.er1, z11))
theorem g7n11010 : g7C [1, 1, 0, 1, 0] = .loop (g7C [1, 1, 0, 1, 0, 0]) := by kernel_rfl
theorem g7nz38 : g7C [1, 1, 0, 1, 0, 0] = .seq (g7C [1, 1, 0, 1, 0, 0, 0]) (g7C [1, 1, 0, 1, 0, 0, 1]) := by kernel_rfl
theorem g7nz6h : g7C [1, 1, 0, 1, 0, 0, 1] = .seq (g7C [1, 1, 0, 1, 0, 0, 1, 0]) (g7C [1, 1, 0, 1, 0, 0, 1, 1]) := by kernel_rfl
theorem g7nzcy : g7C [1, 1, 0, 1, 0, 0, 1, 0] = .block 1 (g7C [1, 1, 0, 1, 0, 0, 1, 0, 0]) := by kernel_rfl
theorem g7nzpw : g7C [1, 1, 0, 1, 0, 0, 1, 0, 0] = .seq (g7C [1, 1, 0, 1, 0, 0, 1, 0, 0, 0]) (g7C [1, 1, 0, 1, 0, 0, 1, 0, 0, 1]) := by kernel_rfl
theorem g7e11010 : g7X (g7C [1, 1, 0, 1, 0]) (g7k1) = fun env st => g7b11010 big (env 1) (env 2) (env 5) (env 6) st := by
  have key : ∀ n, aloop (g7X (g7C [1, 1, 0, 1, 0, 0])) (g7k1) n = fun env st => g7b11010 n (env 1) (env 2) (env 5) (env 6) st := by
    intro n
    induction n with
    | zero => rfl
    | succ n ih =>
      have h : aloop (g7X (g7C [1, 1, 0, 1, 0, 0])) (g7k1) (n + 1) = g7X (g7C [1, 1, 0, 1, 0, 0]) (kSeq (aloop (g7X (g7C [1, 1, 0, 1, 0, 0])) (g7k1) n) (g7k1)) := rfl
      rw [h, ih]
      refine Eq.trans (g7seq g7nz38 ((g7seq g7nz6h rfl).trans ((g7blk g7nzcy).trans (g7seq g7nzpw (g7ez1ft (g7b11010 n)))))) ?_
      funext env st
      kernel_rfl
  exact (g7loop g7n11010).trans (key big)
noncomputable def f7 (x0 : V) (x1 : V) (st : St) : Res :=
 A.box x0 st fun a1 z2 =>
 A.build [(.int .i64 0), (.int .i64 0), (.int .i64 0), (.int .i64 0), (.lst [] 1)] [] fun a3 =>
 A.box a3 z2 fun a4 z5 =>
 A.bslice 1 .ptr0 2 [(0, .ptr0), (1, a4)] fun a6 =>
 g7b11010 big x1 a1 a6 (.int .i64 0) z5
theorem g7nr : g7C [] = .seq (g7C [0]) (g7C [1]) := by kernel_rfl
theorem g7n1 : g7C [1] = .seq (g7C [1, 0]) (g7C [1, 1]) := by kernel_rfl
theorem g7n11 : g7C [1, 1] = .seq (g7C [1, 1, 0]) (g7C [1, 1, 1]) := by kernel_rfl
theorem g7n110 : g7C [1, 1, 0] = .seq (g7C [1, 1, 0, 0]) (g7C [1, 1, 0, 1]) := by kernel_rfl
theorem g7n1101 : g7C [1, 1, 0, 1] = .block 0 (g7C [1, 1, 0, 1, 0]) := by kernel_rfl
theorem g7er (env : Env) (st : St) : g7X (g7C []) g7kr env st = f7 (env 0) (env 1) st := by
  rw [(g7seq g7nr (g7seq g7n1 ((g7seq g7n11 rfl).trans (g7seq g7n110 ((g7blk g7n1101).trans (g7e11010))))))]
  kernel_rfl
theorem s7_eq (x0 : V) (x1 : V) (st : St) : s7 [x0, x1] st = f7 x0 x1 st := by
  have h : afn Try.prog g7mu g7T big (areg Try.prog g7mu g7T) 7 [x0, x1] st = g7X (g7C []) g7kr (fun t => [x0, x1].getD t (.tup [])) st := by kernel_rfl
  rw [s7, sealF_eq]
  exact h.trans (g7er _ st)
end Go.Ab
