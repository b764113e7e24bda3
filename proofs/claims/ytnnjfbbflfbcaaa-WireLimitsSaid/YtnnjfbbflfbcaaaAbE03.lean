import Derived.Test.YtnnjfbbflfbcaaaAbForget
import Derived.Test.YtnnjfbbflfbcaaaAbD03
namespace Go.Ab.Deep6
open Go.Ab Go.Proofs
set_option linter.unusedVariables false
set_option maxRecDepth 100000
/-! sinew/sinewlaw03.WireLimits -/
def g6mu : Nat → Bool := fun _ => false
noncomputable def g6T : Tbl := tget [(10, s10), (11, s11), (15, s15d), (18, s18d)]
theorem g6t : SimT Try.prog g6T := simT_cons sim10 ( simT_cons sim11 ( simT_cons sim15d ( simT_cons sim18d (simT_nil))))
noncomputable def s6 : Fn := sealF (afn Try.prog g6mu g6T big (areg Try.prog g6mu g6T) 6)
theorem sim6 : Sim Try.prog 6 s6 := (afn_sim g6t (fun m => areg_sound g6t hmix m) 6 (by kernel_rfl)).sealed
noncomputable def g6C (p : List Nat) : Code := sub (match Try.f6.body with | some c => c | none => .skip) p
noncomputable def g6X (c : Code) (K : Kon) : Env → St → Res := aexec Try.prog g6mu g6T big 87 (areg Try.prog g6mu g6T 87) c K
noncomputable def g6kr : Kon := aresK Try.prog Try.f6.results.toList
theorem g6reg {c : Code} {K : Kon} {G : Env → St → Res} {id : Nat} {ops : Array Oper} {l1 l2 : List Nat} (hc : c = .region id ops false) (hl : List.range ops.size = l1 ++ l2) (h : (fun env st => aops Try.prog g6mu g6T 87 ops l2 env st (K .normal)) = G) : g6X c K = fun env st => aops Try.prog g6mu g6T 87 ops l1 env st G := reg_cut hc hl h
theorem g6seq {c x y : Code} {K : Kon} {G : Env → St → Res} (hc : c = .seq x y) (hy : g6X y K = G) : g6X c K = g6X x (kSeq G K) := seq_cut hc hy
theorem g6blk {c x : Code} {K : Kon} {i : Nat} (hc : c = .block i x) : g6X c K = g6X x (kBlk i K) := blk_cut hc
theorem g6loop {c x : Code} {K : Kon} (hc : c = .loop x) : g6X c K = aloop (g6X x) K big := loop_cut hc
theorem g6cond {c x y : Code} {K : Kon} {v : Operand} {F G : Env → St → Res} (hc : c = .cond v x y) (hx : g6X x K = F) (hy : g6X y K = G) : g6X c K = condF v F G := cond_cut hc hx hy
noncomputable def g6k0 : Kon := kSeq (g6X (g6C [1, 1, 1, 1, 1, 1, 1, 1]) (g6kr)) (g6kr)
noncomputable def g6b11111110_13 (x6 : V) (x9 : V) (x79 : V) (st : St) : Res :=
 A.guard x79 true
 (A.load true 4 x6 st fun a1 z2 =>
 A.load true 4 x9 z2 fun a3 z4 =>
 A.ret (s15d [a1.er1, a3.er1] z4) fun a5 z6 =>
 A.guard a5 true
 (A.ret (s10 [] z6) fun a7 z8 =>
 some (.ret a7.er1, z8))
 (some (.ret ((.bool false) : V).er1, z6)))
 (some (.ret ((.bool false) : V).er1, st))
theorem g6e11111110_13 : (fun env st => aops Try.prog g6mu g6T 87 (rops (g6C [1, 1, 1, 1, 1, 1, 1, 0])) [13, 14, 15, 16, 17, 18, 19, 20] env st ((g6k0) .normal)) = fun env st => g6b11111110_13 (env 6) (env 9) (env 79) st := by
  refine Eq.trans (Eq.refl _) ?_
  funext env st
  kernel_rfl
noncomputable def g6b11111110_7 (x6 : V) (x7 : V) (x9 : V) (x10 : V) (x73 : V) (st : St) : Res :=
 A.guard x73 true
 (A.lenS x7 fun a1 =>
 A.eql 2 false x10 a1 fun a2 =>
 g6b11111110_13 x6 x9 a2 st)
 (g6b11111110_13 x6 x9 (.bool false) st)
theorem g6e11111110_7 : (fun env st => aops Try.prog g6mu g6T 87 (rops (g6C [1, 1, 1, 1, 1, 1, 1, 0])) [7, 8, 9, 10, 11, 12, 13, 14, 15, 16, 17, 18, 19, 20] env st ((g6k0) .normal)) = fun env st => g6b11111110_7 (env 6) (env 7) (env 9) (env 10) (env 73) st := by
  refine Eq.trans (ops_cut (l1 := [7, 8, 9, 10, 11, 12]) (l2 := [13, 14, 15, 16, 17, 18, 19, 20]) (g6e11111110_13)) ?_
  funext env st
  kernel_rfl
noncomputable def g6b111111 (x6 : V) (x7 : V) (x8 : V) (st : St) : Res :=
 A.ret (s11 [x7.er1] st) fun a1 z2 =>
 A.ext a1 0 fun a3 =>
 A.ext a1 1 fun a4 =>
 A.ext a1 2 fun a5 =>
 A.box (.agg [(.int .i64 0), (.lst [] 1), (.lst [] 1), (.lst [] 1)]) z2 fun a6 z7 =>
 A.store 4 a6 a3 z7 fun z8 =>
 A.eql 2 false x8 (.int .i64 0) fun a9 =>
 A.guard a9 true
 (A.eql 2 false a5 (.int .i64 0) fun a10 =>
 g6b11111110_7 x6 x7 a6 a4 a10 z8)
 (g6b11111110_7 x6 x7 a6 a4 (.bool false) z8)
theorem g6n111111 : g6C [1, 1, 1, 1, 1, 1] = .seq (g6C [1, 1, 1, 1, 1, 1, 0]) (g6C [1, 1, 1, 1, 1, 1, 1]) := by kernel_rfl
theorem g6n1111111 : g6C [1, 1, 1, 1, 1, 1, 1] = .seq (g6C [1, 1, 1, 1, 1, 1, 1, 0]) (g6C [1, 1, 1, 1, 1, 1, 1, 1]) := by kernel_rfl
theorem g6rg11111110 : g6C [1, 1, 1, 1, 1, 1, 1, 0] = .region 16 (rops (g6C [1, 1, 1, 1, 1, 1, 1, 0])) false := by kernel_rfl
theorem g6rg11111110l : List.range (rops (g6C [1, 1, 1, 1, 1, 1, 1, 0])).size = [0, 1, 2, 3, 4, 5, 6] ++ [7, 8, 9, 10, 11, 12, 13, 14, 15, 16, 17, 18, 19, 20] := by kernel_rfl
theorem g6e111111 : g6X (g6C [1, 1, 1, 1, 1, 1]) (g6kr) = fun env st => g6b111111 (env 6) (env 7) (env 8) st := by
  refine Eq.trans (g6seq g6n111111 ((g6seq g6n1111111 rfl).trans (g6reg g6rg11111110 g6rg11111110l (g6e11111110_7)))) ?_
  funext env st
  kernel_rfl
noncomputable def g6b1111 (x5 : V) (x6 : V) (st : St) : Res :=
 A.load true 4 x6 st fun a1 z2 =>
 A.ret (s18d [a1.er1] z2) fun a3 z4 =>
 A.ext a3 0 fun a5 =>
 A.ext a3 1 fun a6 =>
 A.bin .gtr x5 (.int .i64 0) fun a7 =>
 A.cond a7
 (A.eql 3 false a5 (.str []) fun a8 =>
 A.guard a8 true
 (A.eql 2 false a6 (.int .i64 1) fun a9 =>
 A.guard a9 true
 (A.ret (s10 [] z4) fun a10 z11 =>
 some (.ret a10.er1, z11))
 (some (.ret ((.bool false) : V).er1, z4)))
 (some (.ret ((.bool false) : V).er1, z4)))
 (g6b111111 x6 a5 a6 z4)
theorem g6n1111 : g6C [1, 1, 1, 1] = .seq (g6C [1, 1, 1, 1, 0]) (g6C [1, 1, 1, 1, 1]) := by kernel_rfl
theorem g6n11111 : g6C [1, 1, 1, 1, 1] = .seq (g6C [1, 1, 1, 1, 1, 0]) (g6C [1, 1, 1, 1, 1, 1]) := by kernel_rfl
theorem g6e1111 : g6X (g6C [1, 1, 1, 1]) (g6kr) = fun env st => g6b1111 (env 5) (env 6) st := by
  refine Eq.trans (g6seq g6n1111 (g6seq g6n11111 (g6e111111))) ?_
  funext env st
  kernel_rfl
noncomputable def g6k1 : Kon := kSeq (fun env st => g6b1111 (env 5) (env 6) st) (g6kr)
noncomputable def g6k2 : Kon := kBlk 0 (g6k1)
noncomputable def g6b1110101 (x5 : V) (x6 : V) (x17 : V) (x24 : V) (st : St) : Res :=
 A.cond x24
 (A.bin .add (.int .i64 64) x5 fun a1 =>
 A.mksl 1 8 (.int .i64 0) a1 a1 fun a2 =>
 A.faddr 1 x6 fun a3 =>
 A.store 1 a3 a2 st fun z4 =>
 g6b1111 x5 x6 z4)
 (A.eql 2 false x17 (.int .i64 1) fun a5 =>
 A.cond a5
 (A.mksl 1 16 (.str []) (.int .i64 4000) (.int .i64 4000) fun a6 =>
 A.faddr 2 x6 fun a7 =>
 A.store 1 a7 a6 st fun z8 =>
 A.bin .add (.int .i64 96) x5 fun a9 =>
 A.mksl 1 16 (.str []) a9 a9 fun a10 =>
 A.bslice 1 (.lst [] 1) 1 [(0, a10)] fun a11 =>
 A.faddr 3 x6 fun a12 =>
 A.store 1 a12 a11 z8 fun z13 =>
 g6b1111 x5 x6 z13)
 (A.eql 2 false x17 (.int .i64 2) fun a14 =>
 A.cond a14
 (A.bin .add (.int .i64 4096) x5 fun a15 =>
 A.mksl 1 24 (.lst [] 1) a15 a15 fun a16 =>
 A.faddr 3 x6 fun a17 =>
 A.store 1 a17 a16 st fun z18 =>
 g6b1111 x5 x6 z18)
 (A.bin .add (.int .i64 65536) x5 fun a19 =>
 A.mksl 1 1 (.int .u8 0) a19 a19 fun a20 =>
 A.toStr a20 st fun a21 =>
 A.bslice 1 (.str []) 1 [(0, a21)] fun a22 =>
 A.faddr 2 x6 fun a23 =>
 A.store 1 a23 a22 st fun z24 =>
 g6b1111 x5 x6 z24)))
theorem g6e1110101 : g6X (g6C [1, 1, 1, 0, 1, 0, 1]) (g6k2) = fun env st => g6b1110101 (env 5) (env 6) (env 17) (env 24) st := by
  refine Eq.trans (Eq.refl (g6X (g6C [1, 1, 1, 0, 1, 0, 1]) (g6k2))) ?_
  funext env st
  kernel_rfl
noncomputable def f6 (x0 : V) (x1 : V) (st : St) : Res :=
 A.bin .and x1 (.int .i64 3) fun a1 =>
 A.bin .sub a1 (.int .i64 1) fun a2 =>
 A.build [(.int .i64 0), (.lst [] 1), (.lst [] 1), (.lst [] 1)] [(0, 1, (.int .i64 7))] fun a3 =>
 A.box (.agg [(.int .i64 0), (.lst [] 1), (.lst [] 1), (.lst [] 1)]) st fun a4 z5 =>
 A.store 4 a4 a3 z5 fun z6 =>
 A.bin .and x0 (.int .i64 3) fun a7 =>
 A.eql 2 false a7 (.int .i64 0) fun a8 =>
 g6b1110101 a2 a4 a7 a8 z6
theorem g6nr : g6C [] = .seq (g6C [0]) (g6C [1]) := by kernel_rfl
theorem g6n1 : g6C [1] = .seq (g6C [1, 0]) (g6C [1, 1]) := by kernel_rfl
theorem g6n11 : g6C [1, 1] = .seq (g6C [1, 1, 0]) (g6C [1, 1, 1]) := by kernel_rfl
theorem g6n111 : g6C [1, 1, 1] = .seq (g6C [1, 1, 1, 0]) (g6C [1, 1, 1, 1]) := by kernel_rfl
theorem g6n1110 : g6C [1, 1, 1, 0] = .seq (g6C [1, 1, 1, 0, 0]) (g6C [1, 1, 1, 0, 1]) := by kernel_rfl
theorem g6n11101 : g6C [1, 1, 1, 0, 1] = .block 0 (g6C [1, 1, 1, 0, 1, 0]) := by kernel_rfl
theorem g6n111010 : g6C [1, 1, 1, 0, 1, 0] = .seq (g6C [1, 1, 1, 0, 1, 0, 0]) (g6C [1, 1, 1, 0, 1, 0, 1]) := by kernel_rfl
theorem g6er (env : Env) (st : St) : g6X (g6C []) g6kr env st = f6 (env 0) (env 1) st := by
  rw [(g6seq g6nr (g6seq g6n1 (g6seq g6n11 ((g6seq g6n111 (g6e1111)).trans (g6seq g6n1110 ((g6blk g6n11101).trans (g6seq g6n111010 (g6e1110101))))))))]
  kernel_rfl
theorem s6_eq (x0 : V) (x1 : V) (st : St) : s6 [x0, x1] st = f6 x0 x1 st := by
  have h : afn Try.prog g6mu g6T big (areg Try.prog g6mu g6T) 6 [x0, x1] st = g6X (g6C []) g6kr (fun t => [x0, x1].getD t (.tup [])) st := by kernel_rfl
  rw [s6, sealF_eq]
  exact h.trans (g6er _ st)
end Go.Ab.Deep6
