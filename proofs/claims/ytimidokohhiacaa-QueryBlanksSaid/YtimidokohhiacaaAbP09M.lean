import Derived.Test.YtimidokohhiacaaAbQuiet
import Derived.Test.YtimidokohhiacaaAbA09n
namespace Go.Ab
open Go.Proofs
set_option linter.unusedVariables false
set_option maxRecDepth 100000
/-! sinew/sinewlaw09.QueryBlanks -/
def g10mu : Nat → Bool := fun _ => false
noncomputable def g10T : Tbl := tget [(12, s12), (13, s13), (15, s15)]
theorem g10t : SimT Try.prog g10T := simT_cons sim12 ( simT_cons sim13 ( simT_cons sim15 (simT_nil)))
noncomputable def s10 : Fn := sealF (afn Try.prog g10mu g10T big (areg Try.prog g10mu g10T) 10)
theorem sim10 : Sim Try.prog 10 s10 := (afn_sim g10t (fun m => areg_sound g10t hmix m) 10 (by kernel_rfl)).sealed
noncomputable def g10C (p : List Nat) : Code := sub (match Try.f10.body with | some c => c | none => .skip) p
noncomputable def g10X (c : Code) (K : Kon) : Env → St → Res := aexec Try.prog g10mu g10T big 99 (areg Try.prog g10mu g10T 99) c K
noncomputable def g10kr : Kon := aresK Try.prog Try.f10.results.toList
theorem g10reg {c : Code} {K : Kon} {G : Env → St → Res} {id : Nat} {ops : Array Oper} {l1 l2 : List Nat} (hc : c = .region id ops false) (hl : List.range ops.size = l1 ++ l2) (h : (fun env st => aops Try.prog g10mu g10T 99 ops l2 env st (K .normal)) = G) : g10X c K = fun env st => aops Try.prog g10mu g10T 99 ops l1 env st G := reg_cut hc hl h
theorem g10seq {c x y : Code} {K : Kon} {G : Env → St → Res} (hc : c = .seq x y) (hy : g10X y K = G) : g10X c K = g10X x (kSeq G K) := seq_cut hc hy
theorem g10blk {c x : Code} {K : Kon} {i : Nat} (hc : c = .block i x) : g10X c K = g10X x (kBlk i K) := blk_cut hc
theorem g10loop {c x : Code} {K : Kon} (hc : c = .loop x) : g10X c K = aloop (g10X x) K big := loop_cut hc
theorem g10cond {c x y : Code} {K : Kon} {v : Operand} {F G : Env → St → Res} (hc : c = .cond v x y) (hx : g10X x K = F) (hy : g10X y K = G) : g10X c K = condF v F G := cond_cut hc hx hy
noncomputable def g10k0 : Kon := kSeq (g10X (g10C [1, 1, 1, 1, 1, 1, 1, 1]) (g10kr)) (g10kr)
noncomputable def g10b11111110_7 (x5 : V) (x11 : V) (x91 : V) (st : St) : Res :=
 A.guard x91 true
 (A.load true 4 x5 st fun a1 z2 =>
 A.load true 4 x11 z2 fun a3 z4 =>
 A.ret (s15 [a1.er1, a3.er1] z4) fun a5 z6 =>
 A.guard a5 true
 (A.ret (s13 [] z6) fun a7 z8 =>
 some (.ret a7.er1, z8))
 (some (.ret ((.bool false) : V).er1, z6)))
 (some (.ret ((.bool false) : V).er1, st))
theorem g10e11111110_7 : (fun env st => aops Try.prog g10mu g10T 99 (rops (g10C [1, 1, 1, 1, 1, 1, 1, 0])) [7, 8, 9, 10, 11, 12, 13, 14] env st ((g10k0) .normal)) = fun env st => g10b11111110_7 (env 5) (env 11) (env 91) st := by
  refine Eq.trans (Eq.refl _) ?_
  funext env st
  kernel_rfl
noncomputable def g10b1111111 (x5 : V) (x11 : V) (x12 : V) (x13 : V) (st : St) : Res :=
 A.eql 2 false x13 (.int .i64 0) fun a1 =>
 A.guard a1 true
 (A.eql 2 false x12 (.int .i64 0) fun a2 =>
 g10b11111110_7 x5 x11 a2 st)
 (g10b11111110_7 x5 x11 (.bool false) st)
theorem g10n1111111 : g10C [1, 1, 1, 1, 1, 1, 1] = .seq (g10C [1, 1, 1, 1, 1, 1, 1, 0]) (g10C [1, 1, 1, 1, 1, 1, 1, 1]) := by kernel_rfl
theorem g10rg11111110 : g10C [1, 1, 1, 1, 1, 1, 1, 0] = .region 13 (rops (g10C [1, 1, 1, 1, 1, 1, 1, 0])) false := by kernel_rfl
theorem g10rg11111110l : List.range (rops (g10C [1, 1, 1, 1, 1, 1, 1, 0])).size = [0, 1, 2, 3, 4, 5, 6] ++ [7, 8, 9, 10, 11, 12, 13, 14] := by kernel_rfl
theorem g10e1111111 : g10X (g10C [1, 1, 1, 1, 1, 1, 1]) (g10kr) = fun env st => g10b1111111 (env 5) (env 11) (env 12) (env 13) st := by
  refine Eq.trans ((g10seq g10n1111111 rfl).trans (g10reg g10rg11111110 g10rg11111110l (g10e11111110_7))) ?_
  funext env st
  kernel_rfl
noncomputable def g10b111111 (x1 : V) (x5 : V) (x8 : V) (x9 : V) (st : St) : Res :=
 A.bin .shr x1 (.int .u64 2) fun a1 =>
 A.bin .and a1 (.int .i64 3) fun a2 =>
 A.iaddr 1 x8 a2 fun a3 =>
 A.load false 1 a3 st fun a4 z5 =>
 A.bin .add x9 a4 fun a6 =>
 A.ret (s12 [a6.er1] z5) fun a7 z8 =>
 A.ext a7 0 fun a9 =>
 A.ext a7 1 fun a10 =>
 A.ext a7 2 fun a11 =>
 A.box (.agg [(.int .i64 0), (.lst [] 1), (.lst [] 1), (.lst [] 1)]) z8 fun a12 z13 =>
 A.store 4 a12 a9 z13 fun z14 =>
 g10b1111111 x5 a12 a10 a11 z14
theorem g10n111111 : g10C [1, 1, 1, 1, 1, 1] = .seq (g10C [1, 1, 1, 1, 1, 1, 0]) (g10C [1, 1, 1, 1, 1, 1, 1]) := by kernel_rfl
theorem g10e111111 : g10X (g10C [1, 1, 1, 1, 1, 1]) (g10kr) = fun env st => g10b111111 (env 1) (env 5) (env 8) (env 9) st := by
  refine Eq.trans (g10seq g10n111111 (g10e1111111)) ?_
  funext env st
  kernel_rfl
noncomputable def g10k1 : Kon := kSeq (fun env st => g10b111111 (env 1) (env 5) (env 8) (env 9) st) (g10kr)
noncomputable def g10k2 : Kon := kBlk 0 (g10k1)
noncomputable def g10k3 (L11111010 : V → V → V → V → V → V → St → Res) : Kon := kSeq (fun env st => L11111010 (env 0) (env 1) (env 5) (env 8) (env 9) (env 10) st) (g10k2)
noncomputable def g10k4 (L11111010 : V → V → V → V → V → V → St → Res) : Kon := kSeq (g10X (g10C [1, 1, 1, 1, 1, 0, 1, 0, 0, 1, 1]) (g10k3 L11111010)) (g10k3 L11111010)
noncomputable def g10k5 (L11111010 : V → V → V → V → V → V → St → Res) : Kon := kBlk 1 (g10k4 L11111010)
noncomputable def g10b1111101001001 (L11111010 : V → V → V → V → V → V → St → Res) (x0 : V) (x1 : V) (x5 : V) (x8 : V) (x9 : V) (x10 : V) (x55 : V) (st : St) : Res :=
 A.cond x55
 (A.bin .add x1 x10 fun a1 =>
 A.bin .and a1 (.int .i64 3) fun a2 =>
 A.iaddr 1 x8 a2 fun a3 =>
 A.load false 1 a3 st fun a4 z5 =>
 A.bin .add x9 a4 fun a6 =>
 A.bin .add x10 (.int .i64 1) fun a7 =>
 L11111010 x0 x1 x5 x8 a6 a7 z5)
 (A.idxS x0 x10 fun a8 =>
 A.bslice 1 (.int .u8 0) 1 [(0, a8)] fun a9 =>
 A.toStr a9 st fun a10 =>
 A.bin .add x9 a10 fun a11 =>
 A.bin .add x10 (.int .i64 1) fun a12 =>
 L11111010 x0 x1 x5 x8 a11 a12 st)
theorem g10e1111101001001 (L11111010 : V → V → V → V → V → V → St → Res) : g10X (g10C [1, 1, 1, 1, 1, 0, 1, 0, 0, 1, 0, 0, 1]) (g10k5 L11111010) = fun env st => g10b1111101001001 L11111010 (env 0) (env 1) (env 5) (env 8) (env 9) (env 10) (env 55) st := by
  refine Eq.trans (Eq.refl (g10X (g10C [1, 1, 1, 1, 1, 0, 1, 0, 0, 1, 0, 0, 1]) (g10k5 L11111010))) ?_
  funext env st
  kernel_rfl
noncomputable def g10k6 (L11111010 : V → V → V → V → V → V → St → Res) : Kon := kSeq (fun env st => g10b1111101001001 L11111010 (env 0) (env 1) (env 5) (env 8) (env 9) (env 10) (env 55) st) (g10k5 L11111010)
noncomputable def g10b1111101001000_11 (L11111010 : V → V → V → V → V → V → St → Res) (x0 : V) (x1 : V) (x5 : V) (x8 : V) (x9 : V) (x10 : V) (x50 : V) (st : St) : Res :=
 A.guard x50 false
 (A.idxS x0 x10 fun a1 =>
 A.eql 2 false a1 (.int .u8 10) fun a2 =>
 g10b1111101001001 L11111010 x0 x1 x5 x8 x9 x10 a2 st)
 (g10b1111101001001 L11111010 x0 x1 x5 x8 x9 x10 (.bool true) st)
theorem g10e1111101001000_11 (L11111010 : V → V → V → V → V → V → St → Res) : (fun env st => aops Try.prog g10mu g10T 99 (rops (g10C [1, 1, 1, 1, 1, 0, 1, 0, 0, 1, 0, 0, 0])) [11, 12, 13, 14, 15] env st ((g10k6 L11111010) .normal)) = fun env st => g10b1111101001000_11 L11111010 (env 0) (env 1) (env 5) (env 8) (env 9) (env 10) (env 50) st := by
  refine Eq.trans (Eq.refl _) ?_
  funext env st
  kernel_rfl
noncomputable def g10b11111010 : Nat → V → V → V → V → V → V → St → Res
| 0, _, _, _, _, _, _, _ => none
| n + 1, x0, x1, x5, x8, x9, x10, st =>
 A.lenS x0 fun a1 =>
 A.bin .lss x10 a1 fun a2 =>
 A.cond a2
 (A.idxS x0 x10 fun a3 =>
 A.eql 2 false a3 (.int .u8 32) fun a4 =>
 A.guard a4 false
 (A.idxS x0 x10 fun a5 =>
 A.eql 2 false a5 (.int .u8 9) fun a6 =>
 g10b1111101001000_11 (g10b11111010 n) x0 x1 x5 x8 x9 x10 a6 st)
 (g10b1111101001000_11 (g10b11111010 n) x0 x1 x5 x8 x9 x10 (.bool true) st))
 (g10b111111 x1 x5 x8 x9 st)
theorem g10n11111010 : g10C [1, 1, 1, 1, 1, 0, 1, 0] = .loop (g10C [1, 1, 1, 1, 1, 0, 1, 0, 0]) := by kernel_rfl
theorem g10n111110100 : g10C [1, 1, 1, 1, 1, 0, 1, 0, 0] = .seq (g10C [1, 1, 1, 1, 1, 0, 1, 0, 0, 0]) (g10C [1, 1, 1, 1, 1, 0, 1, 0, 0, 1]) := by kernel_rfl
theorem g10n1111101001 : g10C [1, 1, 1, 1, 1, 0, 1, 0, 0, 1] = .seq (g10C [1, 1, 1, 1, 1, 0, 1, 0, 0, 1, 0]) (g10C [1, 1, 1, 1, 1, 0, 1, 0, 0, 1, 1]) := by kernel_rfl
theorem g10n11111010010 : g10C [1, 1, 1, 1, 1, 0, 1, 0, 0, 1, 0] = .block 1 (g10C [1, 1, 1, 1, 1, 0, 1, 0, 0, 1, 0, 0]) := by kernel_rfl
theorem g10n111110100100 : g10C [1, 1, 1, 1, 1, 0, 1, 0, 0, 1, 0, 0] = .seq (g10C [1, 1, 1, 1, 1, 0, 1, 0, 0, 1, 0, 0, 0]) (g10C [1, 1, 1, 1, 1, 0, 1, 0, 0, 1, 0, 0, 1]) := by kernel_rfl
theorem g10rg1111101001000 : g10C [1, 1, 1, 1, 1, 0, 1, 0, 0, 1, 0, 0, 0] = .region 9 (rops (g10C [1, 1, 1, 1, 1, 0, 1, 0, 0, 1, 0, 0, 0])) false := by kernel_rfl
theorem g10rg1111101001000l : List.range (rops (g10C [1, 1, 1, 1, 1, 0, 1, 0, 0, 1, 0, 0, 0])).size = [0, 1, 2, 3, 4, 5, 6, 7, 8, 9, 10] ++ [11, 12, 13, 14, 15] := by kernel_rfl
theorem g10e11111010 : g10X (g10C [1, 1, 1, 1, 1, 0, 1, 0]) (g10k2) = fun env st => g10b11111010 big (env 0) (env 1) (env 5) (env 8) (env 9) (env 10) st := by
  have key : ∀ n, aloop (g10X (g10C [1, 1, 1, 1, 1, 0, 1, 0, 0])) (g10k2) n = fun env st => g10b11111010 n (env 0) (env 1) (env 5) (env 8) (env 9) (env 10) st := by
    intro n
    induction n with
    | zero => rfl
    | succ n ih =>
      have h : aloop (g10X (g10C [1, 1, 1, 1, 1, 0, 1, 0, 0])) (g10k2) (n + 1) = g10X (g10C [1, 1, 1, 1, 1, 0, 1, 0, 0]) (kSeq (aloop (g10X (g10C [1, 1, 1, 1, 1, 0, 1, 0, 0])) (g10k2) n) (g10k2)) := rfl
      rw [h, ih]
      refine Eq.trans (g10seq g10n111110100 ((g10seq g10n1111101001 rfl).trans ((g10blk g10n11111010010).trans ((g10seq g10n111110100100 (g10e1111101001001 (g10b11111010 n))).trans (g10reg g10rg1111101001000 g10rg1111101001000l (g10e1111101001000_11 (g10b11111010 n))))))) ?_
      funext env st
      kernel_rfl
  exact (g10loop g10n11111010).trans (key big)
noncomputable def g10b111 (x0 : V) (x1 : V) (x5 : V) (st : St) : Res :=
 A.bslice 1 (.str []) 4 [(0, (.str [32, 32])), (1, (.str [10])), (2, (.str [9, 32])), (3, (.str [32, 10, 10]))] fun a1 =>
 A.bin .and x1 (.int .i64 3) fun a2 =>
 A.iaddr 1 a1 a2 fun a3 =>
 A.load false 1 a3 st fun a4 z5 =>
 g10b11111010 big x0 x1 x5 a1 a4 (.int .i64 0) z5
theorem g10n111 : g10C [1, 1, 1] = .seq (g10C [1, 1, 1, 0]) (g10C [1, 1, 1, 1]) := by kernel_rfl
theorem g10n1111 : g10C [1, 1, 1, 1] = .seq (g10C [1, 1, 1, 1, 0]) (g10C [1, 1, 1, 1, 1]) := by kernel_rfl
theorem g10n11111 : g10C [1, 1, 1, 1, 1] = .seq (g10C [1, 1, 1, 1, 1, 0]) (g10C [1, 1, 1, 1, 1, 1]) := by kernel_rfl
theorem g10n111110 : g10C [1, 1, 1, 1, 1, 0] = .seq (g10C [1, 1, 1, 1, 1, 0, 0]) (g10C [1, 1, 1, 1, 1, 0, 1]) := by kernel_rfl
theorem g10n1111101 : g10C [1, 1, 1, 1, 1, 0, 1] = .block 0 (g10C [1, 1, 1, 1, 1, 0, 1, 0]) := by kernel_rfl
theorem g10e111 : g10X (g10C [1, 1, 1]) (g10kr) = fun env st => g10b111 (env 0) (env 1) (env 5) st := by
  refine Eq.trans (g10seq g10n111 (g10seq g10n1111 ((g10seq g10n11111 (g10e111111)).trans (g10seq g10n111110 ((g10blk g10n1111101).trans (g10e11111010)))))) ?_
  funext env st
  kernel_rfl
noncomputable def g10b11 (x0 : V) (x1 : V) (x5 : V) (x7 : V) (st : St) : Res :=
 A.eql 2 true x7 (.int .i64 0) fun a1 =>
 A.guard a1 false
 (A.lenS x0 fun a2 =>
 A.bin .gtr a2 (.int .i64 300) fun a3 =>
 A.cond a3
 (A.ret (s13 [] st) fun a4 z5 =>
 some (.ret a4.er1, z5))
 (g10b111 x0 x1 x5 st))
 (A.ret (s13 [] st) fun a6 z7 =>
 some (.ret a6.er1, z7))
theorem g10n11 : g10C [1, 1] = .seq (g10C [1, 1, 0]) (g10C [1, 1, 1]) := by kernel_rfl
theorem g10e11 : g10X (g10C [1, 1]) (g10kr) = fun env st => g10b11 (env 0) (env 1) (env 5) (env 7) st := by
  refine Eq.trans (g10seq g10n11 (g10e111)) ?_
  funext env st
  kernel_rfl
noncomputable def f10 (x0 : V) (x1 : V) (st : St) : Res :=
 A.ret (s12 [x0.er1] st) fun a1 z2 =>
 A.ext a1 0 fun a3 =>
 A.ext a1 1 fun a4 =>
 A.ext a1 2 fun a5 =>
 A.box (.agg [(.int .i64 0), (.lst [] 1), (.lst [] 1), (.lst [] 1)]) z2 fun a6 z7 =>
 A.store 4 a6 a3 z7 fun z8 =>
 g10b11 x0 x1 a6 a5 z8
theorem g10nr : g10C [] = .seq (g10C [0]) (g10C [1]) := by kernel_rfl
theorem g10n1 : g10C [1] = .seq (g10C [1, 0]) (g10C [1, 1]) := by kernel_rfl
theorem g10er (env : Env) (st : St) : g10X (g10C []) g10kr env st = f10 (env 0) (env 1) st := by
  rw [(g10seq g10nr (g10seq g10n1 (g10e11)))]
  kernel_rfl
theorem s10_eq (x0 : V) (x1 : V) (st : St) : s10 [x0, x1] st = f10 x0 x1 st := by
  have h : afn Try.prog g10mu g10T big (areg Try.prog g10mu g10T) 10 [x0, x1] st = g10X (g10C []) g10kr (fun t => [x0, x1].getD t (.tup [])) st := by kernel_rfl
  rw [s10, sealF_eq]
  exact h.trans (g10er _ st)
end Go.Ab
