import Derived.Test.YtimidokohhiacaaAbQuiet
import Derived.Test.YtimidokohhiacaaAbP09k
import Derived.Test.YtimidokohhiacaaAbP09u
namespace Go.Ab
open Go.Proofs
set_option linter.unusedVariables false
set_option maxRecDepth 100000
/-! sinew/sinewlaw09.QueryBatch -/
def g8mu : Nat → Bool := fun _ => false
noncomputable def g8T : Tbl := tget [(12, s12), (13, s13), (15, s15), (19, s19), (23, s23)]
theorem g8t : SimT Try.prog g8T := simT_cons sim12 ( simT_cons sim13 ( simT_cons sim15 ( simT_cons sim19 ( simT_cons sim23 (simT_nil)))))
noncomputable def s8 : Fn := sealF (afn Try.prog g8mu g8T big (areg Try.prog g8mu g8T) 8)
theorem sim8 : Sim Try.prog 8 s8 := (afn_sim g8t (fun m => areg_sound g8t hmix m) 8 (by kernel_rfl)).sealed
noncomputable def g8C (p : List Nat) : Code := sub (match Try.f8.body with | some c => c | none => .skip) p
noncomputable def g8X (c : Code) (K : Kon) : Env → St → Res := aexec Try.prog g8mu g8T big 118 (areg Try.prog g8mu g8T 118) c K
noncomputable def g8kr : Kon := aresK Try.prog Try.f8.results.toList
theorem g8reg {c : Code} {K : Kon} {G : Env → St → Res} {id : Nat} {ops : Array Oper} {l1 l2 : List Nat} (hc : c = .region id ops false) (hl : List.range ops.size = l1 ++ l2) (h : (fun env st => aops Try.prog g8mu g8T 118 ops l2 env st (K .normal)) = G) : g8X c K = fun env st => aops Try.prog g8mu g8T 118 ops l1 env st G := reg_cut hc hl h
theorem g8seq {c x y : Code} {K : Kon} {G : Env → St → Res} (hc : c = .seq x y) (hy : g8X y K = G) : g8X c K = g8X x (kSeq G K) := seq_cut hc hy
theorem g8blk {c x : Code} {K : Kon} {i : Nat} (hc : c = .block i x) : g8X c K = g8X x (kBlk i K) := blk_cut hc
theorem g8loop {c x : Code} {K : Kon} (hc : c = .loop x) : g8X c K = aloop (g8X x) K big := loop_cut hc
theorem g8cond {c x y : Code} {K : Kon} {v : Operand} {F G : Env → St → Res} (hc : c = .cond v x y) (hx : g8X x K = F) (hy : g8X y K = G) : g8X c K = condF v F G := cond_cut hc hx hy
noncomputable def g8k0 : Kon := kSeq (g8X (g8C [1, 1, 1, 1, 1, 1, 1]) (g8kr)) (g8kr)
noncomputable def g8bz72_8 (x9 : V) (x111 : V) (st : St) : Res :=
 A.guard x111 true
 (A.eql 2 false x9 (.int .i64 0) fun a1 =>
 A.guard a1 true
 (A.ret (s13 [] st) fun a2 z3 =>
 some (.ret a2.er1, z3))
 (some (.ret ((.bool false) : V).er1, st)))
 (some (.ret ((.bool false) : V).er1, st))
theorem g8ez72_8 : (fun env st => aops Try.prog g8mu g8T 118 (rops (g8C [1, 1, 1, 1, 1, 1, 0])) [8, 9, 10, 11, 12, 13, 14] env st ((g8k0) .normal)) = fun env st => g8bz72_8 (env 9) (env 111) st := by
  refine Eq.trans (Eq.refl _) ?_
  funext env st
  kernel_rfl
noncomputable def g8b11111 (x3 : V) (x6 : V) (st : St) : Res :=
 A.ret (s12 [x3.er1] st) fun a1 z2 =>
 A.ext a1 0 fun a3 =>
 A.ext a1 1 fun a4 =>
 A.ext a1 2 fun a5 =>
 A.box (.agg [(.int .i64 0), (.lst [] 1), (.lst [] 1), (.lst [] 1)]) z2 fun a6 z7 =>
 A.store 4 a6 a3 z7 fun z8 =>
 A.load true 4 a6 z8 fun a9 z10 =>
 A.load true 4 x6 z10 fun a11 z12 =>
 A.ret (s15 [a9.er1, a11.er1] z12) fun a13 z14 =>
 A.guard a13 true
 (A.eql 2 false a4 (.int .i64 0) fun a15 =>
 g8bz72_8 a5 a15 z14)
 (g8bz72_8 a5 (.bool false) z14)
theorem g8n11111 : g8C [1, 1, 1, 1, 1] = .seq (g8C [1, 1, 1, 1, 1, 0]) (g8C [1, 1, 1, 1, 1, 1]) := by kernel_rfl
theorem g8nz3j : g8C [1, 1, 1, 1, 1, 1] = .seq (g8C [1, 1, 1, 1, 1, 1, 0]) (g8C [1, 1, 1, 1, 1, 1, 1]) := by kernel_rfl
theorem g8rgz72 : g8C [1, 1, 1, 1, 1, 1, 0] = .region 17 (rops (g8C [1, 1, 1, 1, 1, 1, 0])) false := by kernel_rfl
theorem g8rgz72l : List.range (rops (g8C [1, 1, 1, 1, 1, 1, 0])).size = [0, 1, 2, 3, 4, 5, 6, 7] ++ [8, 9, 10, 11, 12, 13, 14] := by kernel_rfl
theorem g8e11111 : g8X (g8C [1, 1, 1, 1, 1]) (g8kr) = fun env st => g8b11111 (env 3) (env 6) st := by
  refine Eq.trans (g8seq g8n11111 ((g8seq g8nz3j rfl).trans (g8reg g8rgz72 g8rgz72l (g8ez72_8)))) ?_
  funext env st
  kernel_rfl
noncomputable def g8k1 : Kon := kSeq (fun env st => g8b11111 (env 3) (env 6) st) (g8kr)
noncomputable def g8bz3h (x3 : V) (x6 : V) (x89 : V) (st : St) : Res :=
 A.cond x89
 (A.load true 4 x6 st fun a1 _ =>
 A.noP (A.ret (s19 [a1.er1] st) kid) fun a2 z3 =>
 A.load true 4 x6 z3 fun a4 _ =>
 A.chk (ldv true 4 x6 st) a4
 (A.ret (A.ret (s23 [a4.er1] z3) kid) fun a5 z6 =>
 A.eql 2 false a2 a5 fun a7 =>
 A.guard a7 true
 (A.ret (A.ret (s13 [] z6) kid) fun a8 z9 =>
 some (.ret a8.er1, z9))
 (some (.ret ((.bool false) : V).er1, z6))))
 (g8b11111 x3 x6 st)
theorem g8ez3h : g8X (g8C [1, 1, 1, 1, 0, 1]) (g8k1) = fun env st => g8bz3h (env 3) (env 6) (env 89) st := by
  refine Eq.trans (Eq.refl (g8X (g8C [1, 1, 1, 1, 0, 1]) (g8k1))) ?_
  funext env st
  kernel_rfl
noncomputable def g8b111 (x0 : V) (x3 : V) (st : St) : Res :=
 A.build [(.int .i64 0), (.lst [] 1), (.lst [] 1), (.lst [] 1)] [(0, 1, (.int .i64 2)), (3, 1, x0)] fun a1 =>
 A.box (.agg [(.int .i64 0), (.lst [] 1), (.lst [] 1), (.lst [] 1)]) st fun a2 z3 =>
 A.store 4 a2 a1 z3 fun z4 =>
 A.load true 4 a2 z4 fun a5 z6 =>
 A.ret (s19 [a5.er1] z6) fun a7 z8 =>
 A.eql 2 true a7 (.int .i64 0) fun a9 =>
 A.guard a9 false
 (A.lenS x3 fun a10 =>
 A.bin .gtr a10 (.int .i64 4096) fun a11 =>
 g8bz3h x3 a2 a11 z8)
 (g8bz3h x3 a2 (.bool true) z8)
theorem g8n111 : g8C [1, 1, 1] = .seq (g8C [1, 1, 1, 0]) (g8C [1, 1, 1, 1]) := by kernel_rfl
theorem g8n1111 : g8C [1, 1, 1, 1] = .seq (g8C [1, 1, 1, 1, 0]) (g8C [1, 1, 1, 1, 1]) := by kernel_rfl
theorem g8n11110 : g8C [1, 1, 1, 1, 0] = .seq (g8C [1, 1, 1, 1, 0, 0]) (g8C [1, 1, 1, 1, 0, 1]) := by kernel_rfl
theorem g8e111 : g8X (g8C [1, 1, 1]) (g8kr) = fun env st => g8b111 (env 0) (env 3) st := by
  refine Eq.trans (g8seq g8n111 ((g8seq g8n1111 (g8e11111)).trans (g8seq g8n11110 (g8ez3h)))) ?_
  funext env st
  kernel_rfl
noncomputable def g8k2 : Kon := kSeq (fun env st => g8b111 (env 0) (env 3) st) (g8kr)
noncomputable def g8k3 : Kon := kBlk 0 (g8k2)
noncomputable def g8k4 (L11010 : V → V → V → St → Res) : Kon := kSeq (fun env st => L11010 (env 0) (env 3) (env 4) st) (g8k3)
noncomputable def g8k5 (L11010 : V → V → V → St → Res) : Kon := kSeq (g8X (g8C [1, 1, 0, 1, 0, 0, 1, 1]) (g8k4 L11010)) (g8k4 L11010)
noncomputable def g8k6 (L11010 : V → V → V → St → Res) : Kon := kBlk 1 (g8k5 L11010)
noncomputable def g8bzbin (L11010 : V → V → V → St → Res) (x0 : V) (x3 : V) (x4 : V) (x5 : V) (st : St) : Res :=
 A.bin .add x3 x5 fun a1 =>
 A.iaddr 4 x0 x4 fun a2 =>
 A.faddr 1 a2 fun a3 =>
 A.faddr 0 a3 fun a4 =>
 A.load false 1 a4 st fun a5 _ =>
 A.bin .add a1 a5 fun a6 =>
 A.bin .add a6 (.str [10]) fun a7 =>
 A.iaddr 4 x0 x4 fun a8 =>
 A.faddr 1 a8 fun a9 =>
 A.faddr 1 a9 fun a10 =>
 A.load false 1 a10 st fun a11 _ =>
 A.bin .add a7 a11 fun a12 =>
 A.bin .add a12 (.str [32]) fun a13 =>
 A.iaddr 4 x0 x4 fun a14 =>
 A.faddr 1 a14 fun a15 =>
 A.faddr 2 a15 fun a16 =>
 A.load false 1 a16 st fun a17 _ =>
 A.bin .add a13 a17 fun a18 =>
 A.bin .add x4 (.int .i64 1) fun a19 =>
 L11010 x0 a18 a19 st
theorem g8ezbin (L11010 : V → V → V → St → Res) : g8X (g8C [1, 1, 0, 1, 0, 0, 1, 0, 0, 1, 1, 1, 1]) (g8k6 L11010) = fun env st => g8bzbin L11010 (env 0) (env 3) (env 4) (env 5) st := by
  refine Eq.trans (Eq.refl (g8X (g8C [1, 1, 0, 1, 0, 0, 1, 0, 0, 1, 1, 1, 1]) (g8k6 L11010))) ?_
  funext env st
  kernel_rfl
noncomputable def g8bz2vn (L11010 : V → V → V → St → Res) (x0 : V) (x3 : V) (x4 : V) (st : St) : Res :=
 A.iaddr 4 x0 x4 fun a1 =>
 A.faddr 0 a1 fun a2 =>
 A.load false 1 a2 st fun a3 z4 =>
 A.cond a3
 (g8bzbin L11010 x0 x3 x4 (.str [100, 101, 108, 101, 116, 101, 32]) z4)
 (g8bzbin L11010 x0 x3 x4 (.str [105, 110, 115, 101, 114, 116, 32]) z4)
theorem g8nz2vn : g8C [1, 1, 0, 1, 0, 0, 1, 0, 0, 1, 1] = .seq (g8C [1, 1, 0, 1, 0, 0, 1, 0, 0, 1, 1, 0]) (g8C [1, 1, 0, 1, 0, 0, 1, 0, 0, 1, 1, 1]) := by kernel_rfl
theorem g8nz5rb : g8C [1, 1, 0, 1, 0, 0, 1, 0, 0, 1, 1, 1] = .seq (g8C [1, 1, 0, 1, 0, 0, 1, 0, 0, 1, 1, 1, 0]) (g8C [1, 1, 0, 1, 0, 0, 1, 0, 0, 1, 1, 1, 1]) := by kernel_rfl
theorem g8ez2vn (L11010 : V → V → V → St → Res) : g8X (g8C [1, 1, 0, 1, 0, 0, 1, 0, 0, 1, 1]) (g8k6 L11010) = fun env st => g8bz2vn L11010 (env 0) (env 3) (env 4) st := by
  refine Eq.trans (g8seq g8nz2vn (g8seq g8nz5rb (g8ezbin L11010))) ?_
  funext env st
  kernel_rfl
noncomputable def g8bz1ft (L11010 : V → V → V → St → Res) (x0 : V) (x3 : V) (x4 : V) (st : St) : Res :=
 A.bin .gtr x4 (.int .i64 0) fun a1 =>
 A.cond a1
 (A.bin .add x3 (.str [46]) fun a2 =>
 g8bz2vn L11010 x0 a2 x4 st)
 (g8bz2vn L11010 x0 x3 x4 st)
theorem g8nz1ft : g8C [1, 1, 0, 1, 0, 0, 1, 0, 0, 1] = .seq (g8C [1, 1, 0, 1, 0, 0, 1, 0, 0, 1, 0]) (g8C [1, 1, 0, 1, 0, 0, 1, 0, 0, 1, 1]) := by kernel_rfl
theorem g8ez1ft (L11010 : V → V → V → St → Res) : g8X (g8C [1, 1, 0, 1, 0, 0, 1, 0, 0, 1]) (g8k6 L11010) = fun env st => g8bz1ft L11010 (env 0) (env 3) (env 4) st := by
  refine Eq.trans (g8seq g8nz1ft (g8ez2vn L11010)) ?_
  funext env st
  kernel_rfl
noncomputable def g8b11010 : Nat → V → V → V → St → Res
| 0, _, _, _, _ => none
| n + 1, x0, x3, x4, st =>
 A.lenL x0 fun a1 =>
 A.bin .lss x4 a1 fun a2 =>
 A.cond a2
 (A.bin .geq x4 (.int .i64 64) fun a3 =>
 A.guard a3 false
 (A.iaddr 4 x0 x4 fun a4 =>
 A.faddr 1 a4 fun a5 =>
 A.faddr 0 a5 fun a6 =>
 A.load false 1 a6 st fun a7 _ =>
 A.lenS a7 fun a8 =>
 A.iaddr 4 x0 x4 fun a9 =>
 A.faddr 1 a9 fun a10 =>
 A.faddr 1 a10 fun a11 =>
 A.load false 1 a11 st fun a12 _ =>
 A.lenS a12 fun a13 =>
 A.bin .add a8 a13 fun a14 =>
 A.iaddr 4 x0 x4 fun a15 =>
 A.faddr 1 a15 fun a16 =>
 A.faddr 2 a16 fun a17 =>
 A.load false 1 a17 st fun a18 _ =>
 A.lenS a18 fun a19 =>
 A.bin .add a14 a19 fun a20 =>
 A.bin .gtr a20 (.int .i64 60) fun a21 =>
 A.cond a21
 (A.ret (s13 [] st) fun a22 z23 =>
 some (.ret a22.er1, z23))
 (g8bz1ft (g8b11010 n) x0 x3 x4 st))
 (A.ret (s13 [] st) fun a24 z25 =>
 some (.ret a24.er1, z25)))
 (g8b111 x0 x3 st)
theorem g8n11010 : g8C [1, 1, 0, 1, 0] = .loop (g8C [1, 1, 0, 1, 0, 0]) := by kernel_rfl
theorem g8nz38 : g8C [1, 1, 0, 1, 0, 0] = .seq (g8C [1, 1, 0, 1, 0, 0, 0]) (g8C [1, 1, 0, 1, 0, 0, 1]) := by kernel_rfl
theorem g8nz6h : g8C [1, 1, 0, 1, 0, 0, 1] = .seq (g8C [1, 1, 0, 1, 0, 0, 1, 0]) (g8C [1, 1, 0, 1, 0, 0, 1, 1]) := by kernel_rfl
theorem g8nzcy : g8C [1, 1, 0, 1, 0, 0, 1, 0] = .block 1 (g8C [1, 1, 0, 1, 0, 0, 1, 0, 0]) := by kernel_rfl
theorem g8nzpw : g8C [1, 1, 0, 1, 0, 0, 1, 0, 0] = .seq (g8C [1, 1, 0, 1, 0, 0, 1, 0, 0, 0]) (g8C [1, 1, 0, 1, 0, 0, 1, 0, 0, 1]) := by kernel_rfl
theorem g8e11010 : g8X (g8C [1, 1, 0, 1, 0]) (g8k3) = fun env st => g8b11010 big (env 0) (env 3) (env 4) st := by
  have key : ∀ n, aloop (g8X (g8C [1, 1, 0, 1, 0, 0])) (g8k3) n = fun env st => g8b11010 n (env 0) (env 3) (env 4) st := by
    intro n
    induction n with
    | zero => rfl
    | succ n ih =>
      have h : aloop (g8X (g8C [1, 1, 0, 1, 0, 0])) (g8k3) (n + 1) = g8X (g8C [1, 1, 0, 1, 0, 0]) (kSeq (aloop (g8X (g8C [1, 1, 0, 1, 0, 0])) (g8k3) n) (g8k3)) := rfl
      rw [h, ih]
      refine Eq.trans (g8seq g8nz38 ((g8seq g8nz6h rfl).trans ((g8blk g8nzcy).trans (g8seq g8nzpw (g8ez1ft (g8b11010 n)))))) ?_
      funext env st
      kernel_rfl
  exact (g8loop g8n11010).trans (key big)
noncomputable def f8 (x0 : V) (st : St) : Res :=
 g8b11010 big x0 (.str []) (.int .i64 0) st
theorem g8nr : g8C [] = .seq (g8C [0]) (g8C [1]) := by kernel_rfl
theorem g8n1 : g8C [1] = .seq (g8C [1, 0]) (g8C [1, 1]) := by kernel_rfl
theorem g8n11 : g8C [1, 1] = .seq (g8C [1, 1, 0]) (g8C [1, 1, 1]) := by kernel_rfl
theorem g8n110 : g8C [1, 1, 0] = .seq (g8C [1, 1, 0, 0]) (g8C [1, 1, 0, 1]) := by kernel_rfl
theorem g8n1101 : g8C [1, 1, 0, 1] = .block 0 (g8C [1, 1, 0, 1, 0]) := by kernel_rfl
theorem g8er (env : Env) (st : St) : g8X (g8C []) g8kr env st = f8 (env 0) st := by
  rw [(g8seq g8nr (g8seq g8n1 ((g8seq g8n11 (g8e111)).trans (g8seq g8n110 ((g8blk g8n1101).trans (g8e11010))))))]
  kernel_rfl
theorem s8_eq (x0 : V) (st : St) : s8 [x0] st = f8 x0 st := by
  have h : afn Try.prog g8mu g8T big (areg Try.prog g8mu g8T) 8 [x0] st = g8X (g8C []) g8kr (fun t => [x0].getD t (.tup [])) st := by kernel_rfl
  rw [s8, sealF_eq]
  exact h.trans (g8er _ st)
end Go.Ab
