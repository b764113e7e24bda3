import Derived.Test.YtimidokohhiacaaAbQuiet
import Derived.Test.YtimidokohhiacaaAbA09n
namespace Go.Ab
open Go.Proofs
set_option linter.unusedVariables false
set_option maxRecDepth 100000
/-! sinew/sinewref09.count -/
def g31mu : Nat → Bool := fun _ => false
noncomputable def g31T (R : Fn) : Tbl := tget [(31, R)]
theorem g31t (R : Fn) (hR : Sim Try.prog 31 R) : SimT Try.prog (g31T R) := simT_cons hR (simT_nil)
noncomputable def s31n : Nat → Fn
| 0 => fun _ _ => none
| n + 1 => fun args st => fg (afn Try.prog g31mu (g31T (s31n n)) big (areg Try.prog g31mu (g31T (s31n n))) 31 args st) st
theorem sim31n : ∀ n, Sim Try.prog 31 (s31n n)
| 0 => ⟨by kernel_rfl, fun _ _ _ _ _ _ _ h => by cases h⟩
| n + 1 => (afn_sim (g31t (s31n n) (sim31n n)) (fun m => areg_sound (g31t (s31n n) (sim31n n)) hmix m) 31 (by kernel_rfl)).fg
noncomputable def s31 : Fn := sealF (s31n big)
theorem sim31 : Sim Try.prog 31 s31 := (sim31n big).sealed
theorem s31_n : s31 = s31n big := sealF_eq _
noncomputable def g31C (p : List Nat) : Code := sub (match Try.f31.body with | some c => c | none => .skip) p
noncomputable def g31X (R : Fn) (c : Code) (K : Kon) : Env → St → Res := aexec Try.prog g31mu (g31T R) big 31 (areg Try.prog g31mu (g31T R) 31) c K
noncomputable def g31kr (R : Fn) : Kon := aresK Try.prog Try.f31.results.toList
theorem g31reg (R : Fn) {c : Code} {K : Kon} {G : Env → St → Res} {id : Nat} {ops : Array Oper} {l1 l2 : List Nat} (hc : c = .region id ops false) (hl : List.range ops.size = l1 ++ l2) (h : (fun env st => aops Try.prog g31mu (g31T R) 31 ops l2 env st (K .normal)) = G) : (g31X R) c K = fun env st => aops Try.prog g31mu (g31T R) 31 ops l1 env st G := reg_cut hc hl h
theorem g31seq (R : Fn) {c x y : Code} {K : Kon} {G : Env → St → Res} (hc : c = .seq x y) (hy : (g31X R) y K = G) : (g31X R) c K = (g31X R) x (kSeq G K) := seq_cut hc hy
theorem g31blk (R : Fn) {c x : Code} {K : Kon} {i : Nat} (hc : c = .block i x) : (g31X R) c K = (g31X R) x (kBlk i K) := blk_cut hc
theorem g31loop (R : Fn) {c x : Code} {K : Kon} (hc : c = .loop x) : (g31X R) c K = aloop ((g31X R) x) K big := loop_cut hc
theorem g31cond (R : Fn) {c x y : Code} {K : Kon} {v : Operand} {F G : Env → St → Res} (hc : c = .cond v x y) (hx : (g31X R) x K = F) (hy : (g31X R) y K = G) : (g31X R) c K = condF v F G := cond_cut hc hx hy
noncomputable def g31k0 (R : Fn) : Kon := kSeq ((g31X R) (g31C [1, 1, 1, 1]) ((g31kr R))) ((g31kr R))
noncomputable def g31k1 (R : Fn) : Kon := kBlk 0 ((g31k0 R))
noncomputable def g31k2 (R : Fn) (L111010 : V → V → V → V → St → Res) : Kon := kSeq (fun env st => L111010 (env 1) (env 2) (env 5) (env 6) st) ((g31k1 R))
noncomputable def g31b11101001 (R : Fn) (L111010 : V → V → V → V → St → Res) (x1 : V) (x2 : V) (x5 : V) (x6 : V) (st : St) : Res :=
 A.faddr 2 x2 fun a1 =>
 A.load false 1 a1 st fun a2 z3 =>
 A.iaddr 3 a2 x6 fun a4 =>
 A.load true 3 a4 z3 fun a5 z6 =>
 A.bin .sub x1 (.int .i64 1) fun a7 =>
 A.ret (R [a5.er1, a7.er1] z6) fun a8 z9 =>
 A.bin .add x5 a8 fun a10 =>
 A.bin .add x6 (.int .i64 1) fun a11 =>
 L111010 x1 x2 a10 a11 z9
theorem g31e11101001 (R : Fn) (L111010 : V → V → V → V → St → Res) : (g31X R) (g31C [1, 1, 1, 0, 1, 0, 0, 1]) ((g31k2 R) L111010) = fun env st => (g31b11101001 R) L111010 (env 1) (env 2) (env 5) (env 6) st := by
  refine Eq.trans (Eq.refl ((g31X R) (g31C [1, 1, 1, 0, 1, 0, 0, 1]) ((g31k2 R) L111010))) ?_
  funext env st
  kernel_rfl
noncomputable def g31b111010 (R : Fn) : Nat → V → V → V → V → St → Res
| 0, _, _, _, _, _ => none
| n + 1, x1, x2, x5, x6, st =>
 A.faddr 2 x2 fun a1 =>
 A.load false 1 a1 st fun a2 z3 =>
 A.lenL a2 fun a4 =>
 A.bin .lss x6 a4 fun a5 =>
 A.guard a5 true
 (A.bin .lss x5 (.int .i64 1000) fun a6 =>
 A.cond a6
 ((g31b11101001 R) ((g31b111010 R) n) x1 x2 x5 x6 z3)
 (some (.ret x5.er1, z3)))
 (some (.ret x5.er1, z3))
theorem g31n111010 : g31C [1, 1, 1, 0, 1, 0] = .loop (g31C [1, 1, 1, 0, 1, 0, 0]) := by kernel_rfl
theorem g31n1110100 : g31C [1, 1, 1, 0, 1, 0, 0] = .seq (g31C [1, 1, 1, 0, 1, 0, 0, 0]) (g31C [1, 1, 1, 0, 1, 0, 0, 1]) := by kernel_rfl
theorem g31e111010 (R : Fn) : (g31X R) (g31C [1, 1, 1, 0, 1, 0]) ((g31k1 R)) = fun env st => (g31b111010 R) big (env 1) (env 2) (env 5) (env 6) st := by
  have key : ∀ n, aloop ((g31X R) (g31C [1, 1, 1, 0, 1, 0, 0])) ((g31k1 R)) n = fun env st => (g31b111010 R) n (env 1) (env 2) (env 5) (env 6) st := by
    intro n
    induction n with
    | zero => rfl
    | succ n ih =>
      have h : aloop ((g31X R) (g31C [1, 1, 1, 0, 1, 0, 0])) ((g31k1 R)) (n + 1) = (g31X R) (g31C [1, 1, 1, 0, 1, 0, 0]) (kSeq (aloop ((g31X R) (g31C [1, 1, 1, 0, 1, 0, 0])) ((g31k1 R)) n) ((g31k1 R))) := rfl
      rw [h, ih]
      refine Eq.trans ((g31seq R) g31n1110100 ((g31e11101001 R) ((g31b111010 R) n))) ?_
      funext env st
      kernel_rfl
  exact ((g31loop R) g31n111010).trans (key big)
noncomputable def f31 (R : Fn) (x0 : V) (x1 : V) (st : St) : Res :=
 A.box x0 st fun a1 z2 =>
 A.eql 2 false x1 (.int .i64 0) fun a3 =>
 A.cond a3
 (some (.ret ((.int .i64 1000) : V).er1, z2))
 ((g31b111010 R) big x1 a1 (.int .i64 1) (.int .i64 0) z2)
theorem g31nr : g31C [] = .seq (g31C [0]) (g31C [1]) := by kernel_rfl
theorem g31n1 : g31C [1] = .seq (g31C [1, 0]) (g31C [1, 1]) := by kernel_rfl
theorem g31n11 : g31C [1, 1] = .seq (g31C [1, 1, 0]) (g31C [1, 1, 1]) := by kernel_rfl
theorem g31n111 : g31C [1, 1, 1] = .seq (g31C [1, 1, 1, 0]) (g31C [1, 1, 1, 1]) := by kernel_rfl
theorem g31n1110 : g31C [1, 1, 1, 0] = .seq (g31C [1, 1, 1, 0, 0]) (g31C [1, 1, 1, 0, 1]) := by kernel_rfl
theorem g31n11101 : g31C [1, 1, 1, 0, 1] = .block 0 (g31C [1, 1, 1, 0, 1, 0]) := by kernel_rfl
theorem g31er (R : Fn) (env : Env) (st : St) : (g31X R) (g31C []) (g31kr R) env st = (f31 R) (env 0) (env 1) st := by
  rw [((g31seq R) g31nr ((g31seq R) g31n1 ((g31seq R) g31n11 (((g31seq R) g31n111 rfl).trans ((g31seq R) g31n1110 (((g31blk R) g31n11101).trans ((g31e111010 R))))))))]
  kernel_rfl
theorem s31n_eq (n : Nat) (x0 : V) (x1 : V) (st : St) : s31n (n + 1) [x0, x1] st = fg ((f31 (s31n n)) x0 x1 st) st := by
  have h : afn Try.prog g31mu (g31T (s31n n)) big (areg Try.prog g31mu (g31T (s31n n))) 31 [x0, x1] st = (g31X (s31n n)) (g31C []) (g31kr (s31n n)) (fun t => [x0, x1].getD t (.tup [])) st := by kernel_rfl
  show fg (afn Try.prog g31mu (g31T (s31n n)) big (areg Try.prog g31mu (g31T (s31n n))) 31 _ st) st = fg _ st
  refine congrArg (fun r => fg r st) ?_
  exact h.trans ((g31er (s31n n)) _ st)
/-! sinew/sinewref09.Flat -/
def g16mu : Nat → Bool := fun _ => false
noncomputable def g16T : Tbl := tget [(31, s31)]
theorem g16t : SimT Try.prog g16T := simT_cons sim31 (simT_nil)
noncomputable def s16 : Fn := sealF (fun args st => fg (afn Try.prog g16mu g16T big (areg Try.prog g16mu g16T) 16 args st) st)
theorem sim16 : Sim Try.prog 16 s16 := (afn_sim g16t (fun m => areg_sound g16t hmix m) 16 (by kernel_rfl)).fg.sealed
noncomputable def g16C (p : List Nat) : Code := sub (match Try.f16.body with | some c => c | none => .skip) p
noncomputable def g16X (c : Code) (K : Kon) : Env → St → Res := aexec Try.prog g16mu g16T big 36 (areg Try.prog g16mu g16T 36) c K
noncomputable def g16kr : Kon := aresK Try.prog Try.f16.results.toList
theorem g16reg {c : Code} {K : Kon} {G : Env → St → Res} {id : Nat} {ops : Array Oper} {l1 l2 : List Nat} (hc : c = .region id ops false) (hl : List.range ops.size = l1 ++ l2) (h : (fun env st => aops Try.prog g16mu g16T 36 ops l2 env st (K .normal)) = G) : g16X c K = fun env st => aops Try.prog g16mu g16T 36 ops l1 env st G := reg_cut hc hl h
theorem g16seq {c x y : Code} {K : Kon} {G : Env → St → Res} (hc : c = .seq x y) (hy : g16X y K = G) : g16X c K = g16X x (kSeq G K) := seq_cut hc hy
theorem g16blk {c x : Code} {K : Kon} {i : Nat} (hc : c = .block i x) : g16X c K = g16X x (kBlk i K) := blk_cut hc
theorem g16loop {c x : Code} {K : Kon} (hc : c = .loop x) : g16X c K = aloop (g16X x) K big := loop_cut hc
theorem g16cond {c x y : Code} {K : Kon} {v : Operand} {F G : Env → St → Res} (hc : c = .cond v x y) (hx : g16X x K = F) (hy : g16X y K = G) : g16X c K = condF v F G := cond_cut hc hx hy
noncomputable def g16k0 : Kon := kSeq (g16X (g16C [1, 1]) (g16kr)) (g16kr)
noncomputable def g16k1 : Kon := kBlk 0 (g16k0)
noncomputable def g16b1010 : Nat → V → V → St → Res
| 0, _, _, _ => none
| n + 1, x1, x3, st =>
 A.faddr 1 x1 fun a1 =>
 A.faddr 1 a1 fun a2 =>
 A.load false 1 a2 st fun a3 z4 =>
 A.lenL a3 fun a5 =>
 A.bin .lss x3 a5 fun a6 =>
 A.cond a6
 (A.bin .gtr x3 (.int .i64 20) fun a7 =>
 A.guard a7 false
 (A.faddr 1 x1 fun a8 =>
 A.faddr 1 a8 fun a9 =>
 A.load false 1 a9 z4 fun a10 z11 =>
 A.iaddr 7 a10 x3 fun a12 =>
 A.faddr 2 a12 fun a13 =>
 A.load true 3 a13 z11 fun a14 z15 =>
 A.ret (s31 [a14.er1, ((.int .i64 40) : V).er1] z15) fun a16 z17 =>
 A.bin .gtr a16 (.int .i64 400) fun a18 =>
 A.cond a18
 (some (.ret ((.bool false) : V).er1, z17))
 (A.bin .add x3 (.int .i64 1) fun a19 =>
 (g16b1010 n) x1 a19 z17))
 (some (.ret ((.bool false) : V).er1, z4)))
 (A.faddr 1 x1 fun a20 =>
 A.faddr 0 a20 fun a21 =>
 A.load false 1 a21 z4 fun a22 z23 =>
 A.lenL a22 fun a24 =>
 A.bin .leq a24 (.int .i64 40) fun a25 =>
 A.guard a25 true
 (A.faddr 3 x1 fun a26 =>
 A.load false 1 a26 z23 fun a27 z28 =>
 A.lenL a27 fun a29 =>
 A.bin .leq a29 (.int .i64 100) fun a30 =>
 some (.ret a30.er1, z28))
 (some (.ret ((.bool false) : V).er1, z23)))
theorem g16n1010 : g16C [1, 0, 1, 0] = .loop (g16C [1, 0, 1, 0, 0]) := by kernel_rfl
noncomputable def g16k2 (L1010 : V → V → St → Res) : Kon := kSeq (fun env st => L1010 (env 1) (env 3) st) (g16k1)
theorem g16e1010 : g16X (g16C [1, 0, 1, 0]) (g16k1) = fun env st => g16b1010 big (env 1) (env 3) st := by
  have key : ∀ n, aloop (g16X (g16C [1, 0, 1, 0, 0])) (g16k1) n = fun env st => g16b1010 n (env 1) (env 3) st := by
    intro n
    induction n with
    | zero => rfl
    | succ n ih =>
      have h : aloop (g16X (g16C [1, 0, 1, 0, 0])) (g16k1) (n + 1) = g16X (g16C [1, 0, 1, 0, 0]) (kSeq (aloop (g16X (g16C [1, 0, 1, 0, 0])) (g16k1) n) (g16k1)) := rfl
      rw [h, ih]
      refine Eq.trans (Eq.refl _) ?_
      funext env st
      kernel_rfl
  exact (g16loop g16n1010).trans (key big)
noncomputable def f16 (x0 : V) (st : St) : Res :=
 A.box x0 st fun a1 z2 =>
 g16b1010 big a1 (.int .i64 0) z2
theorem g16nr : g16C [] = .seq (g16C [0]) (g16C [1]) := by kernel_rfl
theorem g16n1 : g16C [1] = .seq (g16C [1, 0]) (g16C [1, 1]) := by kernel_rfl
theorem g16n10 : g16C [1, 0] = .seq (g16C [1, 0, 0]) (g16C [1, 0, 1]) := by kernel_rfl
theorem g16n101 : g16C [1, 0, 1] = .block 0 (g16C [1, 0, 1, 0]) := by kernel_rfl
theorem g16er (env : Env) (st : St) : g16X (g16C []) g16kr env st = f16 (env 0) st := by
  rw [(g16seq g16nr ((g16seq g16n1 rfl).trans (g16seq g16n10 ((g16blk g16n101).trans (g16e1010)))))]
  kernel_rfl
theorem s16_eq (x0 : V) (st : St) : s16 [x0] st = fg (f16 x0 st) st := by
  have h : afn Try.prog g16mu g16T big (areg Try.prog g16mu g16T) 16 [x0] st = g16X (g16C []) g16kr (fun t => [x0].getD t (.tup [])) st := by kernel_rfl
  rw [s16, sealF_eq]
  show fg _ st = fg _ st
  refine congrArg (fun r => fg r st) ?_
  exact h.trans (g16er _ st)
/-! sinew/sinewref09.inner -/
def g71mu : Nat → Bool := fun _ => false
noncomputable def g71T (R : Nat → Fn) : Tbl := tget [(37, R 37)]
theorem g71t (R : Nat → Fn) (hR : ∀ j, j ∈ [71, 37] → Sim Try.prog j (R j)) : SimT Try.prog (g71T R) := simT_cons (hR 37 (by decide)) (simT_nil)
noncomputable def f71 (R : Nat → Fn) (x0 : V) (x1 : V) (st : St) : Res :=
 A.box x0 st fun a1 z2 =>
 A.cond x1
 (A.load true 3 a1 z2 fun a3 z4 =>
 A.ret (R 37 [a3.er1] z4) fun a5 z6 =>
 A.bin .add (.str [40]) a5 fun a7 =>
 A.bin .add a7 (.str [41]) fun a8 =>
 some (.ret a8.er1, z6))
 (A.load true 3 a1 z2 fun a9 z10 =>
 A.ret (R 37 [a9.er1] z10) fun a11 z12 =>
 some (.ret a11.er1, z12))
theorem s71R_eq (R : Nat → Fn) (x0 : V) (x1 : V) (st : St) : afn Try.prog g71mu (g71T R) big (areg Try.prog g71mu (g71T R)) 71 [x0, x1] st = (f71 R) x0 x1 st := by
  kernel_rfl
/-! sinew/sinewref09.text -/
def g37mu : Nat → Bool := fun _ => false
noncomputable def g37T (R : Nat → Fn) : Tbl := tget [(71, R 71)]
theorem g37t (R : Nat → Fn) (hR : ∀ j, j ∈ [71, 37] → Sim Try.prog j (R j)) : SimT Try.prog (g37T R) := simT_cons (hR 71 (by decide)) (simT_nil)
noncomputable def g37C (p : List Nat) : Code := sub (match Try.f37.body with | some c => c | none => .skip) p
noncomputable def g37X (R : Nat → Fn) (c : Code) (K : Kon) : Env → St → Res := aexec Try.prog g37mu (g37T R) big 90 (areg Try.prog g37mu (g37T R) 90) c K
noncomputable def g37kr (R : Nat → Fn) : Kon := aresK Try.prog Try.f37.results.toList
theorem g37reg (R : Nat → Fn) {c : Code} {K : Kon} {G : Env → St → Res} {id : Nat} {ops : Array Oper} {l1 l2 : List Nat} (hc : c = .region id ops false) (hl : List.range ops.size = l1 ++ l2) (h : (fun env st => aops Try.prog g37mu (g37T R) 90 ops l2 env st (K .normal)) = G) : (g37X R) c K = fun env st => aops Try.prog g37mu (g37T R) 90 ops l1 env st G := reg_cut hc hl h
theorem g37regN (R : Nat → Fn) {c : Code} {K : Kon} {G : Env → St → Res} {id : Nat} {ops : Array Oper} {l1 l2 : List Nat} (hc : c = .region id ops true) (hok : regOk Try.prog g37mu ops (befs ops.toList []) = true) (hq : calm Try.prog g37mu ops (befs ops.toList []) = true) (hl : List.range ops.size = l1 ++ l2) (h : (fun env st => aopsN Try.prog g37mu (g37T R) 90 ops (befs ops.toList []) l2 env st (K .normal)) = G) : (g37X R) c K = fun env st => aopsN Try.prog g37mu (g37T R) 90 ops (befs ops.toList []) l1 env st G := reg_cutN hc hok hq hl h
theorem g37seq (R : Nat → Fn) {c x y : Code} {K : Kon} {G : Env → St → Res} (hc : c = .seq x y) (hy : (g37X R) y K = G) : (g37X R) c K = (g37X R) x (kSeq G K) := seq_cut hc hy
theorem g37blk (R : Nat → Fn) {c x : Code} {K : Kon} {i : Nat} (hc : c = .block i x) : (g37X R) c K = (g37X R) x (kBlk i K) := blk_cut hc
theorem g37loop (R : Nat → Fn) {c x : Code} {K : Kon} (hc : c = .loop x) : (g37X R) c K = aloop ((g37X R) x) K big := loop_cut hc
theorem g37cond (R : Nat → Fn) {c x y : Code} {K : Kon} {v : Operand} {F G : Env → St → Res} (hc : c = .cond v x y) (hx : (g37X R) x K = F) (hy : (g37X R) y K = G) : (g37X R) c K = condF v F G := cond_cut hc hx hy
noncomputable def g37b111 (R : Nat → Fn) (x1 : V) (x6 : V) (st : St) : Res :=
 A.faddr 0 x1 fun a1 =>
 A.load false 1 a1 st fun a2 z3 =>
 A.eql 2 false a2 (.int .i64 4) fun a4 =>
 A.cond a4
 (A.bin .add x6 (.str [42]) fun a5 =>
 some (.ret a5.er1, z3))
 (A.eql 2 false a2 (.int .i64 5) fun a6 =>
 A.cond a6
 (A.bin .add x6 (.str [43]) fun a7 =>
 some (.ret a7.er1, z3))
 (A.bin .add x6 (.str [63]) fun a8 =>
 some (.ret a8.er1, z3)))
theorem g37e111 (R : Nat → Fn) : (g37X R) (g37C [1, 1, 1]) ((g37kr R)) = fun env st => (g37b111 R) (env 1) (env 6) st := by
  refine Eq.trans (Eq.refl ((g37X R) (g37C [1, 1, 1]) ((g37kr R)))) ?_
  funext env st
  kernel_rfl
noncomputable def g37b11 (R : Nat → Fn) (x1 : V) (st : St) : Res :=
 A.faddr 2 x1 fun a1 =>
 A.load false 1 a1 st fun a2 _ =>
 A.iaddr 3 a2 (.int .i64 0) fun a3 =>
 A.load true 3 a3 st fun a4 _ =>
 A.faddr 2 x1 fun a5 =>
 A.load false 1 a5 st fun a6 _ =>
 A.iaddr 3 a6 (.int .i64 0) fun a7 =>
 A.faddr 0 a7 fun a8 =>
 A.load false 1 a8 st fun a9 _ =>
 A.eql 2 true a9 (.int .i64 1) fun a10 =>
 A.ret (A.ret (R 71 [a4.er1, a10.er1] st) kid) fun a11 z12 =>
 (g37b111 R) x1 a11 z12
theorem g37n11 : g37C [1, 1] = .seq (g37C [1, 1, 0]) (g37C [1, 1, 1]) := by kernel_rfl
theorem g37e11 (R : Nat → Fn) : (g37X R) (g37C [1, 1]) ((g37kr R)) = fun env st => (g37b11 R) (env 1) st := by
  refine Eq.trans ((g37seq R) g37n11 ((g37e111 R))) ?_
  funext env st
  kernel_rfl
noncomputable def g37k0 (R : Nat → Fn) : Kon := kSeq (fun env st => (g37b11 R) (env 1) st) ((g37kr R))
noncomputable def g37k1 (R : Nat → Fn) : Kon := kBlk 0 ((g37k0 R))
noncomputable def g37k2 (R : Nat → Fn) : Kon := kSeq ((g37X R) (g37C [1, 0, 1, 0, 1, 1, 1, 0, 1, 1]) ((g37k1 R))) ((g37k1 R))
noncomputable def g37k3 (R : Nat → Fn) : Kon := kBlk 1 ((g37k2 R))
noncomputable def g37k4 (R : Nat → Fn) (L101011101010 : V → V → V → St → Res) : Kon := kSeq (fun env st => L101011101010 (env 1) (env 3) (env 4) st) ((g37k3 R))
noncomputable def g37k5 (R : Nat → Fn) (L101011101010 : V → V → V → St → Res) : Kon := kSeq ((g37X R) (g37C [1, 0, 1, 0, 1, 1, 1, 0, 1, 0, 1, 0, 0, 1, 1]) ((g37k4 R) L101011101010)) ((g37k4 R) L101011101010)
noncomputable def g37k6 (R : Nat → Fn) (L101011101010 : V → V → V → St → Res) : Kon := kBlk 2 ((g37k5 R) L101011101010)
noncomputable def g37b1010111010100100111_9 (R : Nat → Fn) (L101011101010 : V → V → V → St → Res) (x1 : V) (x4 : V) (x5 : V) (x47 : V) (x52 : V) (x55 : V) (st : St) : Res :=
 A.guard x55 false
 (A.eql 2 false x5 (.int .i64 2) fun a1 =>
 A.guardT a1 true
 (A.faddr 0 x1 fun a2 =>
 A.load false 1 a2 st fun a3 z4 =>
 A.eql 2 false a3 (.int .i64 2) fun a5 =>
 A.ret (A.ret (R 71 [x52.er1, a5.er1] z4) kid) fun a6 z7 =>
 A.bin .add x47 a6 fun a8 =>
 A.bin .add x4 (.int .i64 1) fun a9 =>
 L101011101010 x1 a8 a9 z7)
 (A.ret (A.ret (R 71 [x52.er1, ((.bool false) : V).er1] st) kid) fun a10 z11 =>
 A.bin .add x47 a10 fun a12 =>
 A.bin .add x4 (.int .i64 1) fun a13 =>
 L101011101010 x1 a12 a13 z11)
 (A.guardT a1 true
 (A.load false 1 (.tup []) st fun a14 z15 =>
 A.eql 2 false a14 (.int .i64 2) fun a16 =>
 A.ret (A.ret (R 71 [x52.er1, a16.er1] z15) kid) fun a17 z18 =>
 A.bin .add x47 a17 fun a19 =>
 A.bin .add x4 (.int .i64 1) fun a20 =>
 L101011101010 x1 a19 a20 z18)
 (A.ret (A.ret (R 71 [x52.er1, ((.bool false) : V).er1] st) kid) fun a21 z22 =>
 A.bin .add x47 a21 fun a23 =>
 A.bin .add x4 (.int .i64 1) fun a24 =>
 L101011101010 x1 a23 a24 z22)
 (A.guardT a1 true
 (A.eql 2 false (.tup []) (.int .i64 2) fun a25 =>
 A.ret (A.ret (R 71 [x52.er1, a25.er1] st) kid) fun a26 z27 =>
 A.bin .add x47 a26 fun a28 =>
 A.bin .add x4 (.int .i64 1) fun a29 =>
 L101011101010 x1 a28 a29 z27)
 (A.ret (A.ret (R 71 [x52.er1, ((.bool false) : V).er1] st) kid) fun a30 z31 =>
 A.bin .add x47 a30 fun a32 =>
 A.bin .add x4 (.int .i64 1) fun a33 =>
 L101011101010 x1 a32 a33 z31)
 (A.pick a1 (.tup []) (.bool false) fun a34 =>
 A.ret (A.ret (R 71 [x52.er1, a34.er1] st) kid) fun a35 z36 =>
 A.bin .add x47 a35 fun a37 =>
 A.bin .add x4 (.int .i64 1) fun a38 =>
 L101011101010 x1 a37 a38 z36))))
 (A.ret (A.ret (R 71 [x52.er1, ((.bool true) : V).er1] st) kid) fun a39 z40 =>
 A.bin .add x47 a39 fun a41 =>
 A.bin .add x4 (.int .i64 1) fun a42 =>
 L101011101010 x1 a41 a42 z40)
theorem g37e1010111010100100111_9 (R : Nat → Fn) (L101011101010 : V → V → V → St → Res) : (fun env st => aopsN Try.prog g37mu (g37T R) 90 (rops (g37C [1, 0, 1, 0, 1, 1, 1, 0, 1, 0, 1, 0, 0, 1, 0, 0, 1, 1, 1])) (befs (rops (g37C [1, 0, 1, 0, 1, 1, 1, 0, 1, 0, 1, 0, 0, 1, 0, 0, 1, 1, 1])).toList []) [9, 10, 11, 12, 13, 14, 15, 16, 17, 18, 19] env st (((g37k6 R) L101011101010) .normal)) = fun env st => (g37b1010111010100100111_9 R) L101011101010 (env 1) (env 4) (env 5) (env 47) (env 52) (env 55) st := by
  refine Eq.trans (Eq.refl _) ?_
  funext env st
  kernel_rfl
noncomputable def g37b1010111010100100111 (R : Nat → Fn) (L101011101010 : V → V → V → St → Res) (x1 : V) (x3 : V) (x4 : V) (x5 : V) (st : St) : Res :=
 A.faddr 2 x1 fun a1 =>
 A.load false 1 a1 st fun a2 z3 =>
 A.iaddr 3 a2 x4 fun a4 =>
 A.load true 3 a4 z3 fun a5 z6 =>
 A.eql 2 false x5 (.int .i64 3) fun a7 =>
 (g37b1010111010100100111_9 R) L101011101010 x1 x4 x5 x3 a5 a7 z6
theorem g37rg1010111010100100111 : g37C [1, 0, 1, 0, 1, 1, 1, 0, 1, 0, 1, 0, 0, 1, 0, 0, 1, 1, 1] = .region 15 (rops (g37C [1, 0, 1, 0, 1, 1, 1, 0, 1, 0, 1, 0, 0, 1, 0, 0, 1, 1, 1])) true := by kernel_rfl
theorem g37rg1010111010100100111o : regOk Try.prog g37mu (rops (g37C [1, 0, 1, 0, 1, 1, 1, 0, 1, 0, 1, 0, 0, 1, 0, 0, 1, 1, 1])) (befs (rops (g37C [1, 0, 1, 0, 1, 1, 1, 0, 1, 0, 1, 0, 0, 1, 0, 0, 1, 1, 1])).toList []) = true := by kernel_rfl
theorem g37rg1010111010100100111q : calm Try.prog g37mu (rops (g37C [1, 0, 1, 0, 1, 1, 1, 0, 1, 0, 1, 0, 0, 1, 0, 0, 1, 1, 1])) (befs (rops (g37C [1, 0, 1, 0, 1, 1, 1, 0, 1, 0, 1, 0, 0, 1, 0, 0, 1, 1, 1])).toList []) = true := by kernel_rfl
theorem g37rg1010111010100100111l : List.range (rops (g37C [1, 0, 1, 0, 1, 1, 1, 0, 1, 0, 1, 0, 0, 1, 0, 0, 1, 1, 1])).size = [0, 1, 2, 3, 4, 5, 6, 7, 8] ++ [9, 10, 11, 12, 13, 14, 15, 16, 17, 18, 19] := by kernel_rfl
theorem g37e1010111010100100111 (R : Nat → Fn) (L101011101010 : V → V → V → St → Res) : (g37X R) (g37C [1, 0, 1, 0, 1, 1, 1, 0, 1, 0, 1, 0, 0, 1, 0, 0, 1, 1, 1]) ((g37k6 R) L101011101010) = fun env st => (g37b1010111010100100111 R) L101011101010 (env 1) (env 3) (env 4) (env 5) st := by
  refine Eq.trans ((g37regN R) g37rg1010111010100100111 g37rg1010111010100100111o g37rg1010111010100100111q g37rg1010111010100100111l ((g37e1010111010100100111_9 R) L101011101010)) ?_
  funext env st
  kernel_rfl
noncomputable def g37b101011101010010011 (R : Nat → Fn) (L101011101010 : V → V → V → St → Res) (x1 : V) (x3 : V) (x4 : V) (x5 : V) (st : St) : Res :=
 A.bin .gtr x4 (.int .i64 0) fun a1 =>
 A.guard a1 true
 (A.faddr 0 x1 fun a2 =>
 A.load false 1 a2 st fun a3 z4 =>
 A.eql 2 false a3 (.int .i64 2) fun a5 =>
 A.cond a5
 (A.bin .add x3 (.str [47]) fun a6 =>
 (g37b1010111010100100111 R) L101011101010 x1 a6 x4 x5 z4)
 ((g37b1010111010100100111 R) L101011101010 x1 x3 x4 x5 z4))
 ((g37b1010111010100100111 R) L101011101010 x1 x3 x4 x5 st)
theorem g37n101011101010010011 : g37C [1, 0, 1, 0, 1, 1, 1, 0, 1, 0, 1, 0, 0, 1, 0, 0, 1, 1] = .seq (g37C [1, 0, 1, 0, 1, 1, 1, 0, 1, 0, 1, 0, 0, 1, 0, 0, 1, 1, 0]) (g37C [1, 0, 1, 0, 1, 1, 1, 0, 1, 0, 1, 0, 0, 1, 0, 0, 1, 1, 1]) := by kernel_rfl
theorem g37e101011101010010011 (R : Nat → Fn) (L101011101010 : V → V → V → St → Res) : (g37X R) (g37C [1, 0, 1, 0, 1, 1, 1, 0, 1, 0, 1, 0, 0, 1, 0, 0, 1, 1]) ((g37k6 R) L101011101010) = fun env st => (g37b101011101010010011 R) L101011101010 (env 1) (env 3) (env 4) (env 5) st := by
  refine Eq.trans ((g37seq R) g37n101011101010010011 ((g37e1010111010100100111 R) L101011101010)) ?_
  funext env st
  kernel_rfl
noncomputable def g37b10101110101001001 (R : Nat → Fn) (L101011101010 : V → V → V → St → Res) (x1 : V) (x3 : V) (x4 : V) (x5 : V) (st : St) : Res :=
 A.bin .gtr x4 (.int .i64 0) fun a1 =>
 A.guard a1 true
 (A.faddr 0 x1 fun a2 =>
 A.load false 1 a2 st fun a3 z4 =>
 A.eql 2 false a3 (.int .i64 3) fun a5 =>
 A.cond a5
 (A.bin .add x3 (.str [124]) fun a6 =>
 (g37b101011101010010011 R) L101011101010 x1 a6 x4 x5 z4)
 ((g37b101011101010010011 R) L101011101010 x1 x3 x4 x5 z4))
 ((g37b101011101010010011 R) L101011101010 x1 x3 x4 x5 st)
theorem g37n10101110101001001 : g37C [1, 0, 1, 0, 1, 1, 1, 0, 1, 0, 1, 0, 0, 1, 0, 0, 1] = .seq (g37C [1, 0, 1, 0, 1, 1, 1, 0, 1, 0, 1, 0, 0, 1, 0, 0, 1, 0]) (g37C [1, 0, 1, 0, 1, 1, 1, 0, 1, 0, 1, 0, 0, 1, 0, 0, 1, 1]) := by kernel_rfl
theorem g37e10101110101001001 (R : Nat → Fn) (L101011101010 : V → V → V → St → Res) : (g37X R) (g37C [1, 0, 1, 0, 1, 1, 1, 0, 1, 0, 1, 0, 0, 1, 0, 0, 1]) ((g37k6 R) L101011101010) = fun env st => (g37b10101110101001001 R) L101011101010 (env 1) (env 3) (env 4) (env 5) st := by
  refine Eq.trans ((g37seq R) g37n10101110101001001 ((g37e101011101010010011 R) L101011101010)) ?_
  funext env st
  kernel_rfl
noncomputable def g37b101011101010 (R : Nat → Fn) : Nat → V → V → V → St → Res
| 0, _, _, _, _ => none
| n + 1, x1, x3, x4, st =>
 A.faddr 2 x1 fun a1 =>
 A.load false 1 a1 st fun a2 z3 =>
 A.lenL a2 fun a4 =>
 A.bin .lss x4 a4 fun a5 =>
 A.cond a5
 (A.faddr 2 x1 fun a6 =>
 A.load false 1 a6 z3 fun a7 z8 =>
 A.iaddr 3 a7 x4 fun a9 =>
 A.faddr 0 a9 fun a10 =>
 A.load false 1 a10 z8 fun a11 z12 =>
 (g37b10101110101001001 R) ((g37b101011101010 R) n) x1 x3 x4 a11 z12)
 (some (.ret x3.er1, z3))
theorem g37n101011101010 : g37C [1, 0, 1, 0, 1, 1, 1, 0, 1, 0, 1, 0] = .loop (g37C [1, 0, 1, 0, 1, 1, 1, 0, 1, 0, 1, 0, 0]) := by kernel_rfl
theorem g37n1010111010100 : g37C [1, 0, 1, 0, 1, 1, 1, 0, 1, 0, 1, 0, 0] = .seq (g37C [1, 0, 1, 0, 1, 1, 1, 0, 1, 0, 1, 0, 0, 0]) (g37C [1, 0, 1, 0, 1, 1, 1, 0, 1, 0, 1, 0, 0, 1]) := by kernel_rfl
theorem g37n10101110101001 : g37C [1, 0, 1, 0, 1, 1, 1, 0, 1, 0, 1, 0, 0, 1] = .seq (g37C [1, 0, 1, 0, 1, 1, 1, 0, 1, 0, 1, 0, 0, 1, 0]) (g37C [1, 0, 1, 0, 1, 1, 1, 0, 1, 0, 1, 0, 0, 1, 1]) := by kernel_rfl
theorem g37n101011101010010 : g37C [1, 0, 1, 0, 1, 1, 1, 0, 1, 0, 1, 0, 0, 1, 0] = .block 2 (g37C [1, 0, 1, 0, 1, 1, 1, 0, 1, 0, 1, 0, 0, 1, 0, 0]) := by kernel_rfl
theorem g37n1010111010100100 : g37C [1, 0, 1, 0, 1, 1, 1, 0, 1, 0, 1, 0, 0, 1, 0, 0] = .seq (g37C [1, 0, 1, 0, 1, 1, 1, 0, 1, 0, 1, 0, 0, 1, 0, 0, 0]) (g37C [1, 0, 1, 0, 1, 1, 1, 0, 1, 0, 1, 0, 0, 1, 0, 0, 1]) := by kernel_rfl
theorem g37e101011101010 (R : Nat → Fn) : (g37X R) (g37C [1, 0, 1, 0, 1, 1, 1, 0, 1, 0, 1, 0]) ((g37k3 R)) = fun env st => (g37b101011101010 R) big (env 1) (env 3) (env 4) st := by
  have key : ∀ n, aloop ((g37X R) (g37C [1, 0, 1, 0, 1, 1, 1, 0, 1, 0, 1, 0, 0])) ((g37k3 R)) n = fun env st => (g37b101011101010 R) n (env 1) (env 3) (env 4) st := by
    intro n
    induction n with
    | zero => rfl
    | succ n ih =>
      have h : aloop ((g37X R) (g37C [1, 0, 1, 0, 1, 1, 1, 0, 1, 0, 1, 0, 0])) ((g37k3 R)) (n + 1) = (g37X R) (g37C [1, 0, 1, 0, 1, 1, 1, 0, 1, 0, 1, 0, 0]) (kSeq (aloop ((g37X R) (g37C [1, 0, 1, 0, 1, 1, 1, 0, 1, 0, 1, 0, 0])) ((g37k3 R)) n) ((g37k3 R))) := rfl
      rw [h, ih]
      refine Eq.trans ((g37seq R) g37n1010111010100 (((g37seq R) g37n10101110101001 rfl).trans (((g37blk R) g37n101011101010010).trans ((g37seq R) g37n1010111010100100 ((g37e10101110101001001 R) ((g37b101011101010 R) n)))))) ?_
      funext env st
      kernel_rfl
  exact ((g37loop R) g37n101011101010).trans (key big)
noncomputable def g37b1010111 (R : Nat → Fn) (x1 : V) (x13 : V) (st : St) : Res :=
 A.cond x13
 ((g37b101011101010 R) big x1 (.str []) (.int .i64 0) st)
 ((g37b11 R) x1 st)
theorem g37n1010111 : g37C [1, 0, 1, 0, 1, 1, 1] = .cond (.tmp 13) (g37C [1, 0, 1, 0, 1, 1, 1, 0]) (g37C [1, 0, 1, 0, 1, 1, 1, 1]) := by kernel_rfl
theorem g37n10101110 : g37C [1, 0, 1, 0, 1, 1, 1, 0] = .seq (g37C [1, 0, 1, 0, 1, 1, 1, 0, 0]) (g37C [1, 0, 1, 0, 1, 1, 1, 0, 1]) := by kernel_rfl
theorem g37n101011101 : g37C [1, 0, 1, 0, 1, 1, 1, 0, 1] = .seq (g37C [1, 0, 1, 0, 1, 1, 1, 0, 1, 0]) (g37C [1, 0, 1, 0, 1, 1, 1, 0, 1, 1]) := by kernel_rfl
theorem g37n1010111010 : g37C [1, 0, 1, 0, 1, 1, 1, 0, 1, 0] = .seq (g37C [1, 0, 1, 0, 1, 1, 1, 0, 1, 0, 0]) (g37C [1, 0, 1, 0, 1, 1, 1, 0, 1, 0, 1]) := by kernel_rfl
theorem g37n10101110101 : g37C [1, 0, 1, 0, 1, 1, 1, 0, 1, 0, 1] = .block 1 (g37C [1, 0, 1, 0, 1, 1, 1, 0, 1, 0, 1, 0]) := by kernel_rfl
theorem g37e1010111 (R : Nat → Fn) : (g37X R) (g37C [1, 0, 1, 0, 1, 1, 1]) ((g37k1 R)) = fun env st => (g37b1010111 R) (env 1) (env 13) st := by
  refine Eq.trans ((g37cond R) g37n1010111 ((g37seq R) g37n10101110 (((g37seq R) g37n101011101 rfl).trans ((g37seq R) g37n1010111010 (((g37blk R) g37n10101110101).trans ((g37e101011101010 R)))))) rfl) ?_
  funext env st
  kernel_rfl
noncomputable def f37 (R : Nat → Fn) (x0 : V) (st : St) : Res :=
 A.box x0 st fun a1 z2 =>
 A.faddr 0 a1 fun a3 =>
 A.load false 1 a3 z2 fun a4 z5 =>
 A.eql 2 false a4 (.int .i64 1) fun a6 =>
 A.cond a6
 (A.faddr 1 a1 fun a7 =>
 A.load false 1 a7 z5 fun a8 z9 =>
 some (.ret a8.er1, z9))
 (A.eql 2 false a4 (.int .i64 3) fun a10 =>
 A.cond a10
 ((g37b1010111 R) a1 a10 z5)
 (A.eql 2 false a4 (.int .i64 2) fun a11 =>
 (g37b1010111 R) a1 a11 z5))
theorem g37nr : g37C [] = .seq (g37C [0]) (g37C [1]) := by kernel_rfl
theorem g37n1 : g37C [1] = .seq (g37C [1, 0]) (g37C [1, 1]) := by kernel_rfl
theorem g37n10 : g37C [1, 0] = .seq (g37C [1, 0, 0]) (g37C [1, 0, 1]) := by kernel_rfl
theorem g37n101 : g37C [1, 0, 1] = .block 0 (g37C [1, 0, 1, 0]) := by kernel_rfl
theorem g37n1010 : g37C [1, 0, 1, 0] = .seq (g37C [1, 0, 1, 0, 0]) (g37C [1, 0, 1, 0, 1]) := by kernel_rfl
theorem g37n10101 : g37C [1, 0, 1, 0, 1] = .cond (.tmp 9) (g37C [1, 0, 1, 0, 1, 0]) (g37C [1, 0, 1, 0, 1, 1]) := by kernel_rfl
theorem g37n101011 : g37C [1, 0, 1, 0, 1, 1] = .seq (g37C [1, 0, 1, 0, 1, 1, 0]) (g37C [1, 0, 1, 0, 1, 1, 1]) := by kernel_rfl
theorem g37er (R : Nat → Fn) (env : Env) (st : St) : (g37X R) (g37C []) (g37kr R) env st = (f37 R) (env 0) st := by
  rw [((g37seq R) g37nr (((g37seq R) g37n1 ((g37e11 R))).trans ((g37seq R) g37n10 (((g37blk R) g37n101).trans ((g37seq R) g37n1010 ((g37cond R) g37n10101 rfl ((g37seq R) g37n101011 ((g37e1010111 R)))))))))]
  kernel_rfl
theorem s37R_eq (R : Nat → Fn) (x0 : V) (st : St) : afn Try.prog g37mu (g37T R) big (areg Try.prog g37mu (g37T R)) 37 [x0] st = (f37 R) x0 st := by
  have h : afn Try.prog g37mu (g37T R) big (areg Try.prog g37mu (g37T R)) 37 [x0] st = (g37X R) (g37C []) (g37kr R) (fun t => [x0].getD t (.tup [])) st := by kernel_rfl
  exact h.trans ((g37er R) _ st)
noncomputable def G71 : Nat → Nat → Fn
| 0 => fun _ _ _ => none
| n + 1 => fun j => ((tget [(71, afn Try.prog g71mu (g71T (G71 n)) big (areg Try.prog g71mu (g71T (G71 n))) 71), (37, afn Try.prog g37mu (g37T (G71 n)) big (areg Try.prog g37mu (g37T (G71 n))) 37)]) j).getD (fun _ _ => none)
theorem G71_71 (n : Nat) : G71 (n + 1) 71 = afn Try.prog g71mu (g71T (G71 n)) big (areg Try.prog g71mu (g71T (G71 n))) 71 := by kernel_rfl
theorem G71_37 (n : Nat) : G71 (n + 1) 37 = afn Try.prog g37mu (g37T (G71 n)) big (areg Try.prog g37mu (g37T (G71 n))) 37 := by kernel_rfl
theorem G71_ok : ∀ j, j ∈ [71, 37] → okFn Try.prog j = true := by
  intro j hj
  simp only [List.mem_cons, List.not_mem_nil, or_false] at hj
  rcases hj with rfl | rfl <;> kernel_rfl
theorem simG71 : ∀ n j, j ∈ [71, 37] → Sim Try.prog j (G71 n j)
| 0, j, hj => ⟨G71_ok j hj, fun _ _ _ _ _ _ _ h => by cases h⟩
| n + 1, j, hj => by
  have ih := simG71 n
  simp only [List.mem_cons, List.not_mem_nil, or_false] at hj
  rcases hj with rfl | rfl
  · rw [G71_71]; exact afn_sim (g71t (G71 n) ih) (fun m => areg_sound (g71t (G71 n) ih) hmix m) 71 (by kernel_rfl)
  · rw [G71_37]; exact afn_sim (g37t (G71 n) ih) (fun m => areg_sound (g37t (G71 n) ih) hmix m) 37 (by kernel_rfl)
noncomputable def s71 : Fn := sealF (G71 big 71)
theorem sim71 : Sim Try.prog 71 s71 := (simG71 big 71 (by decide)).sealed
theorem s71_n : s71 = G71 big 71 := sealF_eq _
theorem G71_71_eq (n : Nat) (x0 : V) (x1 : V) (st : St) : G71 (n + 1) 71 [x0, x1] st = f71 (G71 n) x0 x1 st := by
  rw [G71_71]; exact s71R_eq (G71 n) x0 x1 st
noncomputable def s37 : Fn := sealF (G71 big 37)
theorem sim37 : Sim Try.prog 37 s37 := (simG71 big 37 (by decide)).sealed
theorem s37_n : s37 = G71 big 37 := sealF_eq _
theorem G71_37_eq (n : Nat) (x0 : V) (st : St) : G71 (n + 1) 37 [x0] st = f37 (G71 n) x0 st := by
  rw [G71_37]; exact s37R_eq (G71 n) x0 st
end Go.Ab
