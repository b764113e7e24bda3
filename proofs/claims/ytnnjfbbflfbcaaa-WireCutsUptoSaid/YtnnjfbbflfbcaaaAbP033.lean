import Derived.Test.YtnnjfbbflfbcaaaAbForget
import Derived.Test.YtnnjfbbflfbcaaaAbP032
namespace Go.Ab
open Go.Proofs
set_option linter.unusedVariables false
set_option maxRecDepth 100000
/-! sinew/sinewref03.Unpack -/
def g12mu : Nat → Bool := fun _ => false
noncomputable def g12T : Tbl := tget [(25, s25), (26, s26), (27, s27)]
theorem g12t : SimT Try.prog g12T := simT_cons sim25 ( simT_cons sim26 ( simT_cons sim27 (simT_nil)))
noncomputable def s12 : Fn := sealF (fun args st => fg (afn Try.prog g12mu g12T big (areg Try.prog g12mu g12T) 12 args st) st)
theorem sim12 : Sim Try.prog 12 s12 := (afn_sim g12t (fun m => areg_sound g12t hmix m) 12 (by kernel_rfl)).fg.sealed
noncomputable def g12C (p : List Nat) : Code := sub (match Try.f12.body with | some c => c | none => .skip) p
noncomputable def g12X (c : Code) (K : Kon) : Env → St → Res := aexec Try.prog g12mu g12T big 46 (areg Try.prog g12mu g12T 46) c K
noncomputable def g12kr : Kon := aresK Try.prog Try.f12.results.toList
theorem g12reg {c : Code} {K : Kon} {G : Env → St → Res} {id : Nat} {ops : Array Oper} {l1 l2 : List Nat} (hc : c = .region id ops false) (hl : List.range ops.size = l1 ++ l2) (h : (fun env st => aops Try.prog g12mu g12T 46 ops l2 env st (K .normal)) = G) : g12X c K = fun env st => aops Try.prog g12mu g12T 46 ops l1 env st G := reg_cut hc hl h
theorem g12seq {c x y : Code} {K : Kon} {G : Env → St → Res} (hc : c = .seq x y) (hy : g12X y K = G) : g12X c K = g12X x (kSeq G K) := seq_cut hc hy
theorem g12blk {c x : Code} {K : Kon} {i : Nat} (hc : c = .block i x) : g12X c K = g12X x (kBlk i K) := blk_cut hc
theorem g12loop {c x : Code} {K : Kon} (hc : c = .loop x) : g12X c K = aloop (g12X x) K big := loop_cut hc
theorem g12cond {c x y : Code} {K : Kon} {v : Operand} {F G : Env → St → Res} (hc : c = .cond v x y) (hx : g12X x K = F) (hy : g12X y K = G) : g12X c K = condF v F G := cond_cut hc hx hy
noncomputable def g12b11111111 (x2 : V) (x5 : V) (x7 : V) (x8 : V) (st : St) : Res :=
 A.un .not x8 fun a1 =>
 A.cond a1
 (A.build [(.int .i64 0), (.lst [] 1), (.lst [] 1), (.lst [] 1)] [] fun a2 =>
 A.store 4 x2 a2 st fun z3 =>
 A.res (rcell (A.load true 4 x2 z3 kid) (rtmp (.int .i64 0) (rtmp (.int .i64 31) (some [])))) z3)
 (A.load true 4 x7 st fun a4 z5 =>
 A.bin .add (.int .i64 8) x5 fun a6 =>
 A.store 4 x2 a4 z5 fun z7 =>
 A.res (rcell (A.load true 4 x2 z7 kid) (rtmp a6 (rtmp (.int .i64 0) (some [])))) z7)
theorem g12e11111111 : g12X (g12C [1, 1, 1, 1, 1, 1, 1, 1]) (g12kr) = fun env st => g12b11111111 (env 2) (env 5) (env 7) (env 8) st := by
  refine Eq.trans (Eq.refl (g12X (g12C [1, 1, 1, 1, 1, 1, 1, 1]) (g12kr))) ?_
  funext env st
  kernel_rfl
noncomputable def g12b1111111 (x2 : V) (x5 : V) (x6 : V) (st : St) : Res :=
 A.ret (s27 [x6.er1] st) fun a1 z2 =>
 A.ext a1 0 fun a3 =>
 A.ext a1 1 fun a4 =>
 A.box (.agg [(.int .i64 0), (.lst [] 1), (.lst [] 1), (.lst [] 1)]) z2 fun a5 z6 =>
 A.store 4 a5 a3 z6 fun z7 =>
 g12b11111111 x2 x5 a5 a4 z7
theorem g12n1111111 : g12C [1, 1, 1, 1, 1, 1, 1] = .seq (g12C [1, 1, 1, 1, 1, 1, 1, 0]) (g12C [1, 1, 1, 1, 1, 1, 1, 1]) := by kernel_rfl
theorem g12e1111111 : g12X (g12C [1, 1, 1, 1, 1, 1, 1]) (g12kr) = fun env st => g12b1111111 (env 2) (env 5) (env 6) st := by
  refine Eq.trans (g12seq g12n1111111 (g12e11111111)) ?_
  funext env st
  kernel_rfl
noncomputable def g12k0 : Kon := kSeq (fun env st => g12b1111111 (env 2) (env 5) (env 6) st) (g12kr)
noncomputable def g12b11111101 (x2 : V) (x5 : V) (x6 : V) (x33 : V) (st : St) : Res :=
 A.cond x33
 (A.build [(.int .i64 0), (.lst [] 1), (.lst [] 1), (.lst [] 1)] [] fun a1 =>
 A.store 4 x2 a1 st fun z2 =>
 A.res (rcell (A.load true 4 x2 z2 kid) (rtmp (.int .i64 0) (rtmp (.int .i64 30) (some [])))) z2)
 (g12b1111111 x2 x5 x6 st)
theorem g12e11111101 : g12X (g12C [1, 1, 1, 1, 1, 1, 0, 1]) (g12k0) = fun env st => g12b11111101 (env 2) (env 5) (env 6) (env 33) st := by
  refine Eq.trans (Eq.refl (g12X (g12C [1, 1, 1, 1, 1, 1, 0, 1]) (g12k0))) ?_
  funext env st
  kernel_rfl
noncomputable def g12b11111 (x0 : V) (x2 : V) (x5 : V) (st : St) : Res :=
 A.bin .add (.int .i64 8) x5 fun a1 =>
 A.sliceS x0 (some (.int .i64 8)) (some a1) fun a2 =>
 A.sliceS x0 (some (.int .i64 4)) none fun a3 =>
 A.ret (s25 [a3.er1] st) fun a4 z5 =>
 A.ret (s26 [a2.er1] z5) fun a6 z7 =>
 A.eql 2 true a4 a6 fun a8 =>
 g12b11111101 x2 x5 a2 a8 z7
theorem g12n11111 : g12C [1, 1, 1, 1, 1] = .seq (g12C [1, 1, 1, 1, 1, 0]) (g12C [1, 1, 1, 1, 1, 1]) := by kernel_rfl
theorem g12n111111 : g12C [1, 1, 1, 1, 1, 1] = .seq (g12C [1, 1, 1, 1, 1, 1, 0]) (g12C [1, 1, 1, 1, 1, 1, 1]) := by kernel_rfl
theorem g12n1111110 : g12C [1, 1, 1, 1, 1, 1, 0] = .seq (g12C [1, 1, 1, 1, 1, 1, 0, 0]) (g12C [1, 1, 1, 1, 1, 1, 0, 1]) := by kernel_rfl
theorem g12e11111 : g12X (g12C [1, 1, 1, 1, 1]) (g12kr) = fun env st => g12b11111 (env 0) (env 2) (env 5) st := by
  refine Eq.trans (g12seq g12n11111 ((g12seq g12n111111 (g12e1111111)).trans (g12seq g12n1111110 (g12e11111101)))) ?_
  funext env st
  kernel_rfl
noncomputable def g12k1 : Kon := kSeq (fun env st => g12b11111 (env 0) (env 2) (env 5) st) (g12kr)
noncomputable def g12b111101 (x0 : V) (x2 : V) (x5 : V) (x22 : V) (st : St) : Res :=
 A.cond x22
 (A.build [(.int .i64 0), (.lst [] 1), (.lst [] 1), (.lst [] 1)] [] fun a1 =>
 A.store 4 x2 a1 st fun z2 =>
 A.res (rcell (A.load true 4 x2 z2 kid) (rtmp (.int .i64 0) (rtmp (.int .i64 11) (some [])))) z2)
 (g12b11111 x0 x2 x5 st)
theorem g12e111101 : g12X (g12C [1, 1, 1, 1, 0, 1]) (g12k1) = fun env st => g12b111101 (env 0) (env 2) (env 5) (env 22) st := by
  refine Eq.trans (Eq.refl (g12X (g12C [1, 1, 1, 1, 0, 1]) (g12k1))) ?_
  funext env st
  kernel_rfl
noncomputable def g12b111 (x0 : V) (x2 : V) (x5 : V) (st : St) : Res :=
 A.bin .gtr x5 (.int .i64 1048576) fun a1 =>
 A.cond a1
 (A.build [(.int .i64 0), (.lst [] 1), (.lst [] 1), (.lst [] 1)] [] fun a2 =>
 A.store 4 x2 a2 st fun z3 =>
 A.res (rcell (A.load true 4 x2 z3 kid) (rtmp (.int .i64 0) (rtmp (.int .i64 31) (some [])))) z3)
 (A.lenS x0 fun a4 =>
 A.bin .sub a4 (.int .i64 8) fun a5 =>
 A.bin .lss a5 x5 fun a6 =>
 g12b111101 x0 x2 x5 a6 st)
theorem g12n111 : g12C [1, 1, 1] = .seq (g12C [1, 1, 1, 0]) (g12C [1, 1, 1, 1]) := by kernel_rfl
theorem g12n1111 : g12C [1, 1, 1, 1] = .seq (g12C [1, 1, 1, 1, 0]) (g12C [1, 1, 1, 1, 1]) := by kernel_rfl
theorem g12n11110 : g12C [1, 1, 1, 1, 0] = .seq (g12C [1, 1, 1, 1, 0, 0]) (g12C [1, 1, 1, 1, 0, 1]) := by kernel_rfl
theorem g12e111 : g12X (g12C [1, 1, 1]) (g12kr) = fun env st => g12b111 (env 0) (env 2) (env 5) st := by
  refine Eq.trans (g12seq g12n111 ((g12seq g12n1111 (g12e11111)).trans (g12seq g12n11110 (g12e111101)))) ?_
  funext env st
  kernel_rfl
noncomputable def f12 (x0 : V) (st : St) : Res :=
 A.box (.agg [(.int .i64 0), (.lst [] 1), (.lst [] 1), (.lst [] 1)]) st fun a1 z2 =>
 A.lenS x0 fun a3 =>
 A.bin .lss a3 (.int .i64 8) fun a4 =>
 A.cond a4
 (A.build [(.int .i64 0), (.lst [] 1), (.lst [] 1), (.lst [] 1)] [] fun a5 =>
 A.store 4 a1 a5 z2 fun z6 =>
 A.res (rcell (A.load true 4 a1 z6 kid) (rtmp (.int .i64 0) (rtmp (.int .i64 11) (some [])))) z6)
 (A.ret (s25 [x0.er1] z2) fun a7 z8 =>
 g12b111 x0 a1 a7 z8)
theorem g12nr : g12C [] = .seq (g12C [0]) (g12C [1]) := by kernel_rfl
theorem g12n1 : g12C [1] = .seq (g12C [1, 0]) (g12C [1, 1]) := by kernel_rfl
theorem g12n11 : g12C [1, 1] = .seq (g12C [1, 1, 0]) (g12C [1, 1, 1]) := by kernel_rfl
theorem g12er (env : Env) (st : St) : g12X (g12C []) g12kr env st = f12 (env 0) st := by
  rw [(g12seq g12nr (g12seq g12n1 (g12seq g12n11 (g12e111))))]
  kernel_rfl
theorem s12_eq (x0 : V) (st : St) : s12 [x0] st = fg (f12 x0 st) st := by
  have h : afn Try.prog g12mu g12T big (areg Try.prog g12mu g12T) 12 [x0] st = g12X (g12C []) g12kr (fun t => [x0].getD t (.tup [])) st := by kernel_rfl
  rw [s12, sealF_eq]
  show fg _ st = fg _ st
  refine congrArg (fun r => fg r st) ?_
  exact h.trans (g12er _ st)
/-! sinew/sinewref03.All -/
def g14mu : Nat → Bool := fun _ => false
noncomputable def g14T : Tbl := tget [(12, s12)]
theorem g14t : SimT Try.prog g14T := simT_cons sim12 (simT_nil)
noncomputable def s14 : Fn := sealF (fun args st => fg (afn Try.prog g14mu g14T big (areg Try.prog g14mu g14T) 14 args st) st)
theorem sim14 : Sim Try.prog 14 s14 := (afn_sim g14t (fun m => areg_sound g14t hmix m) 14 (by kernel_rfl)).fg.sealed
noncomputable def g14C (p : List Nat) : Code := sub (match Try.f14.body with | some c => c | none => .skip) p
noncomputable def g14X (c : Code) (K : Kon) : Env → St → Res := aexec Try.prog g14mu g14T big 28 (areg Try.prog g14mu g14T 28) c K
noncomputable def g14kr : Kon := aresK Try.prog Try.f14.results.toList
theorem g14reg {c : Code} {K : Kon} {G : Env → St → Res} {id : Nat} {ops : Array Oper} {l1 l2 : List Nat} (hc : c = .region id ops false) (hl : List.range ops.size = l1 ++ l2) (h : (fun env st => aops Try.prog g14mu g14T 28 ops l2 env st (K .normal)) = G) : g14X c K = fun env st => aops Try.prog g14mu g14T 28 ops l1 env st G := reg_cut hc hl h
theorem g14seq {c x y : Code} {K : Kon} {G : Env → St → Res} (hc : c = .seq x y) (hy : g14X y K = G) : g14X c K = g14X x (kSeq G K) := seq_cut hc hy
theorem g14blk {c x : Code} {K : Kon} {i : Nat} (hc : c = .block i x) : g14X c K = g14X x (kBlk i K) := blk_cut hc
theorem g14loop {c x : Code} {K : Kon} (hc : c = .loop x) : g14X c K = aloop (g14X x) K big := loop_cut hc
theorem g14cond {c x y : Code} {K : Kon} {v : Operand} {F G : Env → St → Res} (hc : c = .cond v x y) (hx : g14X x K = F) (hy : g14X y K = G) : g14X c K = condF v F G := cond_cut hc hx hy
noncomputable def g14k0 : Kon := kBlk 0 (g14kr)
noncomputable def g14k1 (L1110 : V → V → V → St → Res) : Kon := kSeq (fun env st => L1110 (env 0) (env 4) (env 5) st) (g14k0)
noncomputable def g14k2 (L1110 : V → V → V → St → Res) : Kon := kBlk 1 (g14k1 L1110)
noncomputable def g14b1110001 (L1110 : V → V → V → St → Res) (x0 : V) (x4 : V) (x5 : V) (x6 : V) (x7 : V) (x8 : V) (st : St) : Res :=
 A.eql 2 true x8 (.int .i64 0) fun a1 =>
 A.cond a1
 (some (.ret (.tup [x4.er1, x5.er1]), st))
 (A.load true 4 x6 st fun a2 z3 =>
 A.bslice 4 (.agg [(.int .i64 0), (.lst [] 1), (.lst [] 1), (.lst [] 1)]) 1 [(0, a2)] fun a4 =>
 A.app 4 x4 (elemsOf 5 4 a4 z3) z3 fun a5 z6 =>
 A.bin .add x5 x7 fun a7 =>
 L1110 x0 a5 a7 z6)
theorem g14e1110001 (L1110 : V → V → V → St → Res) : g14X (g14C [1, 1, 1, 0, 0, 0, 1]) (g14k2 L1110) = fun env st => g14b1110001 L1110 (env 0) (env 4) (env 5) (env 6) (env 7) (env 8) st := by
  refine Eq.trans (Eq.refl (g14X (g14C [1, 1, 1, 0, 0, 0, 1]) (g14k2 L1110))) ?_
  funext env st
  kernel_rfl
noncomputable def g14b1110 : Nat → V → V → V → St → Res
| 0, _, _, _, _ => none
| n + 1, x0, x4, x5, st =>
 A.sliceS x0 (some x5) none fun a1 =>
 A.ret (s12 [a1.er1] st) fun a2 z3 =>
 A.ext a2 0 fun a4 =>
 A.ext a2 1 fun a5 =>
 A.ext a2 2 fun a6 =>
 A.box (.agg [(.int .i64 0), (.lst [] 1), (.lst [] 1), (.lst [] 1)]) z3 fun a7 z8 =>
 A.store 4 a7 a4 z8 fun z9 =>
 g14b1110001 (g14b1110 n) x0 x4 x5 a7 a5 a6 z9
theorem g14n1110 : g14C [1, 1, 1, 0] = .loop (g14C [1, 1, 1, 0, 0]) := by kernel_rfl
theorem g14n11100 : g14C [1, 1, 1, 0, 0] = .block 1 (g14C [1, 1, 1, 0, 0, 0]) := by kernel_rfl
theorem g14n111000 : g14C [1, 1, 1, 0, 0, 0] = .seq (g14C [1, 1, 1, 0, 0, 0, 0]) (g14C [1, 1, 1, 0, 0, 0, 1]) := by kernel_rfl
theorem g14e1110 : g14X (g14C [1, 1, 1, 0]) (g14k0) = fun env st => g14b1110 big (env 0) (env 4) (env 5) st := by
  have key : ∀ n, aloop (g14X (g14C [1, 1, 1, 0, 0])) (g14k0) n = fun env st => g14b1110 n (env 0) (env 4) (env 5) st := by
    intro n
    induction n with
    | zero => rfl
    | succ n ih =>
      have h : aloop (g14X (g14C [1, 1, 1, 0, 0])) (g14k0) (n + 1) = g14X (g14C [1, 1, 1, 0, 0]) (kSeq (aloop (g14X (g14C [1, 1, 1, 0, 0])) (g14k0) n) (g14k0)) := rfl
      rw [h, ih]
      refine Eq.trans ((g14blk g14n11100).trans (g14seq g14n111000 (g14e1110001 (g14b1110 n)))) ?_
      funext env st
      kernel_rfl
  exact (g14loop g14n1110).trans (key big)
noncomputable def f14 (x0 : V) (st : St) : Res :=
 g14b1110 big x0 (.lst [] 1) (.int .i64 0) st
theorem g14nr : g14C [] = .seq (g14C [0]) (g14C [1]) := by kernel_rfl
theorem g14n1 : g14C [1] = .seq (g14C [1, 0]) (g14C [1, 1]) := by kernel_rfl
theorem g14n11 : g14C [1, 1] = .seq (g14C [1, 1, 0]) (g14C [1, 1, 1]) := by kernel_rfl
theorem g14n111 : g14C [1, 1, 1] = .block 0 (g14C [1, 1, 1, 0]) := by kernel_rfl
theorem g14er (env : Env) (st : St) : g14X (g14C []) g14kr env st = f14 (env 0) st := by
  rw [(g14seq g14nr (g14seq g14n1 (g14seq g14n11 ((g14blk g14n111).trans (g14e1110)))))]
  kernel_rfl
theorem s14_eq (x0 : V) (st : St) : s14 [x0] st = fg (f14 x0 st) st := by
  have h : afn Try.prog g14mu g14T big (areg Try.prog g14mu g14T) 14 [x0] st = g14X (g14C []) g14kr (fun t => [x0].getD t (.tup [])) st := by kernel_rfl
  rw [s14, sealF_eq]
  show fg _ st = fg _ st
  refine congrArg (fun r => fg r st) ?_
  exact h.trans (g14er _ st)
/-! sinew/sinewref01.Same -/
def g28mu : Nat → Bool := fun _ => false
noncomputable def g28T : Tbl := tget []
theorem g28t : SimT Try.prog g28T := simT_nil
noncomputable def s28 : Fn := sealF (afn Try.prog g28mu g28T big (areg Try.prog g28mu g28T) 28)
theorem sim28 : Sim Try.prog 28 s28 := (afn_sim g28t (fun m => areg_sound g28t hmix m) 28 (by kernel_rfl)).sealed
noncomputable def g28C (p : List Nat) : Code := sub (match Try.f28.body with | some c => c | none => .skip) p
noncomputable def g28X (c : Code) (K : Kon) : Env → St → Res := aexec Try.prog g28mu g28T big 26 (areg Try.prog g28mu g28T 26) c K
noncomputable def g28kr : Kon := aresK Try.prog Try.f28.results.toList
theorem g28reg {c : Code} {K : Kon} {G : Env → St → Res} {id : Nat} {ops : Array Oper} {l1 l2 : List Nat} (hc : c = .region id ops false) (hl : List.range ops.size = l1 ++ l2) (h : (fun env st => aops Try.prog g28mu g28T 26 ops l2 env st (K .normal)) = G) : g28X c K = fun env st => aops Try.prog g28mu g28T 26 ops l1 env st G := reg_cut hc hl h
theorem g28seq {c x y : Code} {K : Kon} {G : Env → St → Res} (hc : c = .seq x y) (hy : g28X y K = G) : g28X c K = g28X x (kSeq G K) := seq_cut hc hy
theorem g28blk {c x : Code} {K : Kon} {i : Nat} (hc : c = .block i x) : g28X c K = g28X x (kBlk i K) := blk_cut hc
theorem g28loop {c x : Code} {K : Kon} (hc : c = .loop x) : g28X c K = aloop (g28X x) K big := loop_cut hc
theorem g28cond {c x y : Code} {K : Kon} {v : Operand} {F G : Env → St → Res} (hc : c = .cond v x y) (hx : g28X x K = F) (hy : g28X y K = G) : g28X c K = condF v F G := cond_cut hc hx hy
noncomputable def g28k0 : Kon := kSeq (g28X (g28C [1, 1, 1]) (g28kr)) (g28kr)
noncomputable def g28k1 : Kon := kBlk 0 (g28k0)
noncomputable def g28b11010 : Nat → V → V → V → St → Res
| 0, _, _, _, _ => none
| n + 1, x0, x1, x5, st =>
 A.lenL x0 fun a1 =>
 A.bin .lss x5 a1 fun a2 =>
 A.cond a2
 (A.iaddr 1 x0 x5 fun a3 =>
 A.load false 1 a3 st fun a4 _ =>
 A.iaddr 1 x1 x5 fun a5 =>
 A.load false 1 a5 st fun a6 _ =>
 A.eql 3 true a4 a6 fun a7 =>
 A.cond a7
 (some (.ret ((.bool false) : V).er1, st))
 (A.bin .add x5 (.int .i64 1) fun a8 =>
 (g28b11010 n) x0 x1 a8 st))
 (some (.ret ((.bool true) : V).er1, st))
theorem g28n11010 : g28C [1, 1, 0, 1, 0] = .loop (g28C [1, 1, 0, 1, 0, 0]) := by kernel_rfl
noncomputable def g28k2 (L11010 : V → V → V → St → Res) : Kon := kSeq (fun env st => L11010 (env 0) (env 1) (env 5) st) (g28k1)
theorem g28e11010 : g28X (g28C [1, 1, 0, 1, 0]) (g28k1) = fun env st => g28b11010 big (env 0) (env 1) (env 5) st := by
  have key : ∀ n, aloop (g28X (g28C [1, 1, 0, 1, 0, 0])) (g28k1) n = fun env st => g28b11010 n (env 0) (env 1) (env 5) st := by
    intro n
    induction n with
    | zero => rfl
    | succ n ih =>
      have h : aloop (g28X (g28C [1, 1, 0, 1, 0, 0])) (g28k1) (n + 1) = g28X (g28C [1, 1, 0, 1, 0, 0]) (kSeq (aloop (g28X (g28C [1, 1, 0, 1, 0, 0])) (g28k1) n) (g28k1)) := rfl
      rw [h, ih]
      refine Eq.trans (Eq.refl _) ?_
      funext env st
      kernel_rfl
  exact (g28loop g28n11010).trans (key big)
noncomputable def f28 (x0 : V) (x1 : V) (st : St) : Res :=
 A.lenL x0 fun a1 =>
 A.lenL x1 fun a2 =>
 A.eql 2 true a1 a2 fun a3 =>
 A.cond a3
 (some (.ret ((.bool false) : V).er1, st))
 (g28b11010 big x0 x1 (.int .i64 0) st)
theorem g28nr : g28C [] = .seq (g28C [0]) (g28C [1]) := by kernel_rfl
theorem g28n1 : g28C [1] = .seq (g28C [1, 0]) (g28C [1, 1]) := by kernel_rfl
theorem g28n11 : g28C [1, 1] = .seq (g28C [1, 1, 0]) (g28C [1, 1, 1]) := by kernel_rfl
theorem g28n110 : g28C [1, 1, 0] = .seq (g28C [1, 1, 0, 0]) (g28C [1, 1, 0, 1]) := by kernel_rfl
theorem g28n1101 : g28C [1, 1, 0, 1] = .block 0 (g28C [1, 1, 0, 1, 0]) := by kernel_rfl
theorem g28er (env : Env) (st : St) : g28X (g28C []) g28kr env st = f28 (env 0) (env 1) st := by
  rw [(g28seq g28nr (g28seq g28n1 ((g28seq g28n11 rfl).trans (g28seq g28n110 ((g28blk g28n1101).trans (g28e11010))))))]
  kernel_rfl
theorem s28_eq (x0 : V) (x1 : V) (st : St) : s28 [x0, x1] st = f28 x0 x1 st := by
  have h : afn Try.prog g28mu g28T big (areg Try.prog g28mu g28T) 28 [x0, x1] st = g28X (g28C []) g28kr (fun t => [x0, x1].getD t (.tup [])) st := by kernel_rfl
  rw [s28, sealF_eq]
  exact h.trans (g28er _ st)
/-! sinew/sinewref03.SameRows -/
def g29mu : Nat → Bool := fun _ => false
noncomputable def g29T : Tbl := tget [(28, s28)]
theorem g29t : SimT Try.prog g29T := simT_cons sim28 (simT_nil)
noncomputable def s29 : Fn := sealF (afn Try.prog g29mu g29T big (areg Try.prog g29mu g29T) 29)
theorem sim29 : Sim Try.prog 29 s29 := (afn_sim g29t (fun m => areg_sound g29t hmix m) 29 (by kernel_rfl)).sealed
noncomputable def g29C (p : List Nat) : Code := sub (match Try.f29.body with | some c => c | none => .skip) p
noncomputable def g29X (c : Code) (K : Kon) : Env → St → Res := aexec Try.prog g29mu g29T big 27 (areg Try.prog g29mu g29T 27) c K
noncomputable def g29kr : Kon := aresK Try.prog Try.f29.results.toList
theorem g29reg {c : Code} {K : Kon} {G : Env → St → Res} {id : Nat} {ops : Array Oper} {l1 l2 : List Nat} (hc : c = .region id ops false) (hl : List.range ops.size = l1 ++ l2) (h : (fun env st => aops Try.prog g29mu g29T 27 ops l2 env st (K .normal)) = G) : g29X c K = fun env st => aops Try.prog g29mu g29T 27 ops l1 env st G := reg_cut hc hl h
theorem g29seq {c x y : Code} {K : Kon} {G : Env → St → Res} (hc : c = .seq x y) (hy : g29X y K = G) : g29X c K = g29X x (kSeq G K) := seq_cut hc hy
theorem g29blk {c x : Code} {K : Kon} {i : Nat} (hc : c = .block i x) : g29X c K = g29X x (kBlk i K) := blk_cut hc
theorem g29loop {c x : Code} {K : Kon} (hc : c = .loop x) : g29X c K = aloop (g29X x) K big := loop_cut hc
theorem g29cond {c x y : Code} {K : Kon} {v : Operand} {F G : Env → St → Res} (hc : c = .cond v x y) (hx : g29X x K = F) (hy : g29X y K = G) : g29X c K = condF v F G := cond_cut hc hx hy
noncomputable def g29k0 : Kon := kSeq (g29X (g29C [1, 1, 1]) (g29kr)) (g29kr)
noncomputable def g29k1 : Kon := kBlk 0 (g29k0)
noncomputable def g29b11010 : Nat → V → V → V → St → Res
| 0, _, _, _, _ => none
| n + 1, x0, x1, x5, st =>
 A.lenL x0 fun a1 =>
 A.bin .lss x5 a1 fun a2 =>
 A.cond a2
 (A.iaddr 1 x0 x5 fun a3 =>
 A.load false 1 a3 st fun a4 _ =>
 A.iaddr 1 x1 x5 fun a5 =>
 A.load false 1 a5 st fun a6 _ =>
 A.noP (A.ret (s28 [a4.er1, a6.er1] st) kid) fun a7 z8 =>
 A.un .not a7 fun a9 =>
 A.cond a9
 (some (.ret ((.bool false) : V).er1, z8))
 (A.bin .add x5 (.int .i64 1) fun a10 =>
 (g29b11010 n) x0 x1 a10 z8))
 (some (.ret ((.bool true) : V).er1, st))
theorem g29n11010 : g29C [1, 1, 0, 1, 0] = .loop (g29C [1, 1, 0, 1, 0, 0]) := by kernel_rfl
noncomputable def g29k2 (L11010 : V → V → V → St → Res) : Kon := kSeq (fun env st => L11010 (env 0) (env 1) (env 5) st) (g29k1)
theorem g29e11010 : g29X (g29C [1, 1, 0, 1, 0]) (g29k1) = fun env st => g29b11010 big (env 0) (env 1) (env 5) st := by
  have key : ∀ n, aloop (g29X (g29C [1, 1, 0, 1, 0, 0])) (g29k1) n = fun env st => g29b11010 n (env 0) (env 1) (env 5) st := by
    intro n
    induction n with
    | zero => rfl
    | succ n ih =>
      have h : aloop (g29X (g29C [1, 1, 0, 1, 0, 0])) (g29k1) (n + 1) = g29X (g29C [1, 1, 0, 1, 0, 0]) (kSeq (aloop (g29X (g29C [1, 1, 0, 1, 0, 0])) (g29k1) n) (g29k1)) := rfl
      rw [h, ih]
      refine Eq.trans (Eq.refl _) ?_
      funext env st
      kernel_rfl
  exact (g29loop g29n11010).trans (key big)
noncomputable def f29 (x0 : V) (x1 : V) (st : St) : Res :=
 A.lenL x0 fun a1 =>
 A.lenL x1 fun a2 =>
 A.eql 2 true a1 a2 fun a3 =>
 A.cond a3
 (some (.ret ((.bool false) : V).er1, st))
 (g29b11010 big x0 x1 (.int .i64 0) st)
theorem g29nr : g29C [] = .seq (g29C [0]) (g29C [1]) := by kernel_rfl
theorem g29n1 : g29C [1] = .seq (g29C [1, 0]) (g29C [1, 1]) := by kernel_rfl
theorem g29n11 : g29C [1, 1] = .seq (g29C [1, 1, 0]) (g29C [1, 1, 1]) := by kernel_rfl
theorem g29n110 : g29C [1, 1, 0] = .seq (g29C [1, 1, 0, 0]) (g29C [1, 1, 0, 1]) := by kernel_rfl
theorem g29n1101 : g29C [1, 1, 0, 1] = .block 0 (g29C [1, 1, 0, 1, 0]) := by kernel_rfl
theorem g29er (env : Env) (st : St) : g29X (g29C []) g29kr env st = f29 (env 0) (env 1) st := by
  rw [(g29seq g29nr (g29seq g29n1 ((g29seq g29n11 rfl).trans (g29seq g29n110 ((g29blk g29n1101).trans (g29e11010))))))]
  kernel_rfl
theorem s29_eq (x0 : V) (x1 : V) (st : St) : s29 [x0, x1] st = f29 x0 x1 st := by
  have h : afn Try.prog g29mu g29T big (areg Try.prog g29mu g29T) 29 [x0, x1] st = g29X (g29C []) g29kr (fun t => [x0, x1].getD t (.tup [])) st := by kernel_rfl
  rw [s29, sealF_eq]
  exact h.trans (g29er _ st)
/-! sinew/sinewref03.Same -/
def g15mu : Nat → Bool := fun _ => false
noncomputable def g15T : Tbl := tget [(28, s28), (29, s29)]
theorem g15t : SimT Try.prog g15T := simT_cons sim28 ( simT_cons sim29 (simT_nil))
noncomputable def s15 : Fn := sealF (fun args st => fg (afn Try.prog g15mu g15T big (areg Try.prog g15mu g15T) 15 args st) st)
theorem sim15 : Sim Try.prog 15 s15 := (afn_sim g15t (fun m => areg_sound g15t hmix m) 15 (by kernel_rfl)).fg.sealed
noncomputable def g15C (p : List Nat) : Code := sub (match Try.f15.body with | some c => c | none => .skip) p
noncomputable def g15X (c : Code) (K : Kon) : Env → St → Res := aexec Try.prog g15mu g15T big 50 (areg Try.prog g15mu g15T 50) c K
noncomputable def g15kr : Kon := aresK Try.prog Try.f15.results.toList
theorem g15reg {c : Code} {K : Kon} {G : Env → St → Res} {id : Nat} {ops : Array Oper} {l1 l2 : List Nat} (hc : c = .region id ops false) (hl : List.range ops.size = l1 ++ l2) (h : (fun env st => aops Try.prog g15mu g15T 50 ops l2 env st (K .normal)) = G) : g15X c K = fun env st => aops Try.prog g15mu g15T 50 ops l1 env st G := reg_cut hc hl h
theorem g15seq {c x y : Code} {K : Kon} {G : Env → St → Res} (hc : c = .seq x y) (hy : g15X y K = G) : g15X c K = g15X x (kSeq G K) := seq_cut hc hy
theorem g15blk {c x : Code} {K : Kon} {i : Nat} (hc : c = .block i x) : g15X c K = g15X x (kBlk i K) := blk_cut hc
theorem g15loop {c x : Code} {K : Kon} (hc : c = .loop x) : g15X c K = aloop (g15X x) K big := loop_cut hc
theorem g15cond {c x y : Code} {K : Kon} {v : Operand} {F G : Env → St → Res} (hc : c = .cond v x y) (hx : g15X x K = F) (hy : g15X y K = G) : g15X c K = condF v F G := cond_cut hc hx hy
noncomputable def g15k0 : Kon := kSeq (g15X (g15C [1, 1, 1]) (g15kr)) (g15kr)
noncomputable def g15k1 : Kon := kBlk 0 (g15k0)
noncomputable def g15b11010 : Nat → V → V → V → St → Res
| 0, _, _, _, _ => none
| n + 1, x2, x3, x5, st =>
 A.faddr 1 x2 fun a1 =>
 A.load false 1 a1 st fun a2 z3 =>
 A.lenL a2 fun a4 =>
 A.bin .lss x5 a4 fun a5 =>
 A.cond a5
 (A.faddr 1 x2 fun a6 =>
 A.load false 1 a6 z3 fun a7 _ =>
 A.iaddr 1 a7 x5 fun a8 =>
 A.load false 1 a8 z3 fun a9 _ =>
 A.faddr 1 x3 fun a10 =>
 A.load false 1 a10 z3 fun a11 _ =>
 A.iaddr 1 a11 x5 fun a12 =>
 A.load false 1 a12 z3 fun a13 _ =>
 A.eql 2 true a9 a13 fun a14 =>
 A.cond a14
 (some (.ret ((.bool false) : V).er1, z3))
 (A.bin .add x5 (.int .i64 1) fun a15 =>
 (g15b11010 n) x2 x3 a15 z3))
 (A.faddr 2 x2 fun a16 =>
 A.load false 1 a16 z3 fun a17 z18 =>
 A.faddr 2 x3 fun a19 =>
 A.load false 1 a19 z18 fun a20 z21 =>
 A.ret (s28 [a17.er1, a20.er1] z21) fun a22 z23 =>
 A.guard a22 true
 (A.faddr 3 x2 fun a24 =>
 A.load false 1 a24 z23 fun a25 z26 =>
 A.faddr 3 x3 fun a27 =>
 A.load false 1 a27 z26 fun a28 z29 =>
 A.ret (s29 [a25.er1, a28.er1] z29) fun a30 z31 =>
 some (.ret a30.er1, z31))
 (some (.ret ((.bool false) : V).er1, z23)))
theorem g15n11010 : g15C [1, 1, 0, 1, 0] = .loop (g15C [1, 1, 0, 1, 0, 0]) := by kernel_rfl
noncomputable def g15k2 (L11010 : V → V → V → St → Res) : Kon := kSeq (fun env st => L11010 (env 2) (env 3) (env 5) st) (g15k1)
theorem g15e11010 : g15X (g15C [1, 1, 0, 1, 0]) (g15k1) = fun env st => g15b11010 big (env 2) (env 3) (env 5) st := by
  have key : ∀ n, aloop (g15X (g15C [1, 1, 0, 1, 0, 0])) (g15k1) n = fun env st => g15b11010 n (env 2) (env 3) (env 5) st := by
    intro n
    induction n with
    | zero => rfl
    | succ n ih =>
      have h : aloop (g15X (g15C [1, 1, 0, 1, 0, 0])) (g15k1) (n + 1) = g15X (g15C [1, 1, 0, 1, 0, 0]) (kSeq (aloop (g15X (g15C [1, 1, 0, 1, 0, 0])) (g15k1) n) (g15k1)) := rfl
      rw [h, ih]
      refine Eq.trans (Eq.refl _) ?_
      funext env st
      kernel_rfl
  exact (g15loop g15n11010).trans (key big)
noncomputable def g15b11 (x2 : V) (x3 : V) (st : St) : Res :=
 g15b11010 big x2 x3 (.int .i64 0) st
theorem g15n11 : g15C [1, 1] = .seq (g15C [1, 1, 0]) (g15C [1, 1, 1]) := by kernel_rfl
theorem g15n110 : g15C [1, 1, 0] = .seq (g15C [1, 1, 0, 0]) (g15C [1, 1, 0, 1]) := by kernel_rfl
theorem g15n1101 : g15C [1, 1, 0, 1] = .block 0 (g15C [1, 1, 0, 1, 0]) := by kernel_rfl
theorem g15e11 : g15X (g15C [1, 1]) (g15kr) = fun env st => g15b11 (env 2) (env 3) st := by
  refine Eq.trans ((g15seq g15n11 rfl).trans (g15seq g15n110 ((g15blk g15n1101).trans (g15e11010)))) ?_
  funext env st
  kernel_rfl
noncomputable def f15 (x0 : V) (x1 : V) (st : St) : Res :=
 A.box x0 st fun a1 z2 =>
 A.box x1 z2 fun a3 z4 =>
 A.faddr 0 a1 fun a5 =>
 A.load false 1 a5 z4 fun a6 z7 =>
 A.faddr 0 a3 fun a8 =>
 A.load false 1 a8 z7 fun a9 z10 =>
 A.eql 2 true a6 a9 fun a11 =>
 A.guard a11 false
 (A.faddr 1 a1 fun a12 =>
 A.load false 1 a12 z10 fun a13 z14 =>
 A.lenL a13 fun a15 =>
 A.faddr 1 a3 fun a16 =>
 A.load false 1 a16 z14 fun a17 z18 =>
 A.lenL a17 fun a19 =>
 A.eql 2 true a15 a19 fun a20 =>
 A.cond a20
 (some (.ret ((.bool false) : V).er1, z18))
 (g15b11 a1 a3 z18))
 (some (.ret ((.bool false) : V).er1, z10))
theorem g15nr : g15C [] = .seq (g15C [0]) (g15C [1]) := by kernel_rfl
theorem g15n1 : g15C [1] = .seq (g15C [1, 0]) (g15C [1, 1]) := by kernel_rfl
theorem g15er (env : Env) (st : St) : g15X (g15C []) g15kr env st = f15 (env 0) (env 1) st := by
  rw [(g15seq g15nr (g15seq g15n1 (g15e11)))]
  kernel_rfl
theorem s15_eq (x0 : V) (x1 : V) (st : St) : s15 [x0, x1] st = fg (f15 x0 x1 st) st := by
  have h : afn Try.prog g15mu g15T big (areg Try.prog g15mu g15T) 15 [x0, x1] st = g15X (g15C []) g15kr (fun t => [x0, x1].getD t (.tup [])) st := by kernel_rfl
  rw [s15, sealF_eq]
  show fg _ st = fg _ st
  refine congrArg (fun r => fg r st) ?_
  exact h.trans (g15er _ st)
/-! sinew/sinewref03.SameAll -/
def g16mu : Nat → Bool := fun _ => false
noncomputable def g16T : Tbl := tget [(15, s15)]
theorem g16t : SimT Try.prog g16T := simT_cons sim15 (simT_nil)
noncomputable def s16 : Fn := sealF (afn Try.prog g16mu g16T big (areg Try.prog g16mu g16T) 16)
theorem sim16 : Sim Try.prog 16 s16 := (afn_sim g16t (fun m => areg_sound g16t hmix m) 16 (by kernel_rfl)).sealed
noncomputable def g16C (p : List Nat) : Code := sub (match Try.f16.body with | some c => c | none => .skip) p
noncomputable def g16X (c : Code) (K : Kon) : Env → St → Res := aexec Try.prog g16mu g16T big 27 (areg Try.prog g16mu g16T 27) c K
noncomputable def g16kr : Kon := aresK Try.prog Try.f16.results.toList
theorem g16reg {c : Code} {K : Kon} {G : Env → St → Res} {id : Nat} {ops : Array Oper} {l1 l2 : List Nat} (hc : c = .region id ops false) (hl : List.range ops.size = l1 ++ l2) (h : (fun env st => aops Try.prog g16mu g16T 27 ops l2 env st (K .normal)) = G) : g16X c K = fun env st => aops Try.prog g16mu g16T 27 ops l1 env st G := reg_cut hc hl h
theorem g16seq {c x y : Code} {K : Kon} {G : Env → St → Res} (hc : c = .seq x y) (hy : g16X y K = G) : g16X c K = g16X x (kSeq G K) := seq_cut hc hy
theorem g16blk {c x : Code} {K : Kon} {i : Nat} (hc : c = .block i x) : g16X c K = g16X x (kBlk i K) := blk_cut hc
theorem g16loop {c x : Code} {K : Kon} (hc : c = .loop x) : g16X c K = aloop (g16X x) K big := loop_cut hc
theorem g16cond {c x y : Code} {K : Kon} {v : Operand} {F G : Env → St → Res} (hc : c = .cond v x y) (hx : g16X x K = F) (hy : g16X y K = G) : g16X c K = condF v F G := cond_cut hc hx hy
noncomputable def g16k0 : Kon := kSeq (g16X (g16C [1, 1, 1]) (g16kr)) (g16kr)
noncomputable def g16k1 : Kon := kBlk 0 (g16k0)
noncomputable def g16b11010 : Nat → V → V → V → St → Res
| 0, _, _, _, _ => none
| n + 1, x0, x1, x5, st =>
 A.lenL x0 fun a1 =>
 A.bin .lss x5 a1 fun a2 =>
 A.cond a2
 (A.iaddr 4 x0 x5 fun a3 =>
 A.load true 4 a3 st fun a4 _ =>
 A.iaddr 4 x1 x5 fun a5 =>
 A.load true 4 a5 st fun a6 _ =>
 A.noP (A.ret (s15 [a4.er1, a6.er1] st) kid) fun a7 z8 =>
 A.un .not a7 fun a9 =>
 A.cond a9
 (some (.ret ((.bool false) : V).er1, z8))
 (A.bin .add x5 (.int .i64 1) fun a10 =>
 (g16b11010 n) x0 x1 a10 z8))
 (some (.ret ((.bool true) : V).er1, st))
theorem g16n11010 : g16C [1, 1, 0, 1, 0] = .loop (g16C [1, 1, 0, 1, 0, 0]) := by kernel_rfl
noncomputable def g16k2 (L11010 : V → V → V → St → Res) : Kon := kSeq (fun env st => L11010 (env 0) (env 1) (env 5) st) (g16k1)
theorem g16e11010 : g16X (g16C [1, 1, 0, 1, 0]) (g16k1) = fun env st => g16b11010 big (env 0) (env 1) (env 5) st := by
  have key : ∀ n, aloop (g16X (g16C [1, 1, 0, 1, 0, 0])) (g16k1) n = fun env st => g16b11010 n (env 0) (env 1) (env 5) st := by
    intro n
    induction n with
    | zero => rfl
    | succ n ih =>
      have h : aloop (g16X (g16C [1, 1, 0, 1, 0, 0])) (g16k1) (n + 1) = g16X (g16C [1, 1, 0, 1, 0, 0]) (kSeq (aloop (g16X (g16C [1, 1, 0, 1, 0, 0])) (g16k1) n) (g16k1)) := rfl
      rw [h, ih]
      refine Eq.trans (Eq.refl _) ?_
      funext env st
      kernel_rfl
  exact (g16loop g16n11010).trans (key big)
noncomputable def f16 (x0 : V) (x1 : V) (st : St) : Res :=
 A.lenL x0 fun a1 =>
 A.lenL x1 fun a2 =>
 A.eql 2 true a1 a2 fun a3 =>
 A.cond a3
 (some (.ret ((.bool false) : V).er1, st))
 (g16b11010 big x0 x1 (.int .i64 0) st)
theorem g16nr : g16C [] = .seq (g16C [0]) (g16C [1]) := by kernel_rfl
theorem g16n1 : g16C [1] = .seq (g16C [1, 0]) (g16C [1, 1]) := by kernel_rfl
theorem g16n11 : g16C [1, 1] = .seq (g16C [1, 1, 0]) (g16C [1, 1, 1]) := by kernel_rfl
theorem g16n110 : g16C [1, 1, 0] = .seq (g16C [1, 1, 0, 0]) (g16C [1, 1, 0, 1]) := by kernel_rfl
theorem g16n1101 : g16C [1, 1, 0, 1] = .block 0 (g16C [1, 1, 0, 1, 0]) := by kernel_rfl
theorem g16er (env : Env) (st : St) : g16X (g16C []) g16kr env st = f16 (env 0) (env 1) st := by
  rw [(g16seq g16nr (g16seq g16n1 ((g16seq g16n11 rfl).trans (g16seq g16n110 ((g16blk g16n1101).trans (g16e11010))))))]
  kernel_rfl
theorem s16_eq (x0 : V) (x1 : V) (st : St) : s16 [x0, x1] st = f16 x0 x1 st := by
  have h : afn Try.prog g16mu g16T big (areg Try.prog g16mu g16T) 16 [x0, x1] st = g16X (g16C []) g16kr (fun t => [x0, x1].getD t (.tup [])) st := by kernel_rfl
  rw [s16, sealF_eq]
  exact h.trans (g16er _ st)
/-! sinew/sinewlaw03.WireReads -/
def g3mu : Nat → Bool := fun _ => false
noncomputable def g3T : Tbl := tget [(10, s10), (11, s11), (12, s12), (13, s13), (14, s14), (15, s15), (16, s16)]
theorem g3t : SimT Try.prog g3T := simT_cons sim10 ( simT_cons sim11 ( simT_cons sim12 ( simT_cons sim13 ( simT_cons sim14 ( simT_cons sim15 ( simT_cons sim16 (simT_nil)))))))
noncomputable def s3 : Fn := sealF (afn Try.prog g3mu g3T big (areg Try.prog g3mu g3T) 3)
theorem sim3 : Sim Try.prog 3 s3 := (afn_sim g3t (fun m => areg_sound g3t hmix m) 3 (by kernel_rfl)).sealed
noncomputable def g3C (p : List Nat) : Code := sub (match Try.f3.body with | some c => c | none => .skip) p
noncomputable def g3X (c : Code) (K : Kon) : Env → St → Res := aexec Try.prog g3mu g3T big 65 (areg Try.prog g3mu g3T 65) c K
noncomputable def g3kr : Kon := aresK Try.prog Try.f3.results.toList
theorem g3reg {c : Code} {K : Kon} {G : Env → St → Res} {id : Nat} {ops : Array Oper} {l1 l2 : List Nat} (hc : c = .region id ops false) (hl : List.range ops.size = l1 ++ l2) (h : (fun env st => aops Try.prog g3mu g3T 65 ops l2 env st (K .normal)) = G) : g3X c K = fun env st => aops Try.prog g3mu g3T 65 ops l1 env st G := reg_cut hc hl h
theorem g3seq {c x y : Code} {K : Kon} {G : Env → St → Res} (hc : c = .seq x y) (hy : g3X y K = G) : g3X c K = g3X x (kSeq G K) := seq_cut hc hy
theorem g3blk {c x : Code} {K : Kon} {i : Nat} (hc : c = .block i x) : g3X c K = g3X x (kBlk i K) := blk_cut hc
theorem g3loop {c x : Code} {K : Kon} (hc : c = .loop x) : g3X c K = aloop (g3X x) K big := loop_cut hc
theorem g3cond {c x y : Code} {K : Kon} {v : Operand} {F G : Env → St → Res} (hc : c = .cond v x y) (hx : g3X x K = F) (hy : g3X y K = G) : g3X c K = condF v F G := cond_cut hc hx hy
noncomputable def g3k0 : Kon := kSeq (g3X (g3C [1, 1, 1, 1, 1, 1, 1]) (g3kr)) (g3kr)
noncomputable def g3b1111110_19 (x10 : V) (x12 : V) (x57 : V) (st : St) : Res :=
 A.guard x57 true
 (A.eql 2 false x10 x12 fun a1 =>
 A.guard a1 true
 (A.ret (s10 [] st) fun a2 z3 =>
 some (.ret a2.er1, z3))
 (some (.ret ((.bool false) : V).er1, st)))
 (some (.ret ((.bool false) : V).er1, st))
theorem g3e1111110_19 : (fun env st => aops Try.prog g3mu g3T 65 (rops (g3C [1, 1, 1, 1, 1, 1, 0])) [19, 20, 21, 22, 23, 24, 25, 26] env st ((g3k0) .normal)) = fun env st => g3b1111110_19 (env 10) (env 12) (env 57) st := by
  refine Eq.trans (Eq.refl _) ?_
  funext env st
  kernel_rfl
noncomputable def g3b1111110_9 (x5 : V) (x8 : V) (x9 : V) (x10 : V) (x11 : V) (x12 : V) (x47 : V) (st : St) : Res :=
 A.guard x47 true
 (A.eql 2 false x5 x8 fun a1 =>
 A.guard a1 true
 (A.ret (s16 [x9.er1, x11.er1] st) fun a2 z3 =>
 g3b1111110_19 x10 x12 a2 z3)
 (g3b1111110_19 x10 x12 (.bool false) st))
 (g3b1111110_19 x10 x12 (.bool false) st)
theorem g3e1111110_9 : (fun env st => aops Try.prog g3mu g3T 65 (rops (g3C [1, 1, 1, 1, 1, 1, 0])) [9, 10, 11, 12, 13, 14, 15, 16, 17, 18, 19, 20, 21, 22, 23, 24, 25, 26] env st ((g3k0) .normal)) = fun env st => g3b1111110_9 (env 5) (env 8) (env 9) (env 10) (env 11) (env 12) (env 47) st := by
  refine Eq.trans (ops_cut (l1 := [9, 10, 11, 12, 13, 14, 15, 16, 17, 18]) (l2 := [19, 20, 21, 22, 23, 24, 25, 26]) (g3e1111110_19)) ?_
  funext env st
  kernel_rfl
noncomputable def g3b11111 (x0 : V) (x3 : V) (x4 : V) (x5 : V) (x6 : V) (x7 : V) (x8 : V) (x9 : V) (x10 : V) (st : St) : Res :=
 A.ret (s14 [x0.er1] st) fun a1 z2 =>
 A.ext a1 0 fun a3 =>
 A.ext a1 1 fun a4 =>
 A.load true 4 x3 z2 fun a5 z6 =>
 A.load true 4 x6 z6 fun a7 z8 =>
 A.ret (s15 [a5.er1, a7.er1] z8) fun a9 z10 =>
 A.guard a9 true
 (A.eql 2 false x4 x7 fun a11 =>
 g3b1111110_9 x5 x8 x9 x10 a3 a4 a11 z10)
 (g3b1111110_9 x5 x8 x9 x10 a3 a4 (.bool false) z10)
theorem g3n11111 : g3C [1, 1, 1, 1, 1] = .seq (g3C [1, 1, 1, 1, 1, 0]) (g3C [1, 1, 1, 1, 1, 1]) := by kernel_rfl
theorem g3n111111 : g3C [1, 1, 1, 1, 1, 1] = .seq (g3C [1, 1, 1, 1, 1, 1, 0]) (g3C [1, 1, 1, 1, 1, 1, 1]) := by kernel_rfl
theorem g3rg1111110 : g3C [1, 1, 1, 1, 1, 1, 0] = .region 7 (rops (g3C [1, 1, 1, 1, 1, 1, 0])) false := by kernel_rfl
theorem g3rg1111110l : List.range (rops (g3C [1, 1, 1, 1, 1, 1, 0])).size = [0, 1, 2, 3, 4, 5, 6, 7, 8] ++ [9, 10, 11, 12, 13, 14, 15, 16, 17, 18, 19, 20, 21, 22, 23, 24, 25, 26] := by kernel_rfl
theorem g3e11111 : g3X (g3C [1, 1, 1, 1, 1]) (g3kr) = fun env st => g3b11111 (env 0) (env 3) (env 4) (env 5) (env 6) (env 7) (env 8) (env 9) (env 10) st := by
  refine Eq.trans (g3seq g3n11111 ((g3seq g3n111111 rfl).trans (g3reg g3rg1111110 g3rg1111110l (g3e1111110_9)))) ?_
  funext env st
  kernel_rfl
noncomputable def g3b111 (x0 : V) (x3 : V) (x4 : V) (x5 : V) (st : St) : Res :=
 A.ret (s12 [x0.er1] st) fun a1 z2 =>
 A.ext a1 0 fun a3 =>
 A.ext a1 1 fun a4 =>
 A.ext a1 2 fun a5 =>
 A.box (.agg [(.int .i64 0), (.lst [] 1), (.lst [] 1), (.lst [] 1)]) z2 fun a6 z7 =>
 A.store 4 a6 a3 z7 fun z8 =>
 A.ret (s13 [x0.er1] z8) fun a9 z10 =>
 A.ext a9 0 fun a11 =>
 A.ext a9 1 fun a12 =>
 g3b11111 x0 x3 x4 x5 a6 a4 a5 a11 a12 z10
theorem g3n111 : g3C [1, 1, 1] = .seq (g3C [1, 1, 1, 0]) (g3C [1, 1, 1, 1]) := by kernel_rfl
theorem g3n1111 : g3C [1, 1, 1, 1] = .seq (g3C [1, 1, 1, 1, 0]) (g3C [1, 1, 1, 1, 1]) := by kernel_rfl
theorem g3e111 : g3X (g3C [1, 1, 1]) (g3kr) = fun env st => g3b111 (env 0) (env 3) (env 4) (env 5) st := by
  refine Eq.trans (g3seq g3n111 (g3seq g3n1111 (g3e11111))) ?_
  funext env st
  kernel_rfl
noncomputable def f3 (x0 : V) (st : St) : Res :=
 A.lenS x0 fun a1 =>
 A.bin .gtr a1 (.int .i64 8192) fun a2 =>
 A.cond a2
 (A.ret (s10 [] st) fun a3 z4 =>
 some (.ret a3.er1, z4))
 (A.ret (s11 [x0.er1] st) fun a5 z6 =>
 A.ext a5 0 fun a7 =>
 A.ext a5 1 fun a8 =>
 A.ext a5 2 fun a9 =>
 A.box (.agg [(.int .i64 0), (.lst [] 1), (.lst [] 1), (.lst [] 1)]) z6 fun a10 z11 =>
 A.store 4 a10 a7 z11 fun z12 =>
 g3b111 x0 a10 a8 a9 z12)
theorem g3nr : g3C [] = .seq (g3C [0]) (g3C [1]) := by kernel_rfl
theorem g3n1 : g3C [1] = .seq (g3C [1, 0]) (g3C [1, 1]) := by kernel_rfl
theorem g3n11 : g3C [1, 1] = .seq (g3C [1, 1, 0]) (g3C [1, 1, 1]) := by kernel_rfl
theorem g3er (env : Env) (st : St) : g3X (g3C []) g3kr env st = f3 (env 0) st := by
  rw [(g3seq g3nr (g3seq g3n1 (g3seq g3n11 (g3e111))))]
  kernel_rfl
theorem s3_eq (x0 : V) (st : St) : s3 [x0] st = f3 x0 st := by
  have h : afn Try.prog g3mu g3T big (areg Try.prog g3mu g3T) 3 [x0] st = g3X (g3C []) g3kr (fun t => [x0].getD t (.tup [])) st := by kernel_rfl
  rw [s3, sealF_eq]
  exact h.trans (g3er _ st)
/-! sinew/sinewlaw03.light -/
def g17mu : Nat → Bool := fun _ => false
noncomputable def g17T : Tbl := tget []
theorem g17t : SimT Try.prog g17T := simT_nil
noncomputable def s17 : Fn := sealF (fun args st => fg (afn Try.prog g17mu g17T big (areg Try.prog g17mu g17T) 17 args st) st)
theorem sim17 : Sim Try.prog 17 s17 := (afn_sim g17t (fun m => areg_sound g17t hmix m) 17 (by kernel_rfl)).fg.sealed
noncomputable def g17C (p : List Nat) : Code := sub (match Try.f17.body with | some c => c | none => .skip) p
noncomputable def g17X (c : Code) (K : Kon) : Env → St → Res := aexec Try.prog g17mu g17T big 54 (areg Try.prog g17mu g17T 54) c K
noncomputable def g17kr : Kon := aresK Try.prog Try.f17.results.toList
theorem g17reg {c : Code} {K : Kon} {G : Env → St → Res} {id : Nat} {ops : Array Oper} {l1 l2 : List Nat} (hc : c = .region id ops false) (hl : List.range ops.size = l1 ++ l2) (h : (fun env st => aops Try.prog g17mu g17T 54 ops l2 env st (K .normal)) = G) : g17X c K = fun env st => aops Try.prog g17mu g17T 54 ops l1 env st G := reg_cut hc hl h
theorem g17seq {c x y : Code} {K : Kon} {G : Env → St → Res} (hc : c = .seq x y) (hy : g17X y K = G) : g17X c K = g17X x (kSeq G K) := seq_cut hc hy
theorem g17blk {c x : Code} {K : Kon} {i : Nat} (hc : c = .block i x) : g17X c K = g17X x (kBlk i K) := blk_cut hc
theorem g17loop {c x : Code} {K : Kon} (hc : c = .loop x) : g17X c K = aloop (g17X x) K big := loop_cut hc
theorem g17cond {c x y : Code} {K : Kon} {v : Operand} {F G : Env → St → Res} (hc : c = .cond v x y) (hx : g17X x K = F) (hy : g17X y K = G) : g17X c K = condF v F G := cond_cut hc hx hy
noncomputable def g17k0 : Kon := kSeq (g17X (g17C [1, 1, 1, 1]) (g17kr)) (g17kr)
noncomputable def g17k1 : Kon := kBlk 2 (g17k0)
noncomputable def g17k2 (L111010 : V → V → V → St → Res) : Kon := kSeq (fun env st => L111010 (env 1) (env 3) (env 5) st) (g17k1)
noncomputable def g17k3 (L111010 : V → V → V → St → Res) : Kon := kSeq (g17X (g17C [1, 1, 1, 0, 1, 0, 0, 1, 1]) (g17k2 L111010)) (g17k2 L111010)
noncomputable def g17k4 (L111010 : V → V → V → St → Res) : Kon := kBlk 3 (g17k3 L111010)
noncomputable def g17k5 (L111010 : V → V → V → St → Res) : Kon := kBlk 4 (g17k4 L111010)
noncomputable def g17b111010010010 (L111010 : V → V → V → St → Res) : Nat → V → V → V → V → St → Res
| 0, _, _, _, _, _ => none
| n + 1, x1, x3, x5, x6, st =>
 A.faddr 3 x1 fun a1 =>
 A.load false 1 a1 st fun a2 z3 =>
 A.iaddr 1 a2 x5 fun a4 =>
 A.load false 1 a4 z3 fun a5 z6 =>
 A.lenL a5 fun a7 =>
 A.bin .lss x6 a7 fun a8 =>
 A.cond a8
 (A.faddr 3 x1 fun a9 =>
 A.load false 1 a9 z6 fun a10 z11 =>
 A.iaddr 1 a10 x5 fun a12 =>
 A.load false 1 a12 z11 fun a13 z14 =>
 A.iaddr 1 a13 x6 fun a15 =>
 A.load false 1 a15 z14 fun a16 z17 =>
 A.lenS a16 fun a18 =>
 A.min a18 (.int .i64 131072) fun a19 =>
 A.bin .add x3 a19 fun a20 =>
 A.bin .add x6 (.int .i64 1) fun a21 =>
 (g17b111010010010 L111010 n) x1 a20 x5 a21 z17)
 (A.bin .add x5 (.int .i64 1) fun a22 =>
 L111010 x1 x3 a22 z6)
theorem g17n111010010010 : g17C [1, 1, 1, 0, 1, 0, 0, 1, 0, 0, 1, 0] = .loop (g17C [1, 1, 1, 0, 1, 0, 0, 1, 0, 0, 1, 0, 0]) := by kernel_rfl
noncomputable def g17k6 (L111010 : V → V → V → St → Res) (L111010010010 : V → V → V → V → St → Res) : Kon := kSeq (fun env st => L111010010010 (env 1) (env 3) (env 5) (env 6) st) (g17k5 L111010)
theorem g17e111010010010 (L111010 : V → V → V → St → Res) : g17X (g17C [1, 1, 1, 0, 1, 0, 0, 1, 0, 0, 1, 0]) (g17k5 L111010) = fun env st => g17b111010010010 L111010 big (env 1) (env 3) (env 5) (env 6) st := by
  have key : ∀ n, aloop (g17X (g17C [1, 1, 1, 0, 1, 0, 0, 1, 0, 0, 1, 0, 0])) (g17k5 L111010) n = fun env st => g17b111010010010 L111010 n (env 1) (env 3) (env 5) (env 6) st := by
    intro n
    induction n with
    | zero => rfl
    | succ n ih =>
      have h : aloop (g17X (g17C [1, 1, 1, 0, 1, 0, 0, 1, 0, 0, 1, 0, 0])) (g17k5 L111010) (n + 1) = g17X (g17C [1, 1, 1, 0, 1, 0, 0, 1, 0, 0, 1, 0, 0]) (kSeq (aloop (g17X (g17C [1, 1, 1, 0, 1, 0, 0, 1, 0, 0, 1, 0, 0])) (g17k5 L111010) n) (g17k5 L111010)) := rfl
      rw [h, ih]
      refine Eq.trans (Eq.refl _) ?_
      funext env st
      kernel_rfl
  exact (g17loop g17n111010010010).trans (key big)
noncomputable def g17b111010 : Nat → V → V → V → St → Res
| 0, _, _, _, _ => none
| n + 1, x1, x3, x5, st =>
 A.faddr 3 x1 fun a1 =>
 A.load false 1 a1 st fun a2 z3 =>
 A.lenL a2 fun a4 =>
 A.bin .lss x5 a4 fun a5 =>
 A.cond a5
 (g17b111010010010 (g17b111010 n) big x1 x3 x5 (.int .i64 0) z3)
 (A.bin .leq x3 (.int .i64 8192) fun a6 =>
 some (.ret a6.er1, z3))
theorem g17n111010 : g17C [1, 1, 1, 0, 1, 0] = .loop (g17C [1, 1, 1, 0, 1, 0, 0]) := by kernel_rfl
theorem g17n1110100 : g17C [1, 1, 1, 0, 1, 0, 0] = .seq (g17C [1, 1, 1, 0, 1, 0, 0, 0]) (g17C [1, 1, 1, 0, 1, 0, 0, 1]) := by kernel_rfl
theorem g17n11101001 : g17C [1, 1, 1, 0, 1, 0, 0, 1] = .seq (g17C [1, 1, 1, 0, 1, 0, 0, 1, 0]) (g17C [1, 1, 1, 0, 1, 0, 0, 1, 1]) := by kernel_rfl
theorem g17n111010010 : g17C [1, 1, 1, 0, 1, 0, 0, 1, 0] = .block 3 (g17C [1, 1, 1, 0, 1, 0, 0, 1, 0, 0]) := by kernel_rfl
theorem g17n1110100100 : g17C [1, 1, 1, 0, 1, 0, 0, 1, 0, 0] = .seq (g17C [1, 1, 1, 0, 1, 0, 0, 1, 0, 0, 0]) (g17C [1, 1, 1, 0, 1, 0, 0, 1, 0, 0, 1]) := by kernel_rfl
theorem g17n11101001001 : g17C [1, 1, 1, 0, 1, 0, 0, 1, 0, 0, 1] = .block 4 (g17C [1, 1, 1, 0, 1, 0, 0, 1, 0, 0, 1, 0]) := by kernel_rfl
theorem g17e111010 : g17X (g17C [1, 1, 1, 0, 1, 0]) (g17k1) = fun env st => g17b111010 big (env 1) (env 3) (env 5) st := by
  have key : ∀ n, aloop (g17X (g17C [1, 1, 1, 0, 1, 0, 0])) (g17k1) n = fun env st => g17b111010 n (env 1) (env 3) (env 5) st := by
    intro n
    induction n with
    | zero => rfl
    | succ n ih =>
      have h : aloop (g17X (g17C [1, 1, 1, 0, 1, 0, 0])) (g17k1) (n + 1) = g17X (g17C [1, 1, 1, 0, 1, 0, 0]) (kSeq (aloop (g17X (g17C [1, 1, 1, 0, 1, 0, 0])) (g17k1) n) (g17k1)) := rfl
      rw [h, ih]
      refine Eq.trans (g17seq g17n1110100 ((g17seq g17n11101001 rfl).trans ((g17blk g17n111010010).trans (g17seq g17n1110100100 ((g17blk g17n11101001001).trans (g17e111010010010 (g17b111010 n))))))) ?_
      funext env st
      kernel_rfl
  exact (g17loop g17n111010).trans (key big)
noncomputable def g17b111 (x1 : V) (x3 : V) (st : St) : Res :=
 g17b111010 big x1 x3 (.int .i64 0) st
theorem g17n111 : g17C [1, 1, 1] = .seq (g17C [1, 1, 1, 0]) (g17C [1, 1, 1, 1]) := by kernel_rfl
theorem g17n1110 : g17C [1, 1, 1, 0] = .seq (g17C [1, 1, 1, 0, 0]) (g17C [1, 1, 1, 0, 1]) := by kernel_rfl
theorem g17n11101 : g17C [1, 1, 1, 0, 1] = .block 2 (g17C [1, 1, 1, 0, 1, 0]) := by kernel_rfl
theorem g17e111 : g17X (g17C [1, 1, 1]) (g17kr) = fun env st => g17b111 (env 1) (env 3) st := by
  refine Eq.trans ((g17seq g17n111 rfl).trans (g17seq g17n1110 ((g17blk g17n11101).trans (g17e111010)))) ?_
  funext env st
  kernel_rfl
noncomputable def g17k7 : Kon := kSeq (fun env st => g17b111 (env 1) (env 3) st) (g17kr)
noncomputable def g17k8 : Kon := kBlk 0 (g17k7)
noncomputable def g17b11010 : Nat → V → V → V → St → Res
| 0, _, _, _, _ => none
| n + 1, x1, x3, x4, st =>
 A.faddr 2 x1 fun a1 =>
 A.load false 1 a1 st fun a2 z3 =>
 A.lenL a2 fun a4 =>
 A.bin .lss x4 a4 fun a5 =>
 A.cond a5
 (A.faddr 2 x1 fun a6 =>
 A.load false 1 a6 z3 fun a7 z8 =>
 A.iaddr 1 a7 x4 fun a9 =>
 A.load false 1 a9 z8 fun a10 z11 =>
 A.lenS a10 fun a12 =>
 A.min a12 (.int .i64 131072) fun a13 =>
 A.bin .add x3 a13 fun a14 =>
 A.bin .add x4 (.int .i64 1) fun a15 =>
 (g17b11010 n) x1 a14 a15 z11)
 (g17b111 x1 x3 z3)
theorem g17n11010 : g17C [1, 1, 0, 1, 0] = .loop (g17C [1, 1, 0, 1, 0, 0]) := by kernel_rfl
noncomputable def g17k9 (L11010 : V → V → V → St → Res) : Kon := kSeq (fun env st => L11010 (env 1) (env 3) (env 4) st) (g17k8)
theorem g17e11010 : g17X (g17C [1, 1, 0, 1, 0]) (g17k8) = fun env st => g17b11010 big (env 1) (env 3) (env 4) st := by
  have key : ∀ n, aloop (g17X (g17C [1, 1, 0, 1, 0, 0])) (g17k8) n = fun env st => g17b11010 n (env 1) (env 3) (env 4) st := by
    intro n
    induction n with
    | zero => rfl
    | succ n ih =>
      have h : aloop (g17X (g17C [1, 1, 0, 1, 0, 0])) (g17k8) (n + 1) = g17X (g17C [1, 1, 0, 1, 0, 0]) (kSeq (aloop (g17X (g17C [1, 1, 0, 1, 0, 0])) (g17k8) n) (g17k8)) := rfl
      rw [h, ih]
      refine Eq.trans (Eq.refl _) ?_
      funext env st
      kernel_rfl
  exact (g17loop g17n11010).trans (key big)
noncomputable def f17 (x0 : V) (st : St) : Res :=
 A.box x0 st fun a1 z2 =>
 g17b11010 big a1 (.int .i64 0) (.int .i64 0) z2
theorem g17nr : g17C [] = .seq (g17C [0]) (g17C [1]) := by kernel_rfl
theorem g17n1 : g17C [1] = .seq (g17C [1, 0]) (g17C [1, 1]) := by kernel_rfl
theorem g17n11 : g17C [1, 1] = .seq (g17C [1, 1, 0]) (g17C [1, 1, 1]) := by kernel_rfl
theorem g17n110 : g17C [1, 1, 0] = .seq (g17C [1, 1, 0, 0]) (g17C [1, 1, 0, 1]) := by kernel_rfl
theorem g17n1101 : g17C [1, 1, 0, 1] = .block 0 (g17C [1, 1, 0, 1, 0]) := by kernel_rfl
theorem g17er (env : Env) (st : St) : g17X (g17C []) g17kr env st = f17 (env 0) st := by
  rw [(g17seq g17nr (g17seq g17n1 ((g17seq g17n11 (g17e111)).trans (g17seq g17n110 ((g17blk g17n1101).trans (g17e11010))))))]
  kernel_rfl
theorem s17_eq (x0 : V) (st : St) : s17 [x0] st = fg (f17 x0 st) st := by
  have h : afn Try.prog g17mu g17T big (areg Try.prog g17mu g17T) 17 [x0] st = g17X (g17C []) g17kr (fun t => [x0].getD t (.tup [])) st := by kernel_rfl
  rw [s17, sealF_eq]
  show fg _ st = fg _ st
  refine congrArg (fun r => fg r st) ?_
  exact h.trans (g17er _ st)
/-! sinew/sinewlaw03.WireCuts -/
def g4mu : Nat → Bool := fun _ => false
noncomputable def g4T : Tbl := tget [(10, s10), (13, s13), (16, s16), (17, s17), (18, s18)]
theorem g4t : SimT Try.prog g4T := simT_cons sim10 ( simT_cons sim13 ( simT_cons sim16 ( simT_cons sim17 ( simT_cons sim18 (simT_nil)))))
noncomputable def s4 : Fn := sealF (afn Try.prog g4mu g4T big (areg Try.prog g4mu g4T) 4)
theorem sim4 : Sim Try.prog 4 s4 := (afn_sim g4t (fun m => areg_sound g4t hmix m) 4 (by kernel_rfl)).sealed
noncomputable def g4C (p : List Nat) : Code := sub (match Try.f4.body with | some c => c | none => .skip) p
noncomputable def g4X (c : Code) (K : Kon) : Env → St → Res := aexec Try.prog g4mu g4T big 102 (areg Try.prog g4mu g4T 102) c K
noncomputable def g4kr : Kon := aresK Try.prog Try.f4.results.toList
theorem g4reg {c : Code} {K : Kon} {G : Env → St → Res} {id : Nat} {ops : Array Oper} {l1 l2 : List Nat} (hc : c = .region id ops false) (hl : List.range ops.size = l1 ++ l2) (h : (fun env st => aops Try.prog g4mu g4T 102 ops l2 env st (K .normal)) = G) : g4X c K = fun env st => aops Try.prog g4mu g4T 102 ops l1 env st G := reg_cut hc hl h
theorem g4seq {c x y : Code} {K : Kon} {G : Env → St → Res} (hc : c = .seq x y) (hy : g4X y K = G) : g4X c K = g4X x (kSeq G K) := seq_cut hc hy
theorem g4blk {c x : Code} {K : Kon} {i : Nat} (hc : c = .block i x) : g4X c K = g4X x (kBlk i K) := blk_cut hc
theorem g4loop {c x : Code} {K : Kon} (hc : c = .loop x) : g4X c K = aloop (g4X x) K big := loop_cut hc
theorem g4cond {c x y : Code} {K : Kon} {v : Operand} {F G : Env → St → Res} (hc : c = .cond v x y) (hx : g4X x K = F) (hy : g4X y K = G) : g4X c K = condF v F G := cond_cut hc hx hy
noncomputable def g4k0 : Kon := kSeq (g4X (g4C [1, 1, 1, 1, 1, 1, 1, 1, 1]) (g4kr)) (g4kr)
noncomputable def g4k1 : Kon := kBlk 2 (g4k0)
noncomputable def g4k2 (L1111111100 : V → V → V → V → V → V → V → St → Res) : Kon := kSeq (fun env st => L1111111100 (env 6) (env 7) (env 11) (env 12) (env 13) (env 14) (env 15) st) (g4k1)
noncomputable def g4b111111110001 (L1111111100 : V → V → V → V → V → V → V → St → Res) (x6 : V) (x7 : V) (x11 : V) (x12 : V) (x13 : V) (x14 : V) (st : St) : Res :=
 A.iaddr 1 x6 x14 fun a1 =>
 A.load false 1 a1 st fun a2 z3 =>
 A.bin .add x14 (.int .i64 1) fun a4 =>
 L1111111100 x6 x7 x11 x12 x13 a4 a2 z3
theorem g4e111111110001 (L1111111100 : V → V → V → V → V → V → V → St → Res) : g4X (g4C [1, 1, 1, 1, 1, 1, 1, 1, 0, 0, 0, 1]) (g4k2 L1111111100) = fun env st => g4b111111110001 L1111111100 (env 6) (env 7) (env 11) (env 12) (env 13) (env 14) st := by
  refine Eq.trans (Eq.refl (g4X (g4C [1, 1, 1, 1, 1, 1, 1, 1, 0, 0, 0, 1]) (g4k2 L1111111100))) ?_
  funext env st
  kernel_rfl
noncomputable def g4b1111111100 : Nat → V → V → V → V → V → V → V → St → Res
| 0, _, _, _, _, _, _, _, _ => none
| n + 1, x6, x7, x11, x12, x13, x14, x15, st =>
 A.lenL x6 fun a1 =>
 A.bin .lss x14 a1 fun a2 =>
 A.guard a2 true
 (A.iaddr 1 x6 x14 fun a3 =>
 A.load false 1 a3 st fun a4 z5 =>
 A.bin .leq a4 x11 fun a6 =>
 A.cond a6
 (g4b111111110001 (g4b1111111100 n) x6 x7 x11 x12 x13 x14 z5)
 (A.eql 2 false x13 x15 fun a7 =>
 A.guard a7 true
 (A.slice 4 x7 none (some x14) none fun a8 =>
 A.ret (s16 [x12.er1, a8.er1] z5) fun a9 z10 =>
 A.guard a9 true
 (A.ret (s10 [] z10) fun a11 z12 =>
 some (.ret a11.er1, z12))
 (some (.ret ((.bool false) : V).er1, z10)))
 (some (.ret ((.bool false) : V).er1, z5))))
 (A.eql 2 false x13 x15 fun a13 =>
 A.guard a13 true
 (A.slice 4 x7 none (some x14) none fun a14 =>
 A.ret (s16 [x12.er1, a14.er1] st) fun a15 z16 =>
 A.guard a15 true
 (A.ret (s10 [] z16) fun a17 z18 =>
 some (.ret a17.er1, z18))
 (some (.ret ((.bool false) : V).er1, z16)))
 (some (.ret ((.bool false) : V).er1, st)))
theorem g4n1111111100 : g4C [1, 1, 1, 1, 1, 1, 1, 1, 0, 0] = .loop (g4C [1, 1, 1, 1, 1, 1, 1, 1, 0, 0, 0]) := by kernel_rfl
theorem g4n11111111000 : g4C [1, 1, 1, 1, 1, 1, 1, 1, 0, 0, 0] = .seq (g4C [1, 1, 1, 1, 1, 1, 1, 1, 0, 0, 0, 0]) (g4C [1, 1, 1, 1, 1, 1, 1, 1, 0, 0, 0, 1]) := by kernel_rfl
theorem g4e1111111100 : g4X (g4C [1, 1, 1, 1, 1, 1, 1, 1, 0, 0]) (g4k1) = fun env st => g4b1111111100 big (env 6) (env 7) (env 11) (env 12) (env 13) (env 14) (env 15) st := by
  have key : ∀ n, aloop (g4X (g4C [1, 1, 1, 1, 1, 1, 1, 1, 0, 0, 0])) (g4k1) n = fun env st => g4b1111111100 n (env 6) (env 7) (env 11) (env 12) (env 13) (env 14) (env 15) st := by
    intro n
    induction n with
    | zero => rfl
    | succ n ih =>
      have h : aloop (g4X (g4C [1, 1, 1, 1, 1, 1, 1, 1, 0, 0, 0])) (g4k1) (n + 1) = g4X (g4C [1, 1, 1, 1, 1, 1, 1, 1, 0, 0, 0]) (kSeq (aloop (g4X (g4C [1, 1, 1, 1, 1, 1, 1, 1, 0, 0, 0])) (g4k1) n) (g4k1)) := rfl
      rw [h, ih]
      refine Eq.trans (g4seq g4n11111111000 (g4e111111110001 (g4b1111111100 n))) ?_
      funext env st
      kernel_rfl
  exact (g4loop g4n1111111100).trans (key big)
noncomputable def g4b1111111 (x6 : V) (x7 : V) (x11 : V) (x12 : V) (x13 : V) (st : St) : Res :=
 g4b1111111100 big x6 x7 x11 x12 x13 (.int .i64 0) (.int .i64 0) st
theorem g4n1111111 : g4C [1, 1, 1, 1, 1, 1, 1] = .seq (g4C [1, 1, 1, 1, 1, 1, 1, 0]) (g4C [1, 1, 1, 1, 1, 1, 1, 1]) := by kernel_rfl
theorem g4n11111111 : g4C [1, 1, 1, 1, 1, 1, 1, 1] = .seq (g4C [1, 1, 1, 1, 1, 1, 1, 1, 0]) (g4C [1, 1, 1, 1, 1, 1, 1, 1, 1]) := by kernel_rfl
theorem g4n111111110 : g4C [1, 1, 1, 1, 1, 1, 1, 1, 0] = .block 2 (g4C [1, 1, 1, 1, 1, 1, 1, 1, 0, 0]) := by kernel_rfl
theorem g4e1111111 : g4X (g4C [1, 1, 1, 1, 1, 1, 1]) (g4kr) = fun env st => g4b1111111 (env 6) (env 7) (env 11) (env 12) (env 13) st := by
  refine Eq.trans (g4seq g4n1111111 ((g4seq g4n11111111 rfl).trans ((g4blk g4n111111110).trans (g4e1111111100)))) ?_
  funext env st
  kernel_rfl
noncomputable def g4b11111 (x1 : V) (x5 : V) (x6 : V) (x7 : V) (st : St) : Res :=
 A.bin .and x1 (.int .i64 1048575) fun a1 =>
 A.lenS x5 fun a2 =>
 A.bin .add a2 (.int .i64 1) fun a3 =>
 A.bin .rem a1 a3 fun a4 =>
 A.sliceS x5 none (some a4) fun a5 =>
 A.ret (s13 [a5.er1] st) fun a6 z7 =>
 A.ext a6 0 fun a8 =>
 A.ext a6 1 fun a9 =>
 g4b1111111 x6 x7 a4 a8 a9 z7
theorem g4n11111 : g4C [1, 1, 1, 1, 1] = .seq (g4C [1, 1, 1, 1, 1, 0]) (g4C [1, 1, 1, 1, 1, 1]) := by kernel_rfl
theorem g4n111111 : g4C [1, 1, 1, 1, 1, 1] = .seq (g4C [1, 1, 1, 1, 1, 1, 0]) (g4C [1, 1, 1, 1, 1, 1, 1]) := by kernel_rfl
theorem g4e11111 : g4X (g4C [1, 1, 1, 1, 1]) (g4kr) = fun env st => g4b11111 (env 1) (env 5) (env 6) (env 7) st := by
  refine Eq.trans (g4seq g4n11111 (g4seq g4n111111 (g4e1111111))) ?_
  funext env st
  kernel_rfl
noncomputable def g4k3 : Kon := kSeq (fun env st => g4b11111 (env 1) (env 5) (env 6) (env 7) st) (g4kr)
noncomputable def g4k4 : Kon := kBlk 0 (g4k3)
noncomputable def g4k5 (L1111010 : V → V → V → V → V → V → St → Res) : Kon := kSeq (fun env st => L1111010 (env 0) (env 1) (env 5) (env 6) (env 7) (env 8) st) (g4k4)
noncomputable def g4k6 (L1111010 : V → V → V → V → V → V → St → Res) : Kon := kSeq (g4X (g4C [1, 1, 1, 1, 0, 1, 0, 0, 1, 1]) (g4k5 L1111010)) (g4k5 L1111010)
noncomputable def g4k7 (L1111010 : V → V → V → V → V → V → St → Res) : Kon := kBlk 1 (g4k6 L1111010)
noncomputable def g4b11110100100111011 (L1111010 : V → V → V → V → V → V → St → Res) (x0 : V) (x1 : V) (x5 : V) (x6 : V) (x7 : V) (x8 : V) (st : St) : Res :=
 A.iaddr 4 x0 x8 fun a1 =>
 A.load true 4 a1 st fun a2 z3 =>
 A.bslice 4 (.agg [(.int .i64 0), (.lst [] 1), (.lst [] 1), (.lst [] 1)]) 1 [(0, a2)] fun a4 =>
 A.app 4 x7 (elemsOf 5 4 a4 z3) z3 fun a5 z6 =>
 A.bin .add x8 (.int .i64 1) fun a7 =>
 L1111010 x0 x1 x5 x6 a5 a7 z6
theorem g4e11110100100111011 (L1111010 : V → V → V → V → V → V → St → Res) : g4X (g4C [1, 1, 1, 1, 0, 1, 0, 0, 1, 0, 0, 1, 1, 1, 0, 1, 1]) (g4k7 L1111010) = fun env st => g4b11110100100111011 L1111010 (env 0) (env 1) (env 5) (env 6) (env 7) (env 8) st := by
  refine Eq.trans (Eq.refl (g4X (g4C [1, 1, 1, 1, 0, 1, 0, 0, 1, 0, 0, 1, 1, 1, 0, 1, 1]) (g4k7 L1111010))) ?_
  funext env st
  kernel_rfl
noncomputable def g4b1111010010011 (L1111010 : V → V → V → V → V → V → St → Res) (x0 : V) (x1 : V) (x5 : V) (x6 : V) (x7 : V) (x8 : V) (x9 : V) (x10 : V) (st : St) : Res :=
 A.eql 2 false x10 (.int .i64 0) fun a1 =>
 A.cond a1
 (A.bin .add x5 x9 fun a2 =>
 A.lenS a2 fun a3 =>
 A.bslice 1 (.int .i64 0) 1 [(0, a3)] fun a4 =>
 A.app 1 x6 (elemsOf 5 1 a4 st) st fun a5 z6 =>
 g4b11110100100111011 L1111010 x0 x1 a2 a5 x7 x8 z6)
 (A.bin .add x8 (.int .i64 1) fun a7 =>
 L1111010 x0 x1 x5 x6 x7 a7 st)
theorem g4n1111010010011 : g4C [1, 1, 1, 1, 0, 1, 0, 0, 1, 0, 0, 1, 1] = .seq (g4C [1, 1, 1, 1, 0, 1, 0, 0, 1, 0, 0, 1, 1, 0]) (g4C [1, 1, 1, 1, 0, 1, 0, 0, 1, 0, 0, 1, 1, 1]) := by kernel_rfl
theorem g4n11110100100111 : g4C [1, 1, 1, 1, 0, 1, 0, 0, 1, 0, 0, 1, 1, 1] = .cond (.tmp 42) (g4C [1, 1, 1, 1, 0, 1, 0, 0, 1, 0, 0, 1, 1, 1, 0]) (g4C [1, 1, 1, 1, 0, 1, 0, 0, 1, 0, 0, 1, 1, 1, 1]) := by kernel_rfl
theorem g4n111101001001110 : g4C [1, 1, 1, 1, 0, 1, 0, 0, 1, 0, 0, 1, 1, 1, 0] = .seq (g4C [1, 1, 1, 1, 0, 1, 0, 0, 1, 0, 0, 1, 1, 1, 0, 0]) (g4C [1, 1, 1, 1, 0, 1, 0, 0, 1, 0, 0, 1, 1, 1, 0, 1]) := by kernel_rfl
theorem g4n1111010010011101 : g4C [1, 1, 1, 1, 0, 1, 0, 0, 1, 0, 0, 1, 1, 1, 0, 1] = .seq (g4C [1, 1, 1, 1, 0, 1, 0, 0, 1, 0, 0, 1, 1, 1, 0, 1, 0]) (g4C [1, 1, 1, 1, 0, 1, 0, 0, 1, 0, 0, 1, 1, 1, 0, 1, 1]) := by kernel_rfl
theorem g4e1111010010011 (L1111010 : V → V → V → V → V → V → St → Res) : g4X (g4C [1, 1, 1, 1, 0, 1, 0, 0, 1, 0, 0, 1, 1]) (g4k7 L1111010) = fun env st => g4b1111010010011 L1111010 (env 0) (env 1) (env 5) (env 6) (env 7) (env 8) (env 9) (env 10) st := by
  refine Eq.trans (g4seq g4n1111010010011 (g4cond g4n11110100100111 (g4seq g4n111101001001110 (g4seq g4n1111010010011101 (g4e11110100100111011 L1111010))) rfl)) ?_
  funext env st
  kernel_rfl
noncomputable def g4b111101001 (L1111010 : V → V → V → V → V → V → St → Res) (x0 : V) (x1 : V) (x5 : V) (x6 : V) (x7 : V) (x8 : V) (st : St) : Res :=
 A.iaddr 4 x0 x8 fun a1 =>
 A.load true 4 a1 st fun a2 z3 =>
 A.ret (s17 [a2.er1] z3) fun a4 z5 =>
 A.un .not a4 fun a6 =>
 A.cond a6
 (A.ret (s10 [] z5) fun a7 z8 =>
 some (.ret a7.er1, z8))
 (A.iaddr 4 x0 x8 fun a9 =>
 A.load true 4 a9 z5 fun a10 z11 =>
 A.ret (s18 [a10.er1] z11) fun a12 z13 =>
 A.ext a12 0 fun a14 =>
 A.ext a12 1 fun a15 =>
 g4b1111010010011 L1111010 x0 x1 x5 x6 x7 x8 a14 a15 z13)
theorem g4n111101001 : g4C [1, 1, 1, 1, 0, 1, 0, 0, 1] = .seq (g4C [1, 1, 1, 1, 0, 1, 0, 0, 1, 0]) (g4C [1, 1, 1, 1, 0, 1, 0, 0, 1, 1]) := by kernel_rfl
theorem g4n1111010010 : g4C [1, 1, 1, 1, 0, 1, 0, 0, 1, 0] = .block 1 (g4C [1, 1, 1, 1, 0, 1, 0, 0, 1, 0, 0]) := by kernel_rfl
theorem g4n11110100100 : g4C [1, 1, 1, 1, 0, 1, 0, 0, 1, 0, 0] = .seq (g4C [1, 1, 1, 1, 0, 1, 0, 0, 1, 0, 0, 0]) (g4C [1, 1, 1, 1, 0, 1, 0, 0, 1, 0, 0, 1]) := by kernel_rfl
theorem g4n111101001001 : g4C [1, 1, 1, 1, 0, 1, 0, 0, 1, 0, 0, 1] = .seq (g4C [1, 1, 1, 1, 0, 1, 0, 0, 1, 0, 0, 1, 0]) (g4C [1, 1, 1, 1, 0, 1, 0, 0, 1, 0, 0, 1, 1]) := by kernel_rfl
theorem g4e111101001 (L1111010 : V → V → V → V → V → V → St → Res) : g4X (g4C [1, 1, 1, 1, 0, 1, 0, 0, 1]) (g4k5 L1111010) = fun env st => g4b111101001 L1111010 (env 0) (env 1) (env 5) (env 6) (env 7) (env 8) st := by
  refine Eq.trans ((g4seq g4n111101001 rfl).trans ((g4blk g4n1111010010).trans (g4seq g4n11110100100 (g4seq g4n111101001001 (g4e1111010010011 L1111010))))) ?_
  funext env st
  kernel_rfl
noncomputable def g4b1111010 : Nat → V → V → V → V → V → V → St → Res
| 0, _, _, _, _, _, _, _ => none
| n + 1, x0, x1, x5, x6, x7, x8, st =>
 A.lenL x0 fun a1 =>
 A.bin .lss x8 a1 fun a2 =>
 A.guard a2 true
 (A.bin .lss x8 (.int .i64 12) fun a3 =>
 A.cond a3
 (g4b111101001 (g4b1111010 n) x0 x1 x5 x6 x7 x8 st)
 (g4b11111 x1 x5 x6 x7 st))
 (g4b11111 x1 x5 x6 x7 st)
theorem g4n1111010 : g4C [1, 1, 1, 1, 0, 1, 0] = .loop (g4C [1, 1, 1, 1, 0, 1, 0, 0]) := by kernel_rfl
theorem g4n11110100 : g4C [1, 1, 1, 1, 0, 1, 0, 0] = .seq (g4C [1, 1, 1, 1, 0, 1, 0, 0, 0]) (g4C [1, 1, 1, 1, 0, 1, 0, 0, 1]) := by kernel_rfl
theorem g4e1111010 : g4X (g4C [1, 1, 1, 1, 0, 1, 0]) (g4k4) = fun env st => g4b1111010 big (env 0) (env 1) (env 5) (env 6) (env 7) (env 8) st := by
  have key : ∀ n, aloop (g4X (g4C [1, 1, 1, 1, 0, 1, 0, 0])) (g4k4) n = fun env st => g4b1111010 n (env 0) (env 1) (env 5) (env 6) (env 7) (env 8) st := by
    intro n
    induction n with
    | zero => rfl
    | succ n ih =>
      have h : aloop (g4X (g4C [1, 1, 1, 1, 0, 1, 0, 0])) (g4k4) (n + 1) = g4X (g4C [1, 1, 1, 1, 0, 1, 0, 0]) (kSeq (aloop (g4X (g4C [1, 1, 1, 1, 0, 1, 0, 0])) (g4k4) n) (g4k4)) := rfl
      rw [h, ih]
      refine Eq.trans (g4seq g4n11110100 (g4e111101001 (g4b1111010 n))) ?_
      funext env st
      kernel_rfl
  exact (g4loop g4n1111010).trans (key big)
noncomputable def f4 (x0 : V) (x1 : V) (st : St) : Res :=
 g4b1111010 big x0 x1 (.str []) (.lst [] 1) (.lst [] 1) (.int .i64 0) st
theorem g4nr : g4C [] = .seq (g4C [0]) (g4C [1]) := by kernel_rfl
theorem g4n1 : g4C [1] = .seq (g4C [1, 0]) (g4C [1, 1]) := by kernel_rfl
theorem g4n11 : g4C [1, 1] = .seq (g4C [1, 1, 0]) (g4C [1, 1, 1]) := by kernel_rfl
theorem g4n111 : g4C [1, 1, 1] = .seq (g4C [1, 1, 1, 0]) (g4C [1, 1, 1, 1]) := by kernel_rfl
theorem g4n1111 : g4C [1, 1, 1, 1] = .seq (g4C [1, 1, 1, 1, 0]) (g4C [1, 1, 1, 1, 1]) := by kernel_rfl
theorem g4n11110 : g4C [1, 1, 1, 1, 0] = .seq (g4C [1, 1, 1, 1, 0, 0]) (g4C [1, 1, 1, 1, 0, 1]) := by kernel_rfl
theorem g4n111101 : g4C [1, 1, 1, 1, 0, 1] = .block 0 (g4C [1, 1, 1, 1, 0, 1, 0]) := by kernel_rfl
theorem g4er (env : Env) (st : St) : g4X (g4C []) g4kr env st = f4 (env 0) (env 1) st := by
  rw [(g4seq g4nr (g4seq g4n1 (g4seq g4n11 (g4seq g4n111 ((g4seq g4n1111 (g4e11111)).trans (g4seq g4n11110 ((g4blk g4n111101).trans (g4e1111010))))))))]
  kernel_rfl
theorem s4_eq (x0 : V) (x1 : V) (st : St) : s4 [x0, x1] st = f4 x0 x1 st := by
  have h : afn Try.prog g4mu g4T big (areg Try.prog g4mu g4T) 4 [x0, x1] st = g4X (g4C []) g4kr (fun t => [x0, x1].getD t (.tup [])) st := by kernel_rfl
  rw [s4, sealF_eq]
  exact h.trans (g4er _ st)
/-! sinew/sinewlaw03.WireTells -/
def g5mu : Nat → Bool := fun i => Nat.beq i 42
noncomputable def g5T : Tbl := tget [(10, s10), (11, s11), (15, s15), (17, s17), (18, s18)]
theorem g5t : SimT Try.prog g5T := simT_cons sim10 ( simT_cons sim11 ( simT_cons sim15 ( simT_cons sim17 ( simT_cons sim18 (simT_nil)))))
noncomputable def s5 : Fn := sealF (afn Try.prog g5mu g5T big (areg Try.prog g5mu g5T) 5)
theorem sim5 : Sim Try.prog 5 s5 := (afn_sim g5t (fun m => areg_sound g5t hmix m) 5 (by kernel_rfl)).sealed
noncomputable def g5C (p : List Nat) : Code := sub (match Try.f5.body with | some c => c | none => .skip) p
noncomputable def g5X (c : Code) (K : Kon) : Env → St → Res := aexec Try.prog g5mu g5T big 106 (areg Try.prog g5mu g5T 106) c K
noncomputable def g5kr : Kon := aresK Try.prog Try.f5.results.toList
theorem g5reg {c : Code} {K : Kon} {G : Env → St → Res} {id : Nat} {ops : Array Oper} {l1 l2 : List Nat} (hc : c = .region id ops false) (hl : List.range ops.size = l1 ++ l2) (h : (fun env st => aops Try.prog g5mu g5T 106 ops l2 env st (K .normal)) = G) : g5X c K = fun env st => aops Try.prog g5mu g5T 106 ops l1 env st G := reg_cut hc hl h
theorem g5seq {c x y : Code} {K : Kon} {G : Env → St → Res} (hc : c = .seq x y) (hy : g5X y K = G) : g5X c K = g5X x (kSeq G K) := seq_cut hc hy
theorem g5blk {c x : Code} {K : Kon} {i : Nat} (hc : c = .block i x) : g5X c K = g5X x (kBlk i K) := blk_cut hc
theorem g5loop {c x : Code} {K : Kon} (hc : c = .loop x) : g5X c K = aloop (g5X x) K big := loop_cut hc
theorem g5cond {c x y : Code} {K : Kon} {v : Operand} {F G : Env → St → Res} (hc : c = .cond v x y) (hx : g5X x K = F) (hy : g5X y K = G) : g5X c K = condF v F G := cond_cut hc hx hy
noncomputable def g5k0 : Kon := kSeq (g5X (g5C [1, 1, 1, 1, 1, 1, 1, 1, 1, 1]) (g5kr)) (g5kr)
noncomputable def g5b1111111110_8 (x14 : V) (x99 : V) (st : St) : Res :=
 A.guard x99 true
 (A.eql 2 false x14 (.int .i64 30) fun a1 =>
 A.guard a1 true
 (A.ret (s10 [] st) fun a2 z3 =>
 some (.ret a2.er1, z3))
 (some (.ret ((.bool false) : V).er1, st)))
 (some (.ret ((.bool false) : V).er1, st))
theorem g5e1111111110_8 : (fun env st => aops Try.prog g5mu g5T 106 (rops (g5C [1, 1, 1, 1, 1, 1, 1, 1, 1, 0])) [8, 9, 10, 11, 12, 13, 14] env st ((g5k0) .normal)) = fun env st => g5b1111111110_8 (env 14) (env 99) st := by
  refine Eq.trans (Eq.refl _) ?_
  funext env st
  kernel_rfl
noncomputable def g5b111111111 (x12 : V) (x13 : V) (x14 : V) (st : St) : Res :=
 A.load true 4 x12 st fun a1 z2 =>
 A.build [(.int .i64 0), (.lst [] 1), (.lst [] 1), (.lst [] 1)] [] fun a3 =>
 A.ret (s15 [a1.er1, a3.er1] z2) fun a4 z5 =>
 A.guard a4 true
 (A.eql 2 false x13 (.int .i64 0) fun a6 =>
 g5b1111111110_8 x14 a6 z5)
 (g5b1111111110_8 x14 (.bool false) z5)
theorem g5n111111111 : g5C [1, 1, 1, 1, 1, 1, 1, 1, 1] = .seq (g5C [1, 1, 1, 1, 1, 1, 1, 1, 1, 0]) (g5C [1, 1, 1, 1, 1, 1, 1, 1, 1, 1]) := by kernel_rfl
theorem g5rg1111111110 : g5C [1, 1, 1, 1, 1, 1, 1, 1, 1, 0] = .region 15 (rops (g5C [1, 1, 1, 1, 1, 1, 1, 1, 1, 0])) false := by kernel_rfl
theorem g5rg1111111110l : List.range (rops (g5C [1, 1, 1, 1, 1, 1, 1, 1, 1, 0])).size = [0, 1, 2, 3, 4, 5, 6, 7] ++ [8, 9, 10, 11, 12, 13, 14] := by kernel_rfl
theorem g5e111111111 : g5X (g5C [1, 1, 1, 1, 1, 1, 1, 1, 1]) (g5kr) = fun env st => g5b111111111 (env 12) (env 13) (env 14) st := by
  refine Eq.trans ((g5seq g5n111111111 rfl).trans (g5reg g5rg1111111110 g5rg1111111110l (g5e1111111110_8))) ?_
  funext env st
  kernel_rfl
noncomputable def g5b1111111 (x7 : V) (x9 : V) (st : St) : Res :=
 A.toStr x9 st fun a1 =>
 A.eql 3 false a1 x7 fun a2 =>
 A.cond a2
 (A.ret (s10 [] st) fun a3 z4 =>
 some (.ret a3.er1, z4))
 (A.toStr x9 st fun a5 =>
 A.ret (s11 [a5.er1] st) fun a6 z7 =>
 A.ext a6 0 fun a8 =>
 A.ext a6 1 fun a9 =>
 A.ext a6 2 fun a10 =>
 A.box (.agg [(.int .i64 0), (.lst [] 1), (.lst [] 1), (.lst [] 1)]) z7 fun a11 z12 =>
 A.store 4 a11 a8 z12 fun z13 =>
 g5b111111111 a11 a9 a10 z13)
theorem g5n1111111 : g5C [1, 1, 1, 1, 1, 1, 1] = .seq (g5C [1, 1, 1, 1, 1, 1, 1, 0]) (g5C [1, 1, 1, 1, 1, 1, 1, 1]) := by kernel_rfl
theorem g5n11111111 : g5C [1, 1, 1, 1, 1, 1, 1, 1] = .seq (g5C [1, 1, 1, 1, 1, 1, 1, 1, 0]) (g5C [1, 1, 1, 1, 1, 1, 1, 1, 1]) := by kernel_rfl
theorem g5e1111111 : g5X (g5C [1, 1, 1, 1, 1, 1, 1]) (g5kr) = fun env st => g5b1111111 (env 7) (env 9) st := by
  refine Eq.trans (g5seq g5n1111111 (g5seq g5n11111111 (g5e111111111))) ?_
  funext env st
  kernel_rfl
noncomputable def g5k1 : Kon := kSeq (fun env st => g5b1111111 (env 7) (env 9) st) (g5kr)
noncomputable def g5k2 : Kon := kBlk 0 (g5k1)
noncomputable def g5k3 (L111111010 : V → V → V → V → V → St → Res) : Kon := kSeq (fun env st => L111111010 (env 2) (env 7) (env 9) (env 10) (env 11) st) (g5k2)
noncomputable def g5b11111101001 (L111111010 : V → V → V → V → V → St → Res) (x2 : V) (x7 : V) (x9 : V) (x10 : V) (x11 : V) (st : St) : Res :=
 A.bin .add x10 x11 fun a1 =>
 A.bin .add x10 x11 fun a2 =>
 A.iaddr 1 x9 a2 fun a3 =>
 A.load false 1 a3 st fun a4 _ =>
 A.bin .mul (.int .i64 8) x11 fun a5 =>
 A.bin .shr x2 a5 fun a6 =>
 A.bin .and a6 (.int .i64 255) fun a7 =>
 A.toInt .u8 a7 fun a8 =>
 A.bin .xor a4 a8 fun a9 =>
 A.iaddr 1 x9 a1 fun a10 =>
 A.noP (A.store 1 a10 a9 st fun s => kid (.tup []) s) fun a11 z12 =>
 A.bin .add x11 (.int .i64 1) fun a13 =>
 L111111010 x2 x7 x9 x10 a13 z12
theorem g5e11111101001 (L111111010 : V → V → V → V → V → St → Res) : g5X (g5C [1, 1, 1, 1, 1, 1, 0, 1, 0, 0, 1]) (g5k3 L111111010) = fun env st => g5b11111101001 L111111010 (env 2) (env 7) (env 9) (env 10) (env 11) st := by
  refine Eq.trans (Eq.refl (g5X (g5C [1, 1, 1, 1, 1, 1, 0, 1, 0, 0, 1]) (g5k3 L111111010))) ?_
  funext env st
  kernel_rfl
noncomputable def g5b111111010 : Nat → V → V → V → V → V → St → Res
| 0, _, _, _, _, _, _ => none
| n + 1, x2, x7, x9, x10, x11, st =>
 A.bin .lss x11 (.int .i64 4) fun a1 =>
 A.guard a1 true
 (A.bin .add x10 x11 fun a2 =>
 A.lenL x9 fun a3 =>
 A.bin .lss a2 a3 fun a4 =>
 A.cond a4
 (g5b11111101001 (g5b111111010 n) x2 x7 x9 x10 x11 st)
 (g5b1111111 x7 x9 st))
 (g5b1111111 x7 x9 st)
theorem g5n111111010 : g5C [1, 1, 1, 1, 1, 1, 0, 1, 0] = .loop (g5C [1, 1, 1, 1, 1, 1, 0, 1, 0, 0]) := by kernel_rfl
theorem g5n1111110100 : g5C [1, 1, 1, 1, 1, 1, 0, 1, 0, 0] = .seq (g5C [1, 1, 1, 1, 1, 1, 0, 1, 0, 0, 0]) (g5C [1, 1, 1, 1, 1, 1, 0, 1, 0, 0, 1]) := by kernel_rfl
theorem g5e111111010 : g5X (g5C [1, 1, 1, 1, 1, 1, 0, 1, 0]) (g5k2) = fun env st => g5b111111010 big (env 2) (env 7) (env 9) (env 10) (env 11) st := by
  have key : ∀ n, aloop (g5X (g5C [1, 1, 1, 1, 1, 1, 0, 1, 0, 0])) (g5k2) n = fun env st => g5b111111010 n (env 2) (env 7) (env 9) (env 10) (env 11) st := by
    intro n
    induction n with
    | zero => rfl
    | succ n ih =>
      have h : aloop (g5X (g5C [1, 1, 1, 1, 1, 1, 0, 1, 0, 0])) (g5k2) (n + 1) = g5X (g5C [1, 1, 1, 1, 1, 1, 0, 1, 0, 0]) (kSeq (aloop (g5X (g5C [1, 1, 1, 1, 1, 1, 0, 1, 0, 0])) (g5k2) n) (g5k2)) := rfl
      rw [h, ih]
      refine Eq.trans (g5seq g5n1111110100 (g5e11111101001 (g5b111111010 n))) ?_
      funext env st
      kernel_rfl
  exact (g5loop g5n111111010).trans (key big)
noncomputable def g5b111111 (x2 : V) (x7 : V) (x9 : V) (x10 : V) (st : St) : Res :=
 g5b111111010 big x2 x7 x9 x10 (.int .i64 0) st
theorem g5n111111 : g5C [1, 1, 1, 1, 1, 1] = .seq (g5C [1, 1, 1, 1, 1, 1, 0]) (g5C [1, 1, 1, 1, 1, 1, 1]) := by kernel_rfl
theorem g5n1111110 : g5C [1, 1, 1, 1, 1, 1, 0] = .seq (g5C [1, 1, 1, 1, 1, 1, 0, 0]) (g5C [1, 1, 1, 1, 1, 1, 0, 1]) := by kernel_rfl
theorem g5n11111101 : g5C [1, 1, 1, 1, 1, 1, 0, 1] = .block 0 (g5C [1, 1, 1, 1, 1, 1, 0, 1, 0]) := by kernel_rfl
theorem g5e111111 : g5X (g5C [1, 1, 1, 1, 1, 1]) (g5kr) = fun env st => g5b111111 (env 2) (env 7) (env 9) (env 10) st := by
  refine Eq.trans ((g5seq g5n111111 (g5e1111111)).trans (g5seq g5n1111110 ((g5blk g5n11111101).trans (g5e111111010)))) ?_
  funext env st
  kernel_rfl
noncomputable def g5b1111 (x1 : V) (x2 : V) (x7 : V) (st : St) : Res :=
 A.toBytesM x7 st fun a1 z2 =>
 A.bin .and x1 (.int .i64 1048575) fun a3 =>
 A.lenS x7 fun a4 =>
 A.bin .sub a4 (.int .i64 11) fun a5 =>
 A.bin .rem a3 a5 fun a6 =>
 A.bin .add (.int .i64 8) a6 fun a7 =>
 g5b111111 x2 x7 a1 a7 z2
theorem g5n1111 : g5C [1, 1, 1, 1] = .seq (g5C [1, 1, 1, 1, 0]) (g5C [1, 1, 1, 1, 1]) := by kernel_rfl
theorem g5n11111 : g5C [1, 1, 1, 1, 1] = .seq (g5C [1, 1, 1, 1, 1, 0]) (g5C [1, 1, 1, 1, 1, 1]) := by kernel_rfl
theorem g5e1111 : g5X (g5C [1, 1, 1, 1]) (g5kr) = fun env st => g5b1111 (env 1) (env 2) (env 7) st := by
  refine Eq.trans (g5seq g5n1111 (g5seq g5n11111 (g5e111111))) ?_
  funext env st
  kernel_rfl
noncomputable def g5k4 : Kon := kSeq (fun env st => g5b1111 (env 1) (env 2) (env 7) st) (g5kr)
noncomputable def g5b11101 (x1 : V) (x2 : V) (x7 : V) (x8 : V) (x35 : V) (st : St) : Res :=
 A.cond x35
 (A.eql 2 false x8 (.int .i64 1) fun a1 =>
 A.guard a1 true
 (A.ret (s10 [] st) fun a2 z3 =>
 some (.ret a2.er1, z3))
 (some (.ret ((.bool false) : V).er1, st)))
 (g5b1111 x1 x2 x7 st)
theorem g5e11101 : g5X (g5C [1, 1, 1, 0, 1]) (g5k4) = fun env st => g5b11101 (env 1) (env 2) (env 7) (env 8) (env 35) st := by
  refine Eq.trans (Eq.refl (g5X (g5C [1, 1, 1, 0, 1]) (g5k4))) ?_
  funext env st
  kernel_rfl
noncomputable def g5b11 (x1 : V) (x2 : V) (x3 : V) (st : St) : Res :=
 A.load true 4 x3 st fun a1 z2 =>
 A.ret (s18 [a1.er1] z2) fun a3 z4 =>
 A.ext a3 0 fun a5 =>
 A.ext a3 1 fun a6 =>
 A.eql 2 true a6 (.int .i64 0) fun a7 =>
 A.guard a7 false
 (A.lenS a5 fun a8 =>
 A.bin .lss a8 (.int .i64 13) fun a9 =>
 g5b11101 x1 x2 a5 a6 a9 z4)
 (g5b11101 x1 x2 a5 a6 (.bool true) z4)
theorem g5n11 : g5C [1, 1] = .seq (g5C [1, 1, 0]) (g5C [1, 1, 1]) := by kernel_rfl
theorem g5n111 : g5C [1, 1, 1] = .seq (g5C [1, 1, 1, 0]) (g5C [1, 1, 1, 1]) := by kernel_rfl
theorem g5n1110 : g5C [1, 1, 1, 0] = .seq (g5C [1, 1, 1, 0, 0]) (g5C [1, 1, 1, 0, 1]) := by kernel_rfl
theorem g5e11 : g5X (g5C [1, 1]) (g5kr) = fun env st => g5b11 (env 1) (env 2) (env 3) st := by
  refine Eq.trans (g5seq g5n11 ((g5seq g5n111 (g5e1111)).trans (g5seq g5n1110 (g5e11101)))) ?_
  funext env st
  kernel_rfl
noncomputable def f5 (x0 : V) (x1 : V) (x2 : V) (st : St) : Res :=
 A.box x0 st fun a1 z2 =>
 A.load true 4 a1 z2 fun a3 z4 =>
 A.ret (s17 [a3.er1] z4) fun a5 z6 =>
 A.un .not a5 fun a7 =>
 A.guard a7 false
 (A.bin .and x2 (.int .i64 4294967295) fun a8 =>
 A.eql 2 false a8 (.int .i64 0) fun a9 =>
 A.cond a9
 (A.ret (s10 [] z6) fun a10 z11 =>
 some (.ret a10.er1, z11))
 (g5b11 x1 x2 a1 z6))
 (A.ret (s10 [] z6) fun a12 z13 =>
 some (.ret a12.er1, z13))
theorem g5nr : g5C [] = .seq (g5C [0]) (g5C [1]) := by kernel_rfl
theorem g5n1 : g5C [1] = .seq (g5C [1, 0]) (g5C [1, 1]) := by kernel_rfl
theorem g5er (env : Env) (st : St) : g5X (g5C []) g5kr env st = f5 (env 0) (env 1) (env 2) st := by
  rw [(g5seq g5nr (g5seq g5n1 (g5e11)))]
  kernel_rfl
theorem s5_eq (x0 : V) (x1 : V) (x2 : V) (st : St) : s5 [x0, x1, x2] st = f5 x0 x1 x2 st := by
  have h : afn Try.prog g5mu g5T big (areg Try.prog g5mu g5T) 5 [x0, x1, x2] st = g5X (g5C []) g5kr (fun t => [x0, x1, x2].getD t (.tup [])) st := by kernel_rfl
  rw [s5, sealF_eq]
  exact h.trans (g5er _ st)
/-! sinew/sinewlaw03.WireLimits -/
def g6mu : Nat → Bool := fun _ => false
noncomputable def g6T : Tbl := tget [(10, s10), (11, s11), (15, s15), (18, s18)]
theorem g6t : SimT Try.prog g6T := simT_cons sim10 ( simT_cons sim11 ( simT_cons sim15 ( simT_cons sim18 (simT_nil))))
noncomputable def s6 : Fn := sealF (afn Try.prog g6mu g6T big (areg Try.prog g6mu g6T) 6)
theorem sim6 : Sim Try.prog 6 s6 := (afn_sim g6t (fun m => areg_sound g6t hmix m) 6 (by kernel_rfl)).sealed
noncomputable def g6C (p : List Nat) : Code := sub (match Try.f6.body with | some c => c | none => .skip) p
noncomputable def g6X (c : Code) (K : Kon) : Env → St → Res := aexec Try.prog g6mu g6T big 87 (areg Try.prog g6mu g6T 87) c K
noncomputable def g6kr : Kon := aresK Try.prog Try.f6.results.toList
theorem g6reg {c : Code} {K : Kon} {G : Env → St → Res} {id : Nat} {ops : Array Oper} {l1 l2 : List Nat} (hc : c = .region id ops false) (hl : List.range ops.size = l1 ++ l2) (h : (fun env st => aops Try.prog g6mu g6T 87 ops l2 env st (K .normal)) = G) : g6X c K = fun env st => aops Try.prog g6mu g6T 87 ops l1 env st G := reg_cut hc hl h
theorem g6seq {c x y : Code} {K : Kon} {G : Env → St → Res} (hc : c = .seq x y) (hy : g6X y K = G) : g6X c K = g6X x (kSeq G K) := seq_cut hc hy
theorem g6blk {c x : Code} {K : Kon} {i : Nat} (hc : c = .block i x) : g6X c K = g6X x (kBlk i K) := blk_cut hc
theorem g6loop {c x : Code} {K : Kon} (hc : c = .loop x) : g6X c K = aloop (g6X x) K big := loop_cut hc
theorem g6cond {c x y : Code} {K : Kon} {v : Operand} {F G : Env → St → Res} (hc : c = .cond v x y) (hx : g6X x K = F) (hy : g6X y K = G) : g6X c K = condF v F G := cond_cut hc hx hy
noncomputable def g6k0 : Kon := kSeq (g6X (g6C [1, 1, 1, 1, 1, 1, 1, 1]) (g6kr)) (g6kr)
noncomputable def g6b11111110_13 (x6 : V) (x9 : V) (x79 : V) (st : St) : Res :=
 A.guard x79 true
 (A.load true 4 x6 st fun a1 z2 =>
 A.load true 4 x9 z2 fun a3 z4 =>
 A.ret (s15 [a1.er1, a3.er1] z4) fun a5 z6 =>
 A.guard a5 true
 (A.ret (s10 [] z6) fun a7 z8 =>
 some (.ret a7.er1, z8))
 (some (.ret ((.bool false) : V).er1, z6)))
 (some (.ret ((.bool false) : V).er1, st))
theorem g6e11111110_13 : (fun env st => aops Try.prog g6mu g6T 87 (rops (g6C [1, 1, 1, 1, 1, 1, 1, 0])) [13, 14, 15, 16, 17, 18, 19, 20] env st ((g6k0) .normal)) = fun env st => g6b11111110_13 (env 6) (env 9) (env 79) st := by
  refine Eq.trans (Eq.refl _) ?_
  funext env st
  kernel_rfl
noncomputable def g6b11111110_7 (x6 : V) (x7 : V) (x9 : V) (x10 : V) (x73 : V) (st : St) : Res :=
 A.guard x73 true
 (A.lenS x7 fun a1 =>
 A.eql 2 false x10 a1 fun a2 =>
 g6b11111110_13 x6 x9 a2 st)
 (g6b11111110_13 x6 x9 (.bool false) st)
theorem g6e11111110_7 : (fun env st => aops Try.prog g6mu g6T 87 (rops (g6C [1, 1, 1, 1, 1, 1, 1, 0])) [7, 8, 9, 10, 11, 12, 13, 14, 15, 16, 17, 18, 19, 20] env st ((g6k0) .normal)) = fun env st => g6b11111110_7 (env 6) (env 7) (env 9) (env 10) (env 73) st := by
  refine Eq.trans (ops_cut (l1 := [7, 8, 9, 10, 11, 12]) (l2 := [13, 14, 15, 16, 17, 18, 19, 20]) (g6e11111110_13)) ?_
  funext env st
  kernel_rfl
noncomputable def g6b111111 (x6 : V) (x7 : V) (x8 : V) (st : St) : Res :=
 A.ret (s11 [x7.er1] st) fun a1 z2 =>
 A.ext a1 0 fun a3 =>
 A.ext a1 1 fun a4 =>
 A.ext a1 2 fun a5 =>
 A.box (.agg [(.int .i64 0), (.lst [] 1), (.lst [] 1), (.lst [] 1)]) z2 fun a6 z7 =>
 A.store 4 a6 a3 z7 fun z8 =>
 A.eql 2 false x8 (.int .i64 0) fun a9 =>
 A.guard a9 true
 (A.eql 2 false a5 (.int .i64 0) fun a10 =>
 g6b11111110_7 x6 x7 a6 a4 a10 z8)
 (g6b11111110_7 x6 x7 a6 a4 (.bool false) z8)
theorem g6n111111 : g6C [1, 1, 1, 1, 1, 1] = .seq (g6C [1, 1, 1, 1, 1, 1, 0]) (g6C [1, 1, 1, 1, 1, 1, 1]) := by kernel_rfl
theorem g6n1111111 : g6C [1, 1, 1, 1, 1, 1, 1] = .seq (g6C [1, 1, 1, 1, 1, 1, 1, 0]) (g6C [1, 1, 1, 1, 1, 1, 1, 1]) := by kernel_rfl
theorem g6rg11111110 : g6C [1, 1, 1, 1, 1, 1, 1, 0] = .region 16 (rops (g6C [1, 1, 1, 1, 1, 1, 1, 0])) false := by kernel_rfl
theorem g6rg11111110l : List.range (rops (g6C [1, 1, 1, 1, 1, 1, 1, 0])).size = [0, 1, 2, 3, 4, 5, 6] ++ [7, 8, 9, 10, 11, 12, 13, 14, 15, 16, 17, 18, 19, 20] := by kernel_rfl
theorem g6e111111 : g6X (g6C [1, 1, 1, 1, 1, 1]) (g6kr) = fun env st => g6b111111 (env 6) (env 7) (env 8) st := by
  refine Eq.trans (g6seq g6n111111 ((g6seq g6n1111111 rfl).trans (g6reg g6rg11111110 g6rg11111110l (g6e11111110_7)))) ?_
  funext env st
  kernel_rfl
noncomputable def g6b1111 (x5 : V) (x6 : V) (st : St) : Res :=
 A.load true 4 x6 st fun a1 z2 =>
 A.ret (s18 [a1.er1] z2) fun a3 z4 =>
 A.ext a3 0 fun a5 =>
 A.ext a3 1 fun a6 =>
 A.bin .gtr x5 (.int .i64 0) fun a7 =>
 A.cond a7
 (A.eql 3 false a5 (.str []) fun a8 =>
 A.guard a8 true
 (A.eql 2 false a6 (.int .i64 1) fun a9 =>
 A.guard a9 true
 (A.ret (s10 [] z4) fun a10 z11 =>
 some (.ret a10.er1, z11))
 (some (.ret ((.bool false) : V).er1, z4)))
 (some (.ret ((.bool false) : V).er1, z4)))
 (g6b111111 x6 a5 a6 z4)
theorem g6n1111 : g6C [1, 1, 1, 1] = .seq (g6C [1, 1, 1, 1, 0]) (g6C [1, 1, 1, 1, 1]) := by kernel_rfl
theorem g6n11111 : g6C [1, 1, 1, 1, 1] = .seq (g6C [1, 1, 1, 1, 1, 0]) (g6C [1, 1, 1, 1, 1, 1]) := by kernel_rfl
theorem g6e1111 : g6X (g6C [1, 1, 1, 1]) (g6kr) = fun env st => g6b1111 (env 5) (env 6) st := by
  refine Eq.trans (g6seq g6n1111 (g6seq g6n11111 (g6e111111))) ?_
  funext env st
  kernel_rfl
noncomputable def g6k1 : Kon := kSeq (fun env st => g6b1111 (env 5) (env 6) st) (g6kr)
noncomputable def g6k2 : Kon := kBlk 0 (g6k1)
noncomputable def g6b1110101 (x5 : V) (x6 : V) (x17 : V) (x24 : V) (st : St) : Res :=
 A.cond x24
 (A.bin .add (.int .i64 64) x5 fun a1 =>
 A.mksl 1 8 (.int .i64 0) a1 a1 fun a2 =>
 A.faddr 1 x6 fun a3 =>
 A.store 1 a3 a2 st fun z4 =>
 g6b1111 x5 x6 z4)
 (A.eql 2 false x17 (.int .i64 1) fun a5 =>
 A.cond a5
 (A.mksl 1 16 (.str []) (.int .i64 4000) (.int .i64 4000) fun a6 =>
 A.faddr 2 x6 fun a7 =>
 A.store 1 a7 a6 st fun z8 =>
 A.bin .add (.int .i64 96) x5 fun a9 =>
 A.mksl 1 16 (.str []) a9 a9 fun a10 =>
 A.bslice 1 (.lst [] 1) 1 [(0, a10)] fun a11 =>
 A.faddr 3 x6 fun a12 =>
 A.store 1 a12 a11 z8 fun z13 =>
 g6b1111 x5 x6 z13)
 (A.eql 2 false x17 (.int .i64 2) fun a14 =>
 A.cond a14
 (A.bin .add (.int .i64 4096) x5 fun a15 =>
 A.mksl 1 24 (.lst [] 1) a15 a15 fun a16 =>
 A.faddr 3 x6 fun a17 =>
 A.store 1 a17 a16 st fun z18 =>
 g6b1111 x5 x6 z18)
 (A.bin .add (.int .i64 65536) x5 fun a19 =>
 A.mksl 1 1 (.int .u8 0) a19 a19 fun a20 =>
 A.toStr a20 st fun a21 =>
 A.bslice 1 (.str []) 1 [(0, a21)] fun a22 =>
 A.faddr 2 x6 fun a23 =>
 A.store 1 a23 a22 st fun z24 =>
 g6b1111 x5 x6 z24)))
theorem g6e1110101 : g6X (g6C [1, 1, 1, 0, 1, 0, 1]) (g6k2) = fun env st => g6b1110101 (env 5) (env 6) (env 17) (env 24) st := by
  refine Eq.trans (Eq.refl (g6X (g6C [1, 1, 1, 0, 1, 0, 1]) (g6k2))) ?_
  funext env st
  kernel_rfl
noncomputable def f6 (x0 : V) (x1 : V) (st : St) : Res :=
 A.bin .and x1 (.int .i64 3) fun a1 =>
 A.bin .sub a1 (.int .i64 1) fun a2 =>
 A.build [(.int .i64 0), (.lst [] 1), (.lst [] 1), (.lst [] 1)] [(0, 1, (.int .i64 7))] fun a3 =>
 A.box (.agg [(.int .i64 0), (.lst [] 1), (.lst [] 1), (.lst [] 1)]) st fun a4 z5 =>
 A.store 4 a4 a3 z5 fun z6 =>
 A.bin .and x0 (.int .i64 3) fun a7 =>
 A.eql 2 false a7 (.int .i64 0) fun a8 =>
 g6b1110101 a2 a4 a7 a8 z6
theorem g6nr : g6C [] = .seq (g6C [0]) (g6C [1]) := by kernel_rfl
theorem g6n1 : g6C [1] = .seq (g6C [1, 0]) (g6C [1, 1]) := by kernel_rfl
theorem g6n11 : g6C [1, 1] = .seq (g6C [1, 1, 0]) (g6C [1, 1, 1]) := by kernel_rfl
theorem g6n111 : g6C [1, 1, 1] = .seq (g6C [1, 1, 1, 0]) (g6C [1, 1, 1, 1]) := by kernel_rfl
theorem g6n1110 : g6C [1, 1, 1, 0] = .seq (g6C [1, 1, 1, 0, 0]) (g6C [1, 1, 1, 0, 1]) := by kernel_rfl
theorem g6n11101 : g6C [1, 1, 1, 0, 1] = .block 0 (g6C [1, 1, 1, 0, 1, 0]) := by kernel_rfl
theorem g6n111010 : g6C [1, 1, 1, 0, 1, 0] = .seq (g6C [1, 1, 1, 0, 1, 0, 0]) (g6C [1, 1, 1, 0, 1, 0, 1]) := by kernel_rfl
theorem g6er (env : Env) (st : St) : g6X (g6C []) g6kr env st = f6 (env 0) (env 1) st := by
  rw [(g6seq g6nr (g6seq g6n1 (g6seq g6n11 ((g6seq g6n111 (g6e1111)).trans (g6seq g6n1110 ((g6blk g6n11101).trans (g6seq g6n111010 (g6e1110101))))))))]
  kernel_rfl
theorem s6_eq (x0 : V) (x1 : V) (st : St) : s6 [x0, x1] st = f6 x0 x1 st := by
  have h : afn Try.prog g6mu g6T big (areg Try.prog g6mu g6T) 6 [x0, x1] st = g6X (g6C []) g6kr (fun t => [x0, x1].getD t (.tup [])) st := by kernel_rfl
  rw [s6, sealF_eq]
  exact h.trans (g6er _ st)
/-! sinew/sinewlaw03.WireApart -/
def g7mu : Nat → Bool := fun _ => false
noncomputable def g7T : Tbl := tget [(10, s10), (15, s15), (17, s17), (18, s18)]
theorem g7t : SimT Try.prog g7T := simT_cons sim10 ( simT_cons sim15 ( simT_cons sim17 ( simT_cons sim18 (simT_nil))))
noncomputable def s7 : Fn := sealF (afn Try.prog g7mu g7T big (areg Try.prog g7mu g7T) 7)
theorem sim7 : Sim Try.prog 7 s7 := (afn_sim g7t (fun m => areg_sound g7t hmix m) 7 (by kernel_rfl)).sealed
noncomputable def g7C (p : List Nat) : Code := sub (match Try.f7.body with | some c => c | none => .skip) p
noncomputable def g7X (c : Code) (K : Kon) : Env → St → Res := aexec Try.prog g7mu g7T big 45 (areg Try.prog g7mu g7T 45) c K
noncomputable def g7kr : Kon := aresK Try.prog Try.f7.results.toList
theorem g7reg {c : Code} {K : Kon} {G : Env → St → Res} {id : Nat} {ops : Array Oper} {l1 l2 : List Nat} (hc : c = .region id ops false) (hl : List.range ops.size = l1 ++ l2) (h : (fun env st => aops Try.prog g7mu g7T 45 ops l2 env st (K .normal)) = G) : g7X c K = fun env st => aops Try.prog g7mu g7T 45 ops l1 env st G := reg_cut hc hl h
theorem g7seq {c x y : Code} {K : Kon} {G : Env → St → Res} (hc : c = .seq x y) (hy : g7X y K = G) : g7X c K = g7X x (kSeq G K) := seq_cut hc hy
theorem g7blk {c x : Code} {K : Kon} {i : Nat} (hc : c = .block i x) : g7X c K = g7X x (kBlk i K) := blk_cut hc
theorem g7loop {c x : Code} {K : Kon} (hc : c = .loop x) : g7X c K = aloop (g7X x) K big := loop_cut hc
theorem g7cond {c x y : Code} {K : Kon} {v : Operand} {F G : Env → St → Res} (hc : c = .cond v x y) (hx : g7X x K = F) (hy : g7X y K = G) : g7X c K = condF v F G := cond_cut hc hx hy
noncomputable def g7b11111 (x2 : V) (x3 : V) (x5 : V) (x7 : V) (st : St) : Res :=
 A.eql 3 false x5 x7 fun a1 =>
 A.load true 4 x2 st fun a2 z3 =>
 A.load true 4 x3 z3 fun a4 z5 =>
 A.ret (s15 [a2.er1, a4.er1] z5) fun a6 z7 =>
 A.eql 1 false a1 a6 fun a8 =>
 A.guard a8 true
 (A.ret (s10 [] z7) fun a9 z10 =>
 some (.ret a9.er1, z10))
 (some (.ret ((.bool false) : V).er1, z7))
theorem g7e11111 : g7X (g7C [1, 1, 1, 1, 1]) (g7kr) = fun env st => g7b11111 (env 2) (env 3) (env 5) (env 7) st := by
  refine Eq.trans (Eq.refl (g7X (g7C [1, 1, 1, 1, 1]) (g7kr))) ?_
  funext env st
  kernel_rfl
noncomputable def g7b1111 (x2 : V) (x3 : V) (x5 : V) (x6 : V) (x7 : V) (x8 : V) (st : St) : Res :=
 A.eql 2 true x6 (.int .i64 0) fun a1 =>
 A.guard a1 false
 (A.eql 2 true x8 (.int .i64 0) fun a2 =>
 A.cond a2
 (A.ret (s10 [] st) fun a3 z4 =>
 some (.ret a3.er1, z4))
 (g7b11111 x2 x3 x5 x7 st))
 (A.ret (s10 [] st) fun a5 z6 =>
 some (.ret a5.er1, z6))
theorem g7n1111 : g7C [1, 1, 1, 1] = .seq (g7C [1, 1, 1, 1, 0]) (g7C [1, 1, 1, 1, 1]) := by kernel_rfl
theorem g7e1111 : g7X (g7C [1, 1, 1, 1]) (g7kr) = fun env st => g7b1111 (env 2) (env 3) (env 5) (env 6) (env 7) (env 8) st := by
  refine Eq.trans (g7seq g7n1111 (g7e11111)) ?_
  funext env st
  kernel_rfl
noncomputable def g7b11 (x2 : V) (x3 : V) (st : St) : Res :=
 A.load true 4 x2 st fun a1 z2 =>
 A.ret (s18 [a1.er1] z2) fun a3 z4 =>
 A.ext a3 0 fun a5 =>
 A.ext a3 1 fun a6 =>
 A.load true 4 x3 z4 fun a7 z8 =>
 A.ret (s18 [a7.er1] z8) fun a9 z10 =>
 A.ext a9 0 fun a11 =>
 A.ext a9 1 fun a12 =>
 g7b1111 x2 x3 a5 a6 a11 a12 z10
theorem g7n11 : g7C [1, 1] = .seq (g7C [1, 1, 0]) (g7C [1, 1, 1]) := by kernel_rfl
theorem g7n111 : g7C [1, 1, 1] = .seq (g7C [1, 1, 1, 0]) (g7C [1, 1, 1, 1]) := by kernel_rfl
theorem g7e11 : g7X (g7C [1, 1]) (g7kr) = fun env st => g7b11 (env 2) (env 3) st := by
  refine Eq.trans (g7seq g7n11 (g7seq g7n111 (g7e1111))) ?_
  funext env st
  kernel_rfl
noncomputable def f7 (x0 : V) (x1 : V) (st : St) : Res :=
 A.box x0 st fun a1 z2 =>
 A.box x1 z2 fun a3 z4 =>
 A.load true 4 a1 z4 fun a5 z6 =>
 A.ret (s17 [a5.er1] z6) fun a7 z8 =>
 A.un .not a7 fun a9 =>
 A.guard a9 false
 (A.load true 4 a3 z8 fun a10 z11 =>
 A.ret (s17 [a10.er1] z11) fun a12 z13 =>
 A.un .not a12 fun a14 =>
 A.cond a14
 (A.ret (s10 [] z13) fun a15 z16 =>
 some (.ret a15.er1, z16))
 (g7b11 a1 a3 z13))
 (A.ret (s10 [] z8) fun a17 z18 =>
 some (.ret a17.er1, z18))
theorem g7nr : g7C [] = .seq (g7C [0]) (g7C [1]) := by kernel_rfl
theorem g7n1 : g7C [1] = .seq (g7C [1, 0]) (g7C [1, 1]) := by kernel_rfl
theorem g7er (env : Env) (st : St) : g7X (g7C []) g7kr env st = f7 (env 0) (env 1) st := by
  rw [(g7seq g7nr (g7seq g7n1 (g7e11)))]
  kernel_rfl
theorem s7_eq (x0 : V) (x1 : V) (st : St) : s7 [x0, x1] st = f7 x0 x1 st := by
  have h : afn Try.prog g7mu g7T big (areg Try.prog g7mu g7T) 7 [x0, x1] st = g7X (g7C []) g7kr (fun t => [x0, x1].getD t (.tup [])) st := by kernel_rfl
  rw [s7, sealF_eq]
  exact h.trans (g7er _ st)
end Go.Ab
