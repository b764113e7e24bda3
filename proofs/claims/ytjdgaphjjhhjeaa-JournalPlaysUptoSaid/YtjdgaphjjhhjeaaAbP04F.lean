import Derived.Test.YtjdgaphjjhhjeaaAbQuiet
import Derived.Test.YtjdgaphjjhhjeaaAbP04E
namespace Go.Ab
open Go.Proofs
set_option linter.unusedVariables false
set_option maxRecDepth 100000
/-! sinew/sinewlaw04.does -/
def g19mu : Nat → Bool := fun _ => false
noncomputable def g19T : Tbl := tget [(12, s12), (13, s13), (14, s14), (17, s17), (20, s20), (21, s21), (26, s26), (27, s27), (28, s28), (29, s29)]
theorem g19t : SimT Try.prog g19T := simT_cons sim12 ( simT_cons sim13 ( simT_cons sim14 ( simT_cons sim17 ( simT_cons sim20 ( simT_cons sim21 ( simT_cons sim26 ( simT_cons sim27 ( simT_cons sim28 ( simT_cons sim29 (simT_nil))))))))))
noncomputable def s19 : Fn := sealF (afn Try.prog g19mu g19T big (areg Try.prog g19mu g19T) 19)
theorem sim19 : Sim Try.prog 19 s19 := (afn_sim g19t (fun m => areg_sound g19t hmix m) 19 (by kernel_rfl)).sealed
noncomputable def g19C (p : List Nat) : Code := sub (match Try.f19.body with | some c => c | none => .skip) p
noncomputable def g19X (c : Code) (K : Kon) : Env → St → Res := aexec Try.prog g19mu g19T big 82 (areg Try.prog g19mu g19T 82) c K
noncomputable def g19kr : Kon := aresK Try.prog Try.f19.results.toList
theorem g19reg {c : Code} {K : Kon} {G : Env → St → Res} {id : Nat} {ops : Array Oper} {l1 l2 : List Nat} (hc : c = .region id ops false) (hl : List.range ops.size = l1 ++ l2) (h : (fun env st => aops Try.prog g19mu g19T 82 ops l2 env st (K .normal)) = G) : g19X c K = fun env st => aops Try.prog g19mu g19T 82 ops l1 env st G := reg_cut hc hl h
theorem g19seq {c x y : Code} {K : Kon} {G : Env → St → Res} (hc : c = .seq x y) (hy : g19X y K = G) : g19X c K = g19X x (kSeq G K) := seq_cut hc hy
theorem g19blk {c x : Code} {K : Kon} {i : Nat} (hc : c = .block i x) : g19X c K = g19X x (kBlk i K) := blk_cut hc
theorem g19loop {c x : Code} {K : Kon} (hc : c = .loop x) : g19X c K = aloop (g19X x) K big := loop_cut hc
theorem g19cond {c x y : Code} {K : Kon} {v : Operand} {F G : Env → St → Res} (hc : c = .cond v x y) (hx : g19X x K = F) (hy : g19X y K = G) : g19X c K = condF v F G := cond_cut hc hx hy
noncomputable def g19b11 (x0 : V) (x4 : V) (x6 : V) (st : St) : Res :=
 A.ret (s17 [x0.er1] st) fun a1 z2 =>
 A.ext a1 0 fun a3 =>
 A.ext a1 1 fun a4 =>
 A.load true 4 x4 z2 fun a5 _ =>
 A.load true 4 x4 z2 fun a6 _ =>
 A.ret (A.ret (s20 [a6.er1] z2) kid) fun a7 z8 =>
 A.chk (ldv true 4 x4 z8) a5
 (A.eql 2 false a3 a7 fun a9 =>
 A.guard a9 true
 (A.faddr 1 x4 fun a10 =>
 A.load false 1 a10 z8 fun a11 _ =>
 A.eql 2 false a4 a11 fun a12 =>
 A.ret (A.store 4 x6 a5 z8 fun s => kid (.tup []) s) fun a13 z14 =>
 A.chk (ldv false 1 a10 z14) a11
 (A.res (rcell (A.load true 4 x6 z14 kid) (rtmp a12 (some []))) z14))
 (A.ret (A.store 4 x6 a5 z8 fun s => kid (.tup []) s) fun a15 z16 =>
 A.res (rcell (A.load true 4 x6 z16 kid) (rtmp (.bool false) (some []))) z16))
theorem g19e11 : g19X (g19C [1, 1]) (g19kr) = fun env st => g19b11 (env 0) (env 4) (env 6) st := by
  refine Eq.trans (Eq.refl (g19X (g19C [1, 1]) (g19kr))) ?_
  funext env st
  kernel_rfl
noncomputable def g19k0 : Kon := kSeq (fun env st => g19b11 (env 0) (env 4) (env 6) st) (g19kr)
noncomputable def g19k1 : Kon := kBlk 0 (g19k0)
noncomputable def g19b1010101 (x0 : V) (x5 : V) (x6 : V) (x8 : V) (x9 : V) (st : St) : Res :=
 A.load true 4 x8 st fun a1 _ =>
 A.faddr 2 x5 fun a2 =>
 A.load true 4 a2 st fun a3 _ =>
 A.noP (A.ret (s12 [x0.er1, a3.er1] st) kid) fun a4 z5 =>
 A.chk (ldv true 4 x8 z5) a1
 (A.eql 2 false a4 x9 fun a6 =>
 A.ret (A.store 4 x6 a1 z5 fun s => kid (.tup []) s) fun a7 z8 =>
 A.res (rcell (A.load true 4 x6 z8 kid) (rtmp a6 (some []))) z8)
theorem g19e1010101 : g19X (g19C [1, 0, 1, 0, 1, 0, 1]) (g19k1) = fun env st => g19b1010101 (env 0) (env 5) (env 6) (env 8) (env 9) st := by
  refine Eq.trans (Eq.refl (g19X (g19C [1, 0, 1, 0, 1, 0, 1]) (g19k1))) ?_
  funext env st
  kernel_rfl
noncomputable def g19b1010111111101 (x0 : V) (x5 : V) (x6 : V) (x10 : V) (x11 : V) (st : St) : Res :=
 A.load true 4 x10 st fun a1 _ =>
 A.faddr 6 x5 fun a2 =>
 A.load false 1 a2 st fun a3 _ =>
 A.noP (A.ret (s21 [x0.er1, a3.er1] st) kid) fun a4 z5 =>
 A.chk (ldv true 4 x10 z5) a1
 (A.eql 2 false a4 x11 fun a6 =>
 A.ret (A.store 4 x6 a1 z5 fun s => kid (.tup []) s) fun a7 z8 =>
 A.res (rcell (A.load true 4 x6 z8 kid) (rtmp a6 (some []))) z8)
theorem g19e1010111111101 : g19X (g19C [1, 0, 1, 0, 1, 1, 1, 1, 1, 1, 1, 0, 1]) (g19k1) = fun env st => g19b1010111111101 (env 0) (env 5) (env 6) (env 10) (env 11) st := by
  refine Eq.trans (Eq.refl (g19X (g19C [1, 0, 1, 0, 1, 1, 1, 1, 1, 1, 1, 0, 1]) (g19k1))) ?_
  funext env st
  kernel_rfl
noncomputable def g19b101011111 (x0 : V) (x4 : V) (x5 : V) (x6 : V) (x15 : V) (x39 : V) (st : St) : Res :=
 A.cond x39
 (A.load true 4 x4 st fun a1 _ =>
 A.faddr 1 x5 fun a2 =>
 A.load false 1 a2 st fun a3 _ =>
 A.noP (A.ret (s28 [a1.er1, a3.er1] st) kid) fun a4 z5 =>
 A.faddr 1 x5 fun a6 =>
 A.load false 1 a6 z5 fun a7 _ =>
 A.chk (ldv false 1 a6 st) a7
 (A.ret (A.ret (s14 [x0.er1, a7.er1] z5) kid) fun a8 z9 =>
 A.eql 2 false a8 (.int .i64 0) fun a10 =>
 A.ret (A.store 4 x6 a4 z9 fun s => kid (.tup []) s) fun a11 z12 =>
 A.res (rcell (A.load true 4 x6 z12 kid) (rtmp a10 (some []))) z12))
 (A.eql 2 false x15 (.int .i64 4) fun a13 =>
 A.cond a13
 (A.load true 4 x4 st fun a14 z15 =>
 A.faddr 6 x5 fun a16 =>
 A.load false 1 a16 z15 fun a17 z18 =>
 A.ret (s29 [a14.er1, a17.er1] z18) fun a19 z20 =>
 A.ext a19 0 fun a21 =>
 A.ext a19 1 fun a22 =>
 A.box (.agg [(.int .i64 0), (.int .i64 0), (.lst [] 1), (.lst [] 1)]) z20 fun a23 z24 =>
 A.store 4 a23 a21 z24 fun z25 =>
 g19b1010111111101 x0 x5 x6 a23 a22 z25)
 (g19b11 x0 x4 x6 st))
theorem g19n101011111 : g19C [1, 0, 1, 0, 1, 1, 1, 1, 1] = .cond (.tmp 39) (g19C [1, 0, 1, 0, 1, 1, 1, 1, 1, 0]) (g19C [1, 0, 1, 0, 1, 1, 1, 1, 1, 1]) := by kernel_rfl
theorem g19n1010111111 : g19C [1, 0, 1, 0, 1, 1, 1, 1, 1, 1] = .seq (g19C [1, 0, 1, 0, 1, 1, 1, 1, 1, 1, 0]) (g19C [1, 0, 1, 0, 1, 1, 1, 1, 1, 1, 1]) := by kernel_rfl
theorem g19n10101111111 : g19C [1, 0, 1, 0, 1, 1, 1, 1, 1, 1, 1] = .cond (.tmp 50) (g19C [1, 0, 1, 0, 1, 1, 1, 1, 1, 1, 1, 0]) (g19C [1, 0, 1, 0, 1, 1, 1, 1, 1, 1, 1, 1]) := by kernel_rfl
theorem g19n101011111110 : g19C [1, 0, 1, 0, 1, 1, 1, 1, 1, 1, 1, 0] = .seq (g19C [1, 0, 1, 0, 1, 1, 1, 1, 1, 1, 1, 0, 0]) (g19C [1, 0, 1, 0, 1, 1, 1, 1, 1, 1, 1, 0, 1]) := by kernel_rfl
theorem g19e101011111 : g19X (g19C [1, 0, 1, 0, 1, 1, 1, 1, 1]) (g19k1) = fun env st => g19b101011111 (env 0) (env 4) (env 5) (env 6) (env 15) (env 39) st := by
  refine Eq.trans (g19cond g19n101011111 rfl (g19seq g19n1010111111 (g19cond g19n10101111111 (g19seq g19n101011111110 (g19e1010111111101)) rfl))) ?_
  funext env st
  kernel_rfl
noncomputable def f19 (x0 : V) (x1 : V) (x2 : V) (st : St) : Res :=
 A.box x1 st fun a1 z2 =>
 A.box x2 z2 fun a3 z4 =>
 A.box (.agg [(.int .i64 0), (.int .i64 0), (.lst [] 1), (.lst [] 1)]) z4 fun a5 z6 =>
 A.faddr 0 a3 fun a7 =>
 A.load false 1 a7 z6 fun a8 z9 =>
 A.eql 2 false a8 (.int .i64 1) fun a10 =>
 A.cond a10
 (A.load true 4 a1 z9 fun a11 z12 =>
 A.faddr 2 a3 fun a13 =>
 A.load true 4 a13 z12 fun a14 z15 =>
 A.ret (s26 [a11.er1, a14.er1] z15) fun a16 z17 =>
 A.ext a16 0 fun a18 =>
 A.ext a16 1 fun a19 =>
 A.box (.agg [(.int .i64 0), (.int .i64 0), (.lst [] 1), (.lst [] 1)]) z17 fun a20 z21 =>
 A.store 4 a20 a18 z21 fun z22 =>
 g19b1010101 x0 a3 a5 a20 a19 z22)
 (A.eql 2 false a8 (.int .i64 2) fun a23 =>
 A.cond a23
 (A.load true 4 a1 z9 fun a24 z25 =>
 A.ret (s27 [a24.er1] z25) fun a26 z27 =>
 A.ret (s13 [x0.er1] z27) fun a28 z29 =>
 A.eql 2 false a28 (.int .i64 0) fun a30 =>
 A.store 4 a5 a26 z29 fun z31 =>
 A.res (rcell (A.load true 4 a5 z31 kid) (rtmp a30 (some []))) z31)
 (A.eql 2 false a8 (.int .i64 3) fun a32 =>
 g19b101011111 x0 a1 a3 a5 a8 a32 z9))
theorem g19nr : g19C [] = .seq (g19C [0]) (g19C [1]) := by kernel_rfl
theorem g19n1 : g19C [1] = .seq (g19C [1, 0]) (g19C [1, 1]) := by kernel_rfl
theorem g19n10 : g19C [1, 0] = .seq (g19C [1, 0, 0]) (g19C [1, 0, 1]) := by kernel_rfl
theorem g19n101 : g19C [1, 0, 1] = .block 0 (g19C [1, 0, 1, 0]) := by kernel_rfl
theorem g19n1010 : g19C [1, 0, 1, 0] = .seq (g19C [1, 0, 1, 0, 0]) (g19C [1, 0, 1, 0, 1]) := by kernel_rfl
theorem g19n10101 : g19C [1, 0, 1, 0, 1] = .cond (.tmp 16) (g19C [1, 0, 1, 0, 1, 0]) (g19C [1, 0, 1, 0, 1, 1]) := by kernel_rfl
theorem g19n101010 : g19C [1, 0, 1, 0, 1, 0] = .seq (g19C [1, 0, 1, 0, 1, 0, 0]) (g19C [1, 0, 1, 0, 1, 0, 1]) := by kernel_rfl
theorem g19n101011 : g19C [1, 0, 1, 0, 1, 1] = .seq (g19C [1, 0, 1, 0, 1, 1, 0]) (g19C [1, 0, 1, 0, 1, 1, 1]) := by kernel_rfl
theorem g19n1010111 : g19C [1, 0, 1, 0, 1, 1, 1] = .cond (.tmp 32) (g19C [1, 0, 1, 0, 1, 1, 1, 0]) (g19C [1, 0, 1, 0, 1, 1, 1, 1]) := by kernel_rfl
theorem g19n10101111 : g19C [1, 0, 1, 0, 1, 1, 1, 1] = .seq (g19C [1, 0, 1, 0, 1, 1, 1, 1, 0]) (g19C [1, 0, 1, 0, 1, 1, 1, 1, 1]) := by kernel_rfl
theorem g19er (env : Env) (st : St) : g19X (g19C []) g19kr env st = f19 (env 0) (env 1) (env 2) st := by
  rw [(g19seq g19nr ((g19seq g19n1 (g19e11)).trans (g19seq g19n10 ((g19blk g19n101).trans (g19seq g19n1010 (g19cond g19n10101 (g19seq g19n101010 (g19e1010101)) (g19seq g19n101011 (g19cond g19n1010111 rfl (g19seq g19n10101111 (g19e101011111))))))))))]
  kernel_rfl
theorem s19_eq (x0 : V) (x1 : V) (x2 : V) (st : St) : s19 [x0, x1, x2] st = f19 x0 x1 x2 st := by
  have h : afn Try.prog g19mu g19T big (areg Try.prog g19mu g19T) 19 [x0, x1, x2] st = g19X (g19C []) g19kr (fun t => [x0, x1, x2].getD t (.tup [])) st := by kernel_rfl
  rw [s19, sealF_eq]
  exact h.trans (g19er _ st)
/-! sinew/sinewlaw04.JournalPlays -/
def g6mu : Nat → Bool := fun _ => false
noncomputable def g6T : Tbl := tget [(9, s9), (10, s10), (11, s11), (15, s15), (16, s16), (17, s17), (18, s18), (19, s19), (20, s20)]
theorem g6t : SimT Try.prog g6T := simT_cons sim9 ( simT_cons sim10 ( simT_cons sim11 ( simT_cons sim15 ( simT_cons sim16 ( simT_cons sim17 ( simT_cons sim18 ( simT_cons sim19 ( simT_cons sim20 (simT_nil)))))))))
noncomputable def s6 : Fn := sealF (afn Try.prog g6mu g6T big (areg Try.prog g6mu g6T) 6)
theorem sim6 : Sim Try.prog 6 s6 := (afn_sim g6t (fun m => areg_sound g6t hmix m) 6 (by kernel_rfl)).sealed
noncomputable def g6C (p : List Nat) : Code := sub (match Try.f6.body with | some c => c | none => .skip) p
noncomputable def g6X (c : Code) (K : Kon) : Env → St → Res := aexec Try.prog g6mu g6T big 112 (areg Try.prog g6mu g6T 112) c K
noncomputable def g6kr : Kon := aresK Try.prog Try.f6.results.toList
theorem g6reg {c : Code} {K : Kon} {G : Env → St → Res} {id : Nat} {ops : Array Oper} {l1 l2 : List Nat} (hc : c = .region id ops false) (hl : List.range ops.size = l1 ++ l2) (h : (fun env st => aops Try.prog g6mu g6T 112 ops l2 env st (K .normal)) = G) : g6X c K = fun env st => aops Try.prog g6mu g6T 112 ops l1 env st G := reg_cut hc hl h
theorem g6seq {c x y : Code} {K : Kon} {G : Env → St → Res} (hc : c = .seq x y) (hy : g6X y K = G) : g6X c K = g6X x (kSeq G K) := seq_cut hc hy
theorem g6blk {c x : Code} {K : Kon} {i : Nat} (hc : c = .block i x) : g6X c K = g6X x (kBlk i K) := blk_cut hc
theorem g6loop {c x : Code} {K : Kon} (hc : c = .loop x) : g6X c K = aloop (g6X x) K big := loop_cut hc
theorem g6cond {c x y : Code} {K : Kon} {v : Operand} {F G : Env → St → Res} (hc : c = .cond v x y) (hx : g6X x K = F) (hy : g6X y K = G) : g6X c K = condF v F G := cond_cut hc hx hy
noncomputable def g6k0 : Kon := kSeq (g6X (g6C [1, 1, 1, 1, 1, 1]) (g6kr)) (g6kr)
noncomputable def g6k1 : Kon := kBlk 0 (g6k0)
noncomputable def g6k2 (L11111010 : V → V → V → V → St → Res) : Kon := kSeq (fun env st => L11111010 (env 1) (env 5) (env 7) (env 9) st) (g6k1)
noncomputable def g6k3 (L11111010 : V → V → V → V → St → Res) : Kon := kSeq (g6X (g6C [1, 1, 1, 1, 1, 0, 1, 0, 0, 1, 1]) (g6k2 L11111010)) (g6k2 L11111010)
noncomputable def g6k4 (L11111010 : V → V → V → V → St → Res) : Kon := kBlk 1 (g6k3 L11111010)
noncomputable def g6b1111101001001111 (L11111010 : V → V → V → V → St → Res) (x1 : V) (x5 : V) (x7 : V) (x9 : V) (x12 : V) (x13 : V) (st : St) : Res :=
 A.un .not x13 fun a1 =>
 A.cond a1
 (some (.ret ((.bool false) : V).er1, st))
 (A.load true 4 x12 st fun a2 z3 =>
 A.store 4 x7 a2 z3 fun z4 =>
 A.bin .add x9 (.int .i64 1) fun a5 =>
 L11111010 x1 x5 x7 a5 z4)
theorem g6e1111101001001111 (L11111010 : V → V → V → V → St → Res) : g6X (g6C [1, 1, 1, 1, 1, 0, 1, 0, 0, 1, 0, 0, 1, 1, 1, 1]) (g6k4 L11111010) = fun env st => g6b1111101001001111 L11111010 (env 1) (env 5) (env 7) (env 9) (env 12) (env 13) st := by
  refine Eq.trans (Eq.refl (g6X (g6C [1, 1, 1, 1, 1, 0, 1, 0, 0, 1, 0, 0, 1, 1, 1, 1]) (g6k4 L11111010))) ?_
  funext env st
  kernel_rfl
noncomputable def g6b11111010010011 (L11111010 : V → V → V → V → St → Res) (x1 : V) (x5 : V) (x7 : V) (x9 : V) (x10 : V) (st : St) : Res :=
 A.faddr 2 x10 fun a1 =>
 A.load true 4 a1 st fun a2 z3 =>
 A.ret (s10 [a2.er1] z3) fun a4 z5 =>
 A.un .not a4 fun a6 =>
 A.cond a6
 (A.ret (s11 [] z5) fun a7 z8 =>
 some (.ret a7.er1, z8))
 (A.load true 4 x7 z5 fun a9 z10 =>
 A.load true 7 x10 z10 fun a11 z12 =>
 A.ret (s19 [x5.er1, a9.er1, a11.er1] z12) fun a13 z14 =>
 A.ext a13 0 fun a15 =>
 A.ext a13 1 fun a16 =>
 A.box (.agg [(.int .i64 0), (.int .i64 0), (.lst [] 1), (.lst [] 1)]) z14 fun a17 z18 =>
 A.store 4 a17 a15 z18 fun z19 =>
 g6b1111101001001111 L11111010 x1 x5 x7 x9 a17 a16 z19)
theorem g6n11111010010011 : g6C [1, 1, 1, 1, 1, 0, 1, 0, 0, 1, 0, 0, 1, 1] = .seq (g6C [1, 1, 1, 1, 1, 0, 1, 0, 0, 1, 0, 0, 1, 1, 0]) (g6C [1, 1, 1, 1, 1, 0, 1, 0, 0, 1, 0, 0, 1, 1, 1]) := by kernel_rfl
theorem g6n111110100100111 : g6C [1, 1, 1, 1, 1, 0, 1, 0, 0, 1, 0, 0, 1, 1, 1] = .seq (g6C [1, 1, 1, 1, 1, 0, 1, 0, 0, 1, 0, 0, 1, 1, 1, 0]) (g6C [1, 1, 1, 1, 1, 0, 1, 0, 0, 1, 0, 0, 1, 1, 1, 1]) := by kernel_rfl
theorem g6e11111010010011 (L11111010 : V → V → V → V → St → Res) : g6X (g6C [1, 1, 1, 1, 1, 0, 1, 0, 0, 1, 0, 0, 1, 1]) (g6k4 L11111010) = fun env st => g6b11111010010011 L11111010 (env 1) (env 5) (env 7) (env 9) (env 10) st := by
  refine Eq.trans (g6seq g6n11111010010011 (g6seq g6n111110100100111 (g6e1111101001001111 L11111010))) ?_
  funext env st
  kernel_rfl
noncomputable def g6k5 (L11111010 : V → V → V → V → St → Res) : Kon := kSeq (fun env st => g6b11111010010011 L11111010 (env 1) (env 5) (env 7) (env 9) (env 10) st) (g6k4 L11111010)
noncomputable def g6k6 (L11111010 : V → V → V → V → St → Res) : Kon := kBlk 2 (g6k5 L11111010)
noncomputable def g6b1111101001001010 (L11111010 : V → V → V → V → St → Res) : Nat → V → V → V → V → V → V → St → Res
| 0, _, _, _, _, _, _, _ => none
| n + 1, x1, x5, x7, x9, x10, x11, st =>
 A.faddr 6 x10 fun a1 =>
 A.load false 1 a1 st fun a2 z3 =>
 A.lenL a2 fun a4 =>
 A.bin .lss x11 a4 fun a5 =>
 A.cond a5
 (A.faddr 6 x10 fun a6 =>
 A.load false 1 a6 z3 fun a7 z8 =>
 A.iaddr 4 a7 x11 fun a9 =>
 A.load true 4 a9 z8 fun a10 z11 =>
 A.ret (s10 [a10.er1] z11) fun a12 z13 =>
 A.un .not a12 fun a14 =>
 A.guard a14 false
 (A.bin .gtr x11 (.int .i64 10) fun a15 =>
 A.cond a15
 (A.ret (s11 [] z13) fun a16 z17 =>
 some (.ret a16.er1, z17))
 (A.bin .add x11 (.int .i64 1) fun a18 =>
 (g6b1111101001001010 L11111010 n) x1 x5 x7 x9 x10 a18 z13))
 (A.ret (s11 [] z13) fun a19 z20 =>
 some (.ret a19.er1, z20)))
 (g6b11111010010011 L11111010 x1 x5 x7 x9 x10 z3)
theorem g6n1111101001001010 : g6C [1, 1, 1, 1, 1, 0, 1, 0, 0, 1, 0, 0, 1, 0, 1, 0] = .loop (g6C [1, 1, 1, 1, 1, 0, 1, 0, 0, 1, 0, 0, 1, 0, 1, 0, 0]) := by kernel_rfl
noncomputable def g6k7 (L11111010 : V → V → V → V → St → Res) (L1111101001001010 : V → V → V → V → V → V → St → Res) : Kon := kSeq (fun env st => L1111101001001010 (env 1) (env 5) (env 7) (env 9) (env 10) (env 11) st) (g6k6 L11111010)
theorem g6e1111101001001010 (L11111010 : V → V → V → V → St → Res) : g6X (g6C [1, 1, 1, 1, 1, 0, 1, 0, 0, 1, 0, 0, 1, 0, 1, 0]) (g6k6 L11111010) = fun env st => g6b1111101001001010 L11111010 big (env 1) (env 5) (env 7) (env 9) (env 10) (env 11) st := by
  have key : ∀ n, aloop (g6X (g6C [1, 1, 1, 1, 1, 0, 1, 0, 0, 1, 0, 0, 1, 0, 1, 0, 0])) (g6k6 L11111010) n = fun env st => g6b1111101001001010 L11111010 n (env 1) (env 5) (env 7) (env 9) (env 10) (env 11) st := by
    intro n
    induction n with
    | zero => rfl
    | succ n ih =>
      have h : aloop (g6X (g6C [1, 1, 1, 1, 1, 0, 1, 0, 0, 1, 0, 0, 1, 0, 1, 0, 0])) (g6k6 L11111010) (n + 1) = g6X (g6C [1, 1, 1, 1, 1, 0, 1, 0, 0, 1, 0, 0, 1, 0, 1, 0, 0]) (kSeq (aloop (g6X (g6C [1, 1, 1, 1, 1, 0, 1, 0, 0, 1, 0, 0, 1, 0, 1, 0, 0])) (g6k6 L11111010) n) (g6k6 L11111010)) := rfl
      rw [h, ih]
      refine Eq.trans (Eq.refl _) ?_
      funext env st
      kernel_rfl
  exact (g6loop g6n1111101001001010).trans (key big)
noncomputable def g6b1111101001 (L11111010 : V → V → V → V → St → Res) (x1 : V) (x5 : V) (x7 : V) (x9 : V) (st : St) : Res :=
 A.iaddr 7 x1 x9 fun a1 =>
 A.load true 7 a1 st fun a2 z3 =>
 A.box (.agg [(.int .i64 0), (.int .i64 0), (.int .i64 0), (.lst [] 1), (.lst [] 1), (.lst [] 1), (.lst [] 1)]) z3 fun a4 z5 =>
 A.store 7 a4 a2 z5 fun z6 =>
 g6b1111101001001010 L11111010 big x1 x5 x7 x9 a4 (.int .i64 0) z6
theorem g6n1111101001 : g6C [1, 1, 1, 1, 1, 0, 1, 0, 0, 1] = .seq (g6C [1, 1, 1, 1, 1, 0, 1, 0, 0, 1, 0]) (g6C [1, 1, 1, 1, 1, 0, 1, 0, 0, 1, 1]) := by kernel_rfl
theorem g6n11111010010 : g6C [1, 1, 1, 1, 1, 0, 1, 0, 0, 1, 0] = .block 1 (g6C [1, 1, 1, 1, 1, 0, 1, 0, 0, 1, 0, 0]) := by kernel_rfl
theorem g6n111110100100 : g6C [1, 1, 1, 1, 1, 0, 1, 0, 0, 1, 0, 0] = .seq (g6C [1, 1, 1, 1, 1, 0, 1, 0, 0, 1, 0, 0, 0]) (g6C [1, 1, 1, 1, 1, 0, 1, 0, 0, 1, 0, 0, 1]) := by kernel_rfl
theorem g6n1111101001001 : g6C [1, 1, 1, 1, 1, 0, 1, 0, 0, 1, 0, 0, 1] = .seq (g6C [1, 1, 1, 1, 1, 0, 1, 0, 0, 1, 0, 0, 1, 0]) (g6C [1, 1, 1, 1, 1, 0, 1, 0, 0, 1, 0, 0, 1, 1]) := by kernel_rfl
theorem g6n11111010010010 : g6C [1, 1, 1, 1, 1, 0, 1, 0, 0, 1, 0, 0, 1, 0] = .seq (g6C [1, 1, 1, 1, 1, 0, 1, 0, 0, 1, 0, 0, 1, 0, 0]) (g6C [1, 1, 1, 1, 1, 0, 1, 0, 0, 1, 0, 0, 1, 0, 1]) := by kernel_rfl
theorem g6n111110100100101 : g6C [1, 1, 1, 1, 1, 0, 1, 0, 0, 1, 0, 0, 1, 0, 1] = .block 2 (g6C [1, 1, 1, 1, 1, 0, 1, 0, 0, 1, 0, 0, 1, 0, 1, 0]) := by kernel_rfl
theorem g6e1111101001 (L11111010 : V → V → V → V → St → Res) : g6X (g6C [1, 1, 1, 1, 1, 0, 1, 0, 0, 1]) (g6k2 L11111010) = fun env st => g6b1111101001 L11111010 (env 1) (env 5) (env 7) (env 9) st := by
  refine Eq.trans ((g6seq g6n1111101001 rfl).trans ((g6blk g6n11111010010).trans (g6seq g6n111110100100 ((g6seq g6n1111101001001 (g6e11111010010011 L11111010)).trans (g6seq g6n11111010010010 ((g6blk g6n111110100100101).trans (g6e1111101001001010 L11111010))))))) ?_
  funext env st
  kernel_rfl
noncomputable def g6b11111010 : Nat → V → V → V → V → St → Res
| 0, _, _, _, _, _ => none
| n + 1, x1, x5, x7, x9, st =>
 A.lenL x1 fun a1 =>
 A.bin .lss x9 a1 fun a2 =>
 A.guard a2 true
 (A.bin .lss x9 (.int .i64 100) fun a3 =>
 A.cond a3
 (g6b1111101001 (g6b11111010 n) x1 x5 x7 x9 st)
 (A.ret (s17 [x5.er1] st) fun a4 z5 =>
 A.ext a4 0 fun a6 =>
 A.ext a4 1 fun a7 =>
 A.noP (A.ret (s15 [x5.er1] z5) kid) fun a8 z9 =>
 A.faddr 2 x7 fun a10 =>
 A.load false 1 a10 z9 fun a11 _ =>
 A.chk (ldv false 1 a10 z5) a11
 (A.ret (A.ret (s16 [a8.er1, a11.er1] z9) kid) fun a12 z13 =>
 A.guard a12 true
 (A.load true 4 x7 z13 fun a14 _ =>
 A.ret (A.ret (s20 [a14.er1] z13) kid) fun a15 z16 =>
 A.eql 2 false a6 a15 fun a17 =>
 A.guard a17 true
 (A.faddr 1 x7 fun a18 =>
 A.load false 1 a18 z16 fun a19 _ =>
 A.eql 2 false a7 a19 fun a20 =>
 A.guard a20 true
 (A.ret (A.ret (s11 [] z16) kid) fun a21 z22 =>
 some (.ret a21.er1, z22))
 (some (.ret ((.bool false) : V).er1, z16)))
 (some (.ret ((.bool false) : V).er1, z16)))
 (some (.ret ((.bool false) : V).er1, z13)))))
 (A.ret (s17 [x5.er1] st) fun a23 z24 =>
 A.ext a23 0 fun a25 =>
 A.ext a23 1 fun a26 =>
 A.noP (A.ret (s15 [x5.er1] z24) kid) fun a27 z28 =>
 A.faddr 2 x7 fun a29 =>
 A.load false 1 a29 z28 fun a30 _ =>
 A.chk (ldv false 1 a29 z24) a30
 (A.ret (A.ret (s16 [a27.er1, a30.er1] z28) kid) fun a31 z32 =>
 A.guard a31 true
 (A.load true 4 x7 z32 fun a33 _ =>
 A.ret (A.ret (s20 [a33.er1] z32) kid) fun a34 z35 =>
 A.eql 2 false a25 a34 fun a36 =>
 A.guard a36 true
 (A.faddr 1 x7 fun a37 =>
 A.load false 1 a37 z35 fun a38 _ =>
 A.eql 2 false a26 a38 fun a39 =>
 A.guard a39 true
 (A.ret (A.ret (s11 [] z35) kid) fun a40 z41 =>
 some (.ret a40.er1, z41))
 (some (.ret ((.bool false) : V).er1, z35)))
 (some (.ret ((.bool false) : V).er1, z35)))
 (some (.ret ((.bool false) : V).er1, z32))))
theorem g6n11111010 : g6C [1, 1, 1, 1, 1, 0, 1, 0] = .loop (g6C [1, 1, 1, 1, 1, 0, 1, 0, 0]) := by kernel_rfl
theorem g6n111110100 : g6C [1, 1, 1, 1, 1, 0, 1, 0, 0] = .seq (g6C [1, 1, 1, 1, 1, 0, 1, 0, 0, 0]) (g6C [1, 1, 1, 1, 1, 0, 1, 0, 0, 1]) := by kernel_rfl
theorem g6e11111010 : g6X (g6C [1, 1, 1, 1, 1, 0, 1, 0]) (g6k1) = fun env st => g6b11111010 big (env 1) (env 5) (env 7) (env 9) st := by
  have key : ∀ n, aloop (g6X (g6C [1, 1, 1, 1, 1, 0, 1, 0, 0])) (g6k1) n = fun env st => g6b11111010 n (env 1) (env 5) (env 7) (env 9) st := by
    intro n
    induction n with
    | zero => rfl
    | succ n ih =>
      have h : aloop (g6X (g6C [1, 1, 1, 1, 1, 0, 1, 0, 0])) (g6k1) (n + 1) = g6X (g6C [1, 1, 1, 1, 1, 0, 1, 0, 0]) (kSeq (aloop (g6X (g6C [1, 1, 1, 1, 1, 0, 1, 0, 0])) (g6k1) n) (g6k1)) := rfl
      rw [h, ih]
      refine Eq.trans (g6seq g6n111110100 (g6e1111101001 (g6b11111010 n))) ?_
      funext env st
      kernel_rfl
  exact (g6loop g6n11111010).trans (key big)
noncomputable def g6b1111 (x1 : V) (x5 : V) (x7 : V) (st : St) : Res :=
 A.eql 4 false x5 .ptr0 fun a1 =>
 A.cond a1
 (A.ret (s11 [] st) fun a2 z3 =>
 some (.ret a2.er1, z3))
 (g6b11111010 big x1 x5 x7 (.int .i64 0) st)
theorem g6n1111 : g6C [1, 1, 1, 1] = .seq (g6C [1, 1, 1, 1, 0]) (g6C [1, 1, 1, 1, 1]) := by kernel_rfl
theorem g6n11111 : g6C [1, 1, 1, 1, 1] = .seq (g6C [1, 1, 1, 1, 1, 0]) (g6C [1, 1, 1, 1, 1, 1]) := by kernel_rfl
theorem g6n111110 : g6C [1, 1, 1, 1, 1, 0] = .seq (g6C [1, 1, 1, 1, 1, 0, 0]) (g6C [1, 1, 1, 1, 1, 0, 1]) := by kernel_rfl
theorem g6n1111101 : g6C [1, 1, 1, 1, 1, 0, 1] = .block 0 (g6C [1, 1, 1, 1, 1, 0, 1, 0]) := by kernel_rfl
theorem g6e1111 : g6X (g6C [1, 1, 1, 1]) (g6kr) = fun env st => g6b1111 (env 1) (env 5) (env 7) st := by
  refine Eq.trans (g6seq g6n1111 ((g6seq g6n11111 rfl).trans (g6seq g6n111110 ((g6blk g6n1111101).trans (g6e11111010))))) ?_
  funext env st
  kernel_rfl
noncomputable def g6b111 (x1 : V) (x5 : V) (x6 : V) (x7 : V) (x8 : V) (st : St) : Res :=
 A.eql 2 true x6 x8 fun a1 =>
 A.guard a1 false
 (A.eql 4 true x5 .ptr0 fun a2 =>
 A.eql 2 false x8 (.int .i64 0) fun a3 =>
 A.eql 1 true a2 a3 fun a4 =>
 A.cond a4
 (some (.ret ((.bool false) : V).er1, st))
 (g6b1111 x1 x5 x7 st))
 (some (.ret ((.bool false) : V).er1, st))
theorem g6n111 : g6C [1, 1, 1] = .seq (g6C [1, 1, 1, 0]) (g6C [1, 1, 1, 1]) := by kernel_rfl
theorem g6e111 : g6X (g6C [1, 1, 1]) (g6kr) = fun env st => g6b111 (env 1) (env 5) (env 6) (env 7) (env 8) st := by
  refine Eq.trans (g6seq g6n111 (g6e1111)) ?_
  funext env st
  kernel_rfl
noncomputable def f6 (x0 : V) (x1 : V) (st : St) : Res :=
 A.ret (s9 [x0.er1] st) fun a1 z2 =>
 A.ext a1 0 fun a3 =>
 A.ext a1 1 fun a4 =>
 A.ret (s18 [x0.er1] z2) fun a5 z6 =>
 A.ext a5 0 fun a7 =>
 A.ext a5 1 fun a8 =>
 A.box (.agg [(.int .i64 0), (.int .i64 0), (.lst [] 1), (.lst [] 1)]) z6 fun a9 z10 =>
 A.store 4 a9 a7 z10 fun z11 =>
 g6b111 x1 a3 a4 a9 a8 z11
theorem g6nr : g6C [] = .seq (g6C [0]) (g6C [1]) := by kernel_rfl
theorem g6n1 : g6C [1] = .seq (g6C [1, 0]) (g6C [1, 1]) := by kernel_rfl
theorem g6n11 : g6C [1, 1] = .seq (g6C [1, 1, 0]) (g6C [1, 1, 1]) := by kernel_rfl
theorem g6er (env : Env) (st : St) : g6X (g6C []) g6kr env st = f6 (env 0) (env 1) st := by
  rw [(g6seq g6nr (g6seq g6n1 (g6seq g6n11 (g6e111))))]
  kernel_rfl
theorem s6_eq (x0 : V) (x1 : V) (st : St) : s6 [x0, x1] st = f6 x0 x1 st := by
  have h : afn Try.prog g6mu g6T big (areg Try.prog g6mu g6T) 6 [x0, x1] st = g6X (g6C []) g6kr (fun t => [x0, x1].getD t (.tup [])) st := by kernel_rfl
  rw [s6, sealF_eq]
  exact h.trans (g6er _ st)
end Go.Ab
