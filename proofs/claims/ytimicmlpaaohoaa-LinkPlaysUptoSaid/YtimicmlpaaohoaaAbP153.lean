import Derived.Test.YtimicmlpaaohoaaAbQuiet
import Derived.Test.YtimicmlpaaohoaaAbP152
namespace Go.Ab
open Go.Proofs
set_option linter.unusedVariables false
set_option maxRecDepth 100000
/-! sinew/wire.of$2 -/
def g84mu : Nat → Bool := fun _ => false
noncomputable def g84T : Tbl := tget [(85, s85)]
theorem g84t : SimT Try.prog g84T := simT_cons sim85 (simT_nil)
noncomputable def s84 : Fn := sealF (afn Try.prog g84mu g84T big (areg Try.prog g84mu g84T) 84)
theorem sim84 : Sim Try.prog 84 s84 := (afn_sim g84t (fun m => areg_sound g84t hmix m) 84 (by kernel_rfl)).sealed
noncomputable def g84C (p : List Nat) : Code := sub (match Try.f84.body with | some c => c | none => .skip) p
noncomputable def g84X (c : Code) (K : Kon) : Env → St → Res := aexec Try.prog g84mu g84T big 22 (areg Try.prog g84mu g84T 22) c K
noncomputable def g84kr : Kon := aresK Try.prog Try.f84.results.toList
theorem g84reg {c : Code} {K : Kon} {G : Env → St → Res} {id : Nat} {ops : Array Oper} {l1 l2 : List Nat} (hc : c = .region id ops false) (hl : List.range ops.size = l1 ++ l2) (h : (fun env st => aops Try.prog g84mu g84T 22 ops l2 env st (K .normal)) = G) : g84X c K = fun env st => aops Try.prog g84mu g84T 22 ops l1 env st G := reg_cut hc hl h
theorem g84seq {c x y : Code} {K : Kon} {G : Env → St → Res} (hc : c = .seq x y) (hy : g84X y K = G) : g84X c K = g84X x (kSeq G K) := seq_cut hc hy
theorem g84blk {c x : Code} {K : Kon} {i : Nat} (hc : c = .block i x) : g84X c K = g84X x (kBlk i K) := blk_cut hc
theorem g84loop {c x : Code} {K : Kon} (hc : c = .loop x) : g84X c K = aloop (g84X x) K big := loop_cut hc
theorem g84cond {c x y : Code} {K : Kon} {v : Operand} {F G : Env → St → Res} (hc : c = .cond v x y) (hx : g84X x K = F) (hy : g84X y K = G) : g84X c K = condF v F G := cond_cut hc hx hy
noncomputable def g84b111 (x0 : V) (x3 : V) (x4 : V) (st : St) : Res :=
 A.load false 1 x0 st fun a1 z2 =>
 A.sliceS a1 (some x4) none fun a3 =>
 A.store 1 x0 a3 z2 fun z4 =>
 some (.ret x3.er1, z4)
theorem g84e111 : g84X (g84C [1, 1, 1]) (g84kr) = fun env st => g84b111 (env 0) (env 3) (env 4) st := by
  refine Eq.trans (Eq.refl (g84X (g84C [1, 1, 1]) (g84kr))) ?_
  funext env st
  kernel_rfl
noncomputable def f84 (x0 : V) (x1 : V) (st : St) : Res :=
 A.load false 1 x0 st fun a1 z2 =>
 A.ret (s85 [a1.er1] z2) fun a3 z4 =>
 A.ext a3 0 fun a5 =>
 A.ext a3 1 fun a6 =>
 A.ext a3 2 fun a7 =>
 A.load false 1 x1 z4 fun a8 z9 =>
 A.un .not a8 fun a10 =>
 A.guard a10 false
 (A.eql 2 true a7 (.int .i64 0) fun a11 =>
 A.cond a11
 (A.store 1 x1 (.bool false) z9 fun z12 =>
 some (.ret ((.lst [] 1) : V).er1, z12))
 (g84b111 x0 a5 a6 z9))
 (A.store 1 x1 (.bool false) z9 fun z13 =>
 some (.ret ((.lst [] 1) : V).er1, z13))
theorem g84nr : g84C [] = .seq (g84C [0]) (g84C [1]) := by kernel_rfl
theorem g84n1 : g84C [1] = .seq (g84C [1, 0]) (g84C [1, 1]) := by kernel_rfl
theorem g84n11 : g84C [1, 1] = .seq (g84C [1, 1, 0]) (g84C [1, 1, 1]) := by kernel_rfl
theorem g84er (env : Env) (st : St) : g84X (g84C []) g84kr env st = f84 (env 0) (env 1) st := by
  rw [(g84seq g84nr (g84seq g84n1 (g84seq g84n11 (g84e111))))]
  kernel_rfl
theorem s84_eq (x0 : V) (x1 : V) (st : St) : s84 [x0, x1] st = f84 x0 x1 st := by
  have h : afn Try.prog g84mu g84T big (areg Try.prog g84mu g84T) 84 [x0, x1] st = g84X (g84C []) g84kr (fun t => [x0, x1].getD t (.tup [])) st := by kernel_rfl
  rw [s84, sealF_eq]
  exact h.trans (g84er _ st)
/-! sinew/wire.of -/
def g76mu : Nat → Bool := fun _ => false
noncomputable def g76T : Tbl := tget [(51, s51), (82, s82), (84, s84)]
theorem g76t : SimT Try.prog g76T := simT_cons sim51 ( simT_cons sim82 ( simT_cons sim84 (simT_nil)))
noncomputable def s76 : Fn := sealF (fun args st => fg (afn Try.prog g76mu g76T big (areg Try.prog g76mu g76T) 76 args st) st)
theorem sim76 : Sim Try.prog 76 s76 := (afn_sim g76t (fun m => areg_sound g76t hmix m) 76 (by kernel_rfl)).fg.sealed
noncomputable def g76C (p : List Nat) : Code := sub (match Try.f76.body with | some c => c | none => .skip) p
noncomputable def g76X (c : Code) (K : Kon) : Env → St → Res := aexec Try.prog g76mu g76T big 48 (areg Try.prog g76mu g76T 48) c K
noncomputable def g76kr : Kon := aresK Try.prog Try.f76.results.toList
theorem g76reg {c : Code} {K : Kon} {G : Env → St → Res} {id : Nat} {ops : Array Oper} {l1 l2 : List Nat} (hc : c = .region id ops false) (hl : List.range ops.size = l1 ++ l2) (h : (fun env st => aops Try.prog g76mu g76T 48 ops l2 env st (K .normal)) = G) : g76X c K = fun env st => aops Try.prog g76mu g76T 48 ops l1 env st G := reg_cut hc hl h
theorem g76seq {c x y : Code} {K : Kon} {G : Env → St → Res} (hc : c = .seq x y) (hy : g76X y K = G) : g76X c K = g76X x (kSeq G K) := seq_cut hc hy
theorem g76blk {c x : Code} {K : Kon} {i : Nat} (hc : c = .block i x) : g76X c K = g76X x (kBlk i K) := blk_cut hc
theorem g76loop {c x : Code} {K : Kon} (hc : c = .loop x) : g76X c K = aloop (g76X x) K big := loop_cut hc
theorem g76cond {c x y : Code} {K : Kon} {v : Operand} {F G : Env → St → Res} (hc : c = .cond v x y) (hx : g76X x K = F) (hy : g76X y K = G) : g76X c K = condF v F G := cond_cut hc hx hy
noncomputable def g76k0 : Kon := kSeq (g76X (g76C [1, 1, 1, 1, 1, 1, 1, 1]) (g76kr)) (g76kr)
noncomputable def g76k1 : Kon := kBlk 2 (g76k0)
noncomputable def g76bz1kq : Nat → V → V → V → V → V → V → St → Res
| 0, _, _, _, _, _, _, _ => none
| n + 1, x1, x2, x3, x5, x27, x28, st =>
 A.bin .lss x28 x27 fun a1 =>
 A.cond a1
 (A.faddr 3 x2 fun a2 =>
 A.load false 1 a2 st fun a3 _ =>
 A.noP (A.call g76T x5 [] st kid) fun a4 z5 =>
 A.chk (ldv false 1 a2 z5) a3
 (A.bslice 1 (.lst [] 1) 1 [(0, a4)] fun a6 =>
 A.noP (A.app 1 a3 (elemsOf 5 1 a6 z5) z5 kid) fun a7 z8 =>
 A.faddr 3 x2 fun a9 =>
 A.noP (A.store 1 a9 a7 z8 fun s => kid (.tup []) s) fun a10 z11 =>
 A.bin .add x28 (.int .i64 1) fun a12 =>
 (g76bz1kq n) x1 x2 x3 x5 x27 a12 z11))
 (A.load true 4 x2 st fun a13 _ =>
 A.load false 1 x3 st fun a14 _ =>
 A.guard a14 true
 (A.load false 1 x1 st fun a15 _ =>
 A.eql 3 false a15 (.str []) fun a16 =>
 A.guard a16 true
 (A.load true 4 x2 st fun a17 _ =>
 A.noP (A.ret (s51 [a17.er1] st) kid) fun a18 z19 =>
 A.chk (ldv true 4 x2 z19) a13
 (A.noP (A.store 4 x2 a13 z19 fun s => kid (.tup []) s) fun a20 z21 =>
 A.noP (A.store 1 x3 a18 z21 fun s => kid (.tup []) s) fun a22 z23 =>
 A.res (rcell (A.load true 4 x2 z23 kid) (rcell (A.load false 1 x3 z23 kid) (some []))) z23))
 (A.noP (A.store 4 x2 a13 st fun s => kid (.tup []) s) fun a24 z25 =>
 A.noP (A.store 1 x3 (.bool false) z25 fun s => kid (.tup []) s) fun a26 z27 =>
 A.res (rcell (A.load true 4 x2 z27 kid) (rcell (A.load false 1 x3 z27 kid) (some []))) z27))
 (A.noP (A.store 4 x2 a13 st fun s => kid (.tup []) s) fun a28 z29 =>
 A.noP (A.store 1 x3 (.bool false) z29 fun s => kid (.tup []) s) fun a30 z31 =>
 A.res (rcell (A.load true 4 x2 z31 kid) (rcell (A.load false 1 x3 z31 kid) (some []))) z31))
theorem g76nz1kq : g76C [1, 1, 1, 1, 1, 1, 1, 0, 1, 0] = .loop (g76C [1, 1, 1, 1, 1, 1, 1, 0, 1, 0, 0]) := by kernel_rfl
noncomputable def g76k2 (Lz1kq : V → V → V → V → V → V → St → Res) : Kon := kSeq (fun env st => Lz1kq (env 1) (env 2) (env 3) (env 5) (env 27) (env 28) st) (g76k1)
theorem g76ez1kq : g76X (g76C [1, 1, 1, 1, 1, 1, 1, 0, 1, 0]) (g76k1) = fun env st => g76bz1kq big (env 1) (env 2) (env 3) (env 5) (env 27) (env 28) st := by
  have key : ∀ n, aloop (g76X (g76C [1, 1, 1, 1, 1, 1, 1, 0, 1, 0, 0])) (g76k1) n = fun env st => g76bz1kq n (env 1) (env 2) (env 3) (env 5) (env 27) (env 28) st := by
    intro n
    induction n with
    | zero => rfl
    | succ n ih =>
      have h : aloop (g76X (g76C [1, 1, 1, 1, 1, 1, 1, 0, 1, 0, 0])) (g76k1) (n + 1) = g76X (g76C [1, 1, 1, 1, 1, 1, 1, 0, 1, 0, 0]) (kSeq (aloop (g76X (g76C [1, 1, 1, 1, 1, 1, 1, 0, 1, 0, 0])) (g76k1) n) (g76k1)) := rfl
      rw [h, ih]
      refine Eq.trans (Eq.refl _) ?_
      funext env st
      kernel_rfl
  exact (g76loop g76nz1kq).trans (key big)
noncomputable def g76bz3j (x1 : V) (x2 : V) (x3 : V) (x4 : V) (x5 : V) (st : St) : Res :=
 A.call g76T x5 [] st fun a1 z2 =>
 A.faddr 2 x2 fun a3 =>
 A.store 1 a3 a1 z2 fun z4 =>
 A.call g76T x4 [(.int .i64 4096)] z4 fun a5 z6 =>
 g76bz1kq big x1 x2 x3 x5 a5 (.int .i64 0) z6
theorem g76nz3j : g76C [1, 1, 1, 1, 1, 1] = .seq (g76C [1, 1, 1, 1, 1, 1, 0]) (g76C [1, 1, 1, 1, 1, 1, 1]) := by kernel_rfl
theorem g76nz73 : g76C [1, 1, 1, 1, 1, 1, 1] = .seq (g76C [1, 1, 1, 1, 1, 1, 1, 0]) (g76C [1, 1, 1, 1, 1, 1, 1, 1]) := by kernel_rfl
theorem g76nze6 : g76C [1, 1, 1, 1, 1, 1, 1, 0] = .seq (g76C [1, 1, 1, 1, 1, 1, 1, 0, 0]) (g76C [1, 1, 1, 1, 1, 1, 1, 0, 1]) := by kernel_rfl
theorem g76nzsd : g76C [1, 1, 1, 1, 1, 1, 1, 0, 1] = .block 2 (g76C [1, 1, 1, 1, 1, 1, 1, 0, 1, 0]) := by kernel_rfl
theorem g76ez3j : g76X (g76C [1, 1, 1, 1, 1, 1]) (g76kr) = fun env st => g76bz3j (env 1) (env 2) (env 3) (env 4) (env 5) st := by
  refine Eq.trans (g76seq g76nz3j ((g76seq g76nz73 rfl).trans (g76seq g76nze6 ((g76blk g76nzsd).trans (g76ez1kq))))) ?_
  funext env st
  kernel_rfl
noncomputable def g76k3 : Kon := kSeq (fun env st => g76bz3j (env 1) (env 2) (env 3) (env 4) (env 5) st) (g76kr)
noncomputable def g76k4 : Kon := kBlk 0 (g76k3)
noncomputable def g76bze2 : Nat → V → V → V → V → V → V → V → St → Res
| 0, _, _, _, _, _, _, _, _ => none
| n + 1, x1, x2, x3, x4, x5, x12, x13, st =>
 A.bin .lss x13 x12 fun a1 =>
 A.cond a1
 (A.faddr 1 x2 fun a2 =>
 A.load false 1 a2 st fun a3 _ =>
 A.noP (A.call g76T x4 [(.int .i64 4611686018427387903)] st kid) fun a4 z5 =>
 A.chk (ldv false 1 a2 z5) a3
 (A.bslice 1 (.int .i64 0) 1 [(0, a4)] fun a6 =>
 A.noP (A.app 1 a3 (elemsOf 5 1 a6 z5) z5 kid) fun a7 z8 =>
 A.faddr 1 x2 fun a9 =>
 A.noP (A.store 1 a9 a7 z8 fun s => kid (.tup []) s) fun a10 z11 =>
 A.bin .add x13 (.int .i64 1) fun a12 =>
 (g76bze2 n) x1 x2 x3 x4 x5 x12 a12 z11))
 (g76bz3j x1 x2 x3 x4 x5 st)
theorem g76nze2 : g76C [1, 1, 1, 1, 1, 0, 1, 0] = .loop (g76C [1, 1, 1, 1, 1, 0, 1, 0, 0]) := by kernel_rfl
noncomputable def g76k5 (Lze2 : V → V → V → V → V → V → V → St → Res) : Kon := kSeq (fun env st => Lze2 (env 1) (env 2) (env 3) (env 4) (env 5) (env 12) (env 13) st) (g76k4)
theorem g76eze2 : g76X (g76C [1, 1, 1, 1, 1, 0, 1, 0]) (g76k4) = fun env st => g76bze2 big (env 1) (env 2) (env 3) (env 4) (env 5) (env 12) (env 13) st := by
  have key : ∀ n, aloop (g76X (g76C [1, 1, 1, 1, 1, 0, 1, 0, 0])) (g76k4) n = fun env st => g76bze2 n (env 1) (env 2) (env 3) (env 4) (env 5) (env 12) (env 13) st := by
    intro n
    induction n with
    | zero => rfl
    | succ n ih =>
      have h : aloop (g76X (g76C [1, 1, 1, 1, 1, 0, 1, 0, 0])) (g76k4) (n + 1) = g76X (g76C [1, 1, 1, 1, 1, 0, 1, 0, 0]) (kSeq (aloop (g76X (g76C [1, 1, 1, 1, 1, 0, 1, 0, 0])) (g76k4) n) (g76k4)) := rfl
      rw [h, ih]
      refine Eq.trans (Eq.refl _) ?_
      funext env st
      kernel_rfl
  exact (g76loop g76nze2).trans (key big)
noncomputable def g76b11111 (x1 : V) (x2 : V) (x3 : V) (x4 : V) (x5 : V) (st : St) : Res :=
 A.call g76T x4 [(.int .i64 64)] st fun a1 z2 =>
 g76bze2 big x1 x2 x3 x4 x5 a1 (.int .i64 0) z2
theorem g76n11111 : g76C [1, 1, 1, 1, 1] = .seq (g76C [1, 1, 1, 1, 1, 0]) (g76C [1, 1, 1, 1, 1, 1]) := by kernel_rfl
theorem g76nz3i : g76C [1, 1, 1, 1, 1, 0] = .seq (g76C [1, 1, 1, 1, 1, 0, 0]) (g76C [1, 1, 1, 1, 1, 0, 1]) := by kernel_rfl
theorem g76nz71 : g76C [1, 1, 1, 1, 1, 0, 1] = .block 0 (g76C [1, 1, 1, 1, 1, 0, 1, 0]) := by kernel_rfl
theorem g76e11111 : g76X (g76C [1, 1, 1, 1, 1]) (g76kr) = fun env st => g76b11111 (env 1) (env 2) (env 3) (env 4) (env 5) st := by
  refine Eq.trans ((g76seq g76n11111 (g76ez3j)).trans (g76seq g76nz3i ((g76blk g76nz71).trans (g76eze2)))) ?_
  funext env st
  kernel_rfl
noncomputable def f76 (x0 : V) (st : St) : Res :=
 A.box x0 st fun a1 z2 =>
 A.box (.agg [(.int .i64 0), (.lst [] 1), (.lst [] 1), (.lst [] 1)]) z2 fun a3 z4 =>
 A.box (.bool false) z4 fun a5 z6 =>
 A.store 1 a5 (.bool true) z6 fun z7 =>
 A.call g76T (.fn 82 [] [a1, a5]) [(.int .i64 255)] z7 fun a8 z9 =>
 A.faddr 0 a3 fun a10 =>
 A.store 1 a10 a8 z9 fun z11 =>
 g76b11111 a1 a3 a5 (.fn 82 [] [a1, a5]) (.fn 84 [] [a1, a5]) z11
theorem g76nr : g76C [] = .seq (g76C [0]) (g76C [1]) := by kernel_rfl
theorem g76n1 : g76C [1] = .seq (g76C [1, 0]) (g76C [1, 1]) := by kernel_rfl
theorem g76n11 : g76C [1, 1] = .seq (g76C [1, 1, 0]) (g76C [1, 1, 1]) := by kernel_rfl
theorem g76n111 : g76C [1, 1, 1] = .seq (g76C [1, 1, 1, 0]) (g76C [1, 1, 1, 1]) := by kernel_rfl
theorem g76n1111 : g76C [1, 1, 1, 1] = .seq (g76C [1, 1, 1, 1, 0]) (g76C [1, 1, 1, 1, 1]) := by kernel_rfl
theorem g76er (env : Env) (st : St) : g76X (g76C []) g76kr env st = f76 (env 0) st := by
  rw [(g76seq g76nr (g76seq g76n1 (g76seq g76n11 (g76seq g76n111 (g76seq g76n1111 (g76e11111))))))]
  kernel_rfl
theorem s76_eq (x0 : V) (st : St) : s76 [x0] st = fg (f76 x0 st) st := by
  have h : afn Try.prog g76mu g76T big (areg Try.prog g76mu g76T) 76 [x0] st = g76X (g76C []) g76kr (fun t => [x0].getD t (.tup [])) st := by kernel_rfl
  rw [s76, sealF_eq]
  show fg _ st = fg _ st
  refine congrArg (fun r => fg r st) ?_
  exact h.trans (g76er _ st)
/-! sinew/wire.Unpack -/
def g64mu : Nat → Bool := fun _ => false
noncomputable def g64T : Tbl := tget [(43, s43), (75, s75), (76, s76)]
theorem g64t : SimT Try.prog g64T := simT_cons sim43 ( simT_cons sim75 ( simT_cons sim76 (simT_nil)))
noncomputable def s64 : Fn := sealF (fun args st => fg (afn Try.prog g64mu g64T big (areg Try.prog g64mu g64T) 64 args st) st)
theorem sim64 : Sim Try.prog 64 s64 := (afn_sim g64t (fun m => areg_sound g64t hmix m) 64 (by kernel_rfl)).fg.sealed
noncomputable def g64C (p : List Nat) : Code := sub (match Try.f64.body with | some c => c | none => .skip) p
noncomputable def g64X (c : Code) (K : Kon) : Env → St → Res := aexec Try.prog g64mu g64T big 45 (areg Try.prog g64mu g64T 45) c K
noncomputable def g64kr : Kon := aresK Try.prog Try.f64.results.toList
theorem g64reg {c : Code} {K : Kon} {G : Env → St → Res} {id : Nat} {ops : Array Oper} {l1 l2 : List Nat} (hc : c = .region id ops false) (hl : List.range ops.size = l1 ++ l2) (h : (fun env st => aops Try.prog g64mu g64T 45 ops l2 env st (K .normal)) = G) : g64X c K = fun env st => aops Try.prog g64mu g64T 45 ops l1 env st G := reg_cut hc hl h
theorem g64seq {c x y : Code} {K : Kon} {G : Env → St → Res} (hc : c = .seq x y) (hy : g64X y K = G) : g64X c K = g64X x (kSeq G K) := seq_cut hc hy
theorem g64blk {c x : Code} {K : Kon} {i : Nat} (hc : c = .block i x) : g64X c K = g64X x (kBlk i K) := blk_cut hc
theorem g64loop {c x : Code} {K : Kon} (hc : c = .loop x) : g64X c K = aloop (g64X x) K big := loop_cut hc
theorem g64cond {c x y : Code} {K : Kon} {v : Operand} {F G : Env → St → Res} (hc : c = .cond v x y) (hx : g64X x K = F) (hy : g64X y K = G) : g64X c K = condF v F G := cond_cut hc hx hy
noncomputable def g64k0 : Kon := kSeq (g64X (g64C [1, 1, 1, 1, 1, 1]) (g64kr)) (g64kr)
noncomputable def g64bz71 (x2 : V) (x3 : V) (x41 : V) (st : St) : Res :=
 A.cond x41
 (A.build [(.int .i64 0), (.lst [] 1), (.lst [] 1), (.lst [] 1)] [] fun a1 =>
 A.store 4 x2 a1 st fun z2 =>
 A.res (rcell (A.load true 4 x2 z2 kid) (rtmp (.int .i64 0) (rtmp (.int .i64 31) (some [])))) z2)
 (A.load true 4 x2 st fun a3 z4 =>
 A.store 4 x2 a3 z4 fun z5 =>
 A.res (rcell (A.load true 4 x2 z5 kid) (rtmp x3 (rtmp (.int .i64 0) (some [])))) z5)
theorem g64ez71 : g64X (g64C [1, 1, 1, 1, 1, 0, 1]) (g64k0) = fun env st => g64bz71 (env 2) (env 3) (env 41) st := by
  refine Eq.trans (Eq.refl (g64X (g64C [1, 1, 1, 1, 1, 0, 1]) (g64k0))) ?_
  funext env st
  kernel_rfl
noncomputable def g64b1111 (x0 : V) (x2 : V) (x3 : V) (st : St) : Res :=
 A.sliceS x0 (some (.int .i64 8)) (some x3) fun a1 =>
 A.ret (s76 [a1.er1] st) fun a2 z3 =>
 A.ext a2 0 fun a4 =>
 A.ext a2 1 fun a5 =>
 A.store 4 x2 a4 z3 fun z6 =>
 A.un .not a5 fun a7 =>
 g64bz71 x2 x3 a7 z6
theorem g64n1111 : g64C [1, 1, 1, 1] = .seq (g64C [1, 1, 1, 1, 0]) (g64C [1, 1, 1, 1, 1]) := by kernel_rfl
theorem g64n11111 : g64C [1, 1, 1, 1, 1] = .seq (g64C [1, 1, 1, 1, 1, 0]) (g64C [1, 1, 1, 1, 1, 1]) := by kernel_rfl
theorem g64nz3i : g64C [1, 1, 1, 1, 1, 0] = .seq (g64C [1, 1, 1, 1, 1, 0, 0]) (g64C [1, 1, 1, 1, 1, 0, 1]) := by kernel_rfl
theorem g64e1111 : g64X (g64C [1, 1, 1, 1]) (g64kr) = fun env st => g64b1111 (env 0) (env 2) (env 3) st := by
  refine Eq.trans (g64seq g64n1111 ((g64seq g64n11111 rfl).trans (g64seq g64nz3i (g64ez71)))) ?_
  funext env st
  kernel_rfl
noncomputable def g64k1 : Kon := kSeq (fun env st => g64b1111 (env 0) (env 2) (env 3) st) (g64kr)
noncomputable def g64k2 : Kon := kBlk 0 (g64k1)
noncomputable def g64bz1i7 (x0 : V) (x2 : V) (x3 : V) (x23 : V) (st : St) : Res :=
 A.cond x23
 (A.build [(.int .i64 0), (.lst [] 1), (.lst [] 1), (.lst [] 1)] [] fun a1 =>
 A.store 4 x2 a1 st fun z2 =>
 A.res (rcell (A.load true 4 x2 z2 kid) (rtmp (.int .i64 0) (rtmp (.int .i64 30) (some [])))) z2)
 (g64b1111 x0 x2 x3 st)
theorem g64ez1i7 : g64X (g64C [1, 1, 1, 0, 0, 1, 1, 1, 1, 1]) (g64k2) = fun env st => g64bz1i7 (env 0) (env 2) (env 3) (env 23) st := by
  refine Eq.trans (Eq.refl (g64X (g64C [1, 1, 1, 0, 0, 1, 1, 1, 1, 1]) (g64k2))) ?_
  funext env st
  kernel_rfl
noncomputable def g64b111 (x0 : V) (x2 : V) (x3 : V) (st : St) : Res :=
 A.bin .gtr x3 (.int .i64 1048584) fun a1 =>
 A.cond a1
 (A.build [(.int .i64 0), (.lst [] 1), (.lst [] 1), (.lst [] 1)] [] fun a2 =>
 A.store 4 x2 a2 st fun z3 =>
 A.res (rcell (A.load true 4 x2 z3 kid) (rtmp (.int .i64 0) (rtmp (.int .i64 31) (some [])))) z3)
 (A.lenS x0 fun a4 =>
 A.bin .gtr x3 a4 fun a5 =>
 A.cond a5
 (A.build [(.int .i64 0), (.lst [] 1), (.lst [] 1), (.lst [] 1)] [] fun a6 =>
 A.store 4 x2 a6 st fun z7 =>
 A.res (rcell (A.load true 4 x2 z7 kid) (rtmp (.int .i64 0) (rtmp (.int .i64 11) (some [])))) z7)
 (A.sliceS x0 (some (.int .i64 8)) (some x3) fun a8 =>
 A.noP (A.ret (s43 [a8.er1] st) kid) fun a9 z10 =>
 A.sliceS x0 (some (.int .i64 4)) none fun a11 =>
 A.noP (A.ret (s75 [a11.er1] z10) kid) fun a12 z13 =>
 A.eql 2 true a9 a12 fun a14 =>
 g64bz1i7 x0 x2 x3 a14 z13))
theorem g64n111 : g64C [1, 1, 1] = .seq (g64C [1, 1, 1, 0]) (g64C [1, 1, 1, 1]) := by kernel_rfl
theorem g64n1110 : g64C [1, 1, 1, 0] = .block 0 (g64C [1, 1, 1, 0, 0]) := by kernel_rfl
theorem g64n11100 : g64C [1, 1, 1, 0, 0] = .seq (g64C [1, 1, 1, 0, 0, 0]) (g64C [1, 1, 1, 0, 0, 1]) := by kernel_rfl
theorem g64nz3d : g64C [1, 1, 1, 0, 0, 1] = .cond (.tmp 13) (g64C [1, 1, 1, 0, 0, 1, 0]) (g64C [1, 1, 1, 0, 0, 1, 1]) := by kernel_rfl
theorem g64nz6r : g64C [1, 1, 1, 0, 0, 1, 1] = .seq (g64C [1, 1, 1, 0, 0, 1, 1, 0]) (g64C [1, 1, 1, 0, 0, 1, 1, 1]) := by kernel_rfl
theorem g64nzdj : g64C [1, 1, 1, 0, 0, 1, 1, 1] = .cond (.tmp 17) (g64C [1, 1, 1, 0, 0, 1, 1, 1, 0]) (g64C [1, 1, 1, 0, 0, 1, 1, 1, 1]) := by kernel_rfl
theorem g64nzr3 : g64C [1, 1, 1, 0, 0, 1, 1, 1, 1] = .seq (g64C [1, 1, 1, 0, 0, 1, 1, 1, 1, 0]) (g64C [1, 1, 1, 0, 0, 1, 1, 1, 1, 1]) := by kernel_rfl
theorem g64e111 : g64X (g64C [1, 1, 1]) (g64kr) = fun env st => g64b111 (env 0) (env 2) (env 3) st := by
  refine Eq.trans ((g64seq g64n111 (g64e1111)).trans ((g64blk g64n1110).trans (g64seq g64n11100 (g64cond g64nz3d rfl (g64seq g64nz6r (g64cond g64nzdj rfl (g64seq g64nzr3 (g64ez1i7)))))))) ?_
  funext env st
  kernel_rfl
noncomputable def f64 (x0 : V) (st : St) : Res :=
 A.box (.agg [(.int .i64 0), (.lst [] 1), (.lst [] 1), (.lst [] 1)]) st fun a1 z2 =>
 A.lenS x0 fun a3 =>
 A.bin .lss a3 (.int .i64 8) fun a4 =>
 A.cond a4
 (A.build [(.int .i64 0), (.lst [] 1), (.lst [] 1), (.lst [] 1)] [] fun a5 =>
 A.store 4 a1 a5 z2 fun z6 =>
 A.res (rcell (A.load true 4 a1 z6 kid) (rtmp (.int .i64 0) (rtmp (.int .i64 11) (some [])))) z6)
 (A.ret (s75 [x0.er1] z2) fun a7 z8 =>
 A.bin .add (.int .i64 8) a7 fun a9 =>
 g64b111 x0 a1 a9 z8)
theorem g64nr : g64C [] = .seq (g64C [0]) (g64C [1]) := by kernel_rfl
theorem g64n1 : g64C [1] = .seq (g64C [1, 0]) (g64C [1, 1]) := by kernel_rfl
theorem g64n11 : g64C [1, 1] = .seq (g64C [1, 1, 0]) (g64C [1, 1, 1]) := by kernel_rfl
theorem g64er (env : Env) (st : St) : g64X (g64C []) g64kr env st = f64 (env 0) st := by
  rw [(g64seq g64nr (g64seq g64n1 (g64seq g64n11 (g64e111))))]
  kernel_rfl
theorem s64_eq (x0 : V) (st : St) : s64 [x0] st = fg (f64 x0 st) st := by
  have h : afn Try.prog g64mu g64T big (areg Try.prog g64mu g64T) 64 [x0] st = g64X (g64C []) g64kr (fun t => [x0].getD t (.tup [])) st := by kernel_rfl
  rw [s64, sealF_eq]
  show fg _ st = fg _ st
  refine congrArg (fun r => fg r st) ?_
  exact h.trans (g64er _ st)
/-! sinew/link.one -/
def g48mu : Nat → Bool := fun _ => false
noncomputable def g48T : Tbl := tget [(64, s64)]
theorem g48t : SimT Try.prog g48T := simT_cons sim64 (simT_nil)
noncomputable def s48 : Fn := sealF (fun args st => fg (afn Try.prog g48mu g48T big (areg Try.prog g48mu g48T) 48 args st) st)
theorem sim48 : Sim Try.prog 48 s48 := (afn_sim g48t (fun m => areg_sound g48t hmix m) 48 (by kernel_rfl)).fg.sealed
noncomputable def g48C (p : List Nat) : Code := sub (match Try.f48.body with | some c => c | none => .skip) p
noncomputable def g48X (c : Code) (K : Kon) : Env → St → Res := aexec Try.prog g48mu g48T big 22 (areg Try.prog g48mu g48T 22) c K
noncomputable def g48kr : Kon := aresK Try.prog Try.f48.results.toList
theorem g48reg {c : Code} {K : Kon} {G : Env → St → Res} {id : Nat} {ops : Array Oper} {l1 l2 : List Nat} (hc : c = .region id ops false) (hl : List.range ops.size = l1 ++ l2) (h : (fun env st => aops Try.prog g48mu g48T 22 ops l2 env st (K .normal)) = G) : g48X c K = fun env st => aops Try.prog g48mu g48T 22 ops l1 env st G := reg_cut hc hl h
theorem g48seq {c x y : Code} {K : Kon} {G : Env → St → Res} (hc : c = .seq x y) (hy : g48X y K = G) : g48X c K = g48X x (kSeq G K) := seq_cut hc hy
theorem g48blk {c x : Code} {K : Kon} {i : Nat} (hc : c = .block i x) : g48X c K = g48X x (kBlk i K) := blk_cut hc
theorem g48loop {c x : Code} {K : Kon} (hc : c = .loop x) : g48X c K = aloop (g48X x) K big := loop_cut hc
theorem g48cond {c x y : Code} {K : Kon} {v : Operand} {F G : Env → St → Res} (hc : c = .cond v x y) (hx : g48X x K = F) (hy : g48X y K = G) : g48X c K = condF v F G := cond_cut hc hx hy
noncomputable def g48b11 (x0 : V) (x2 : V) (x4 : V) (x5 : V) (x6 : V) (st : St) : Res :=
 A.load true 4 x4 st fun a1 z2 =>
 A.eql 2 false x6 (.int .i64 0) fun a3 =>
 A.guard a3 true
 (A.lenS x0 fun a4 =>
 A.eql 2 false x5 a4 fun a5 =>
 A.store 4 x2 a1 z2 fun z6 =>
 A.res (rcell (A.load true 4 x2 z6 kid) (rtmp a5 (some []))) z6)
 (A.store 4 x2 a1 z2 fun z7 =>
 A.res (rcell (A.load true 4 x2 z7 kid) (rtmp (.bool false) (some []))) z7)
theorem g48e11 : g48X (g48C [1, 1]) (g48kr) = fun env st => g48b11 (env 0) (env 2) (env 4) (env 5) (env 6) st := by
  refine Eq.trans (Eq.refl (g48X (g48C [1, 1]) (g48kr))) ?_
  funext env st
  kernel_rfl
noncomputable def f48 (x0 : V) (st : St) : Res :=
 A.box (.agg [(.int .i64 0), (.lst [] 1), (.lst [] 1), (.lst [] 1)]) st fun a1 z2 =>
 A.ret (s64 [x0.er1] z2) fun a3 z4 =>
 A.ext a3 0 fun a5 =>
 A.ext a3 1 fun a6 =>
 A.ext a3 2 fun a7 =>
 A.box (.agg [(.int .i64 0), (.lst [] 1), (.lst [] 1), (.lst [] 1)]) z4 fun a8 z9 =>
 A.store 4 a8 a5 z9 fun z10 =>
 g48b11 x0 a1 a8 a6 a7 z10
theorem g48nr : g48C [] = .seq (g48C [0]) (g48C [1]) := by kernel_rfl
theorem g48n1 : g48C [1] = .seq (g48C [1, 0]) (g48C [1, 1]) := by kernel_rfl
theorem g48er (env : Env) (st : St) : g48X (g48C []) g48kr env st = f48 (env 0) st := by
  rw [(g48seq g48nr (g48seq g48n1 (g48e11)))]
  kernel_rfl
theorem s48_eq (x0 : V) (st : St) : s48 [x0] st = fg (f48 x0 st) st := by
  have h : afn Try.prog g48mu g48T big (areg Try.prog g48mu g48T) 48 [x0] st = g48X (g48C []) g48kr (fun t => [x0].getD t (.tup [])) st := by kernel_rfl
  rw [s48, sealF_eq]
  show fg _ st = fg _ st
  refine congrArg (fun r => fg r st) ?_
  exact h.trans (g48er _ st)
/-! sinew/link.read -/
def g35mu : Nat → Bool := fun _ => false
noncomputable def g35T : Tbl := tget [(48, s48)]
theorem g35t : SimT Try.prog g35T := simT_cons sim48 (simT_nil)
noncomputable def s35 : Fn := sealF (fun args st => fg (afn Try.prog g35mu g35T big (areg Try.prog g35mu g35T) 35 args st) st)
theorem sim35 : Sim Try.prog 35 s35 := (afn_sim g35t (fun m => areg_sound g35t hmix m) 35 (by kernel_rfl)).fg.sealed
noncomputable def g35C (p : List Nat) : Code := sub (match Try.f35.body with | some c => c | none => .skip) p
noncomputable def g35X (c : Code) (K : Kon) : Env → St → Res := aexec Try.prog g35mu g35T big 63 (areg Try.prog g35mu g35T 63) c K
noncomputable def g35kr : Kon := aresK Try.prog Try.f35.results.toList
theorem g35reg {c : Code} {K : Kon} {G : Env → St → Res} {id : Nat} {ops : Array Oper} {l1 l2 : List Nat} (hc : c = .region id ops false) (hl : List.range ops.size = l1 ++ l2) (h : (fun env st => aops Try.prog g35mu g35T 63 ops l2 env st (K .normal)) = G) : g35X c K = fun env st => aops Try.prog g35mu g35T 63 ops l1 env st G := reg_cut hc hl h
theorem g35seq {c x y : Code} {K : Kon} {G : Env → St → Res} (hc : c = .seq x y) (hy : g35X y K = G) : g35X c K = g35X x (kSeq G K) := seq_cut hc hy
theorem g35blk {c x : Code} {K : Kon} {i : Nat} (hc : c = .block i x) : g35X c K = g35X x (kBlk i K) := blk_cut hc
theorem g35loop {c x : Code} {K : Kon} (hc : c = .loop x) : g35X c K = aloop (g35X x) K big := loop_cut hc
theorem g35cond {c x y : Code} {K : Kon} {v : Operand} {F G : Env → St → Res} (hc : c = .cond v x y) (hx : g35X x K = F) (hy : g35X y K = G) : g35X c K = condF v F G := cond_cut hc hx hy
noncomputable def g35b1111 (x2 : V) (x3 : V) (x4 : V) (st : St) : Res :=
 A.load true 4 x2 st fun a1 _ =>
 A.load true 4 x3 st fun a2 _ =>
 A.noP (A.store 4 x2 a1 st fun s => kid (.tup []) s) fun a3 z4 =>
 A.chk (ldv true 4 x3 z4) a2
 (A.noP (A.store 4 x3 a2 z4 fun s => kid (.tup []) s) fun a5 z6 =>
 A.res (rcell (A.load true 4 x2 z6 kid) (rcell (A.load true 4 x3 z6 kid) (rtmp x4 (some [])))) z6)
theorem g35e1111 : g35X (g35C [1, 1, 1, 1]) (g35kr) = fun env st => g35b1111 (env 2) (env 3) (env 4) st := by
  refine Eq.trans (Eq.refl (g35X (g35C [1, 1, 1, 1]) (g35kr))) ?_
  funext env st
  kernel_rfl
noncomputable def g35k0 : Kon := kSeq (fun env st => g35b1111 (env 2) (env 3) (env 4) st) (g35kr)
noncomputable def g35k1 : Kon := kBlk 0 (g35k0)
noncomputable def g35bzdj (x2 : V) (x3 : V) (x36 : V) (st : St) : Res :=
 A.cond x36
 (A.faddr 2 x2 fun a1 =>
 A.load false 1 a1 st fun a2 z3 =>
 A.iaddr 1 a2 (.int .i64 0) fun a4 =>
 A.load false 1 a4 z3 fun a5 z6 =>
 A.ret (s48 [a5.er1] z6) fun a7 z8 =>
 A.ext a7 0 fun a9 =>
 A.ext a7 1 fun a10 =>
 A.store 4 x3 a9 z8 fun z11 =>
 g35b1111 x2 x3 a10 z11)
 (g35b1111 x2 x3 (.bool false) st)
theorem g35ezdj : g35X (g35C [1, 1, 1, 0, 0, 1, 1, 1]) (g35k1) = fun env st => g35bzdj (env 2) (env 3) (env 36) st := by
  refine Eq.trans (Eq.refl (g35X (g35C [1, 1, 1, 0, 0, 1, 1, 1]) (g35k1))) ?_
  funext env st
  kernel_rfl
noncomputable def g35k2 : Kon := kSeq (fun env st => g35bzdj (env 2) (env 3) (env 36) st) (g35k1)
noncomputable def g35bzdi_10 (x2 : V) (x3 : V) (x46 : V) (st : St) : Res :=
 A.guard x46 true
 (A.faddr 2 x2 fun a1 =>
 A.load false 1 a1 st fun a2 z3 =>
 A.lenL a2 fun a4 =>
 A.eql 2 false a4 (.int .i64 1) fun a5 =>
 g35bzdj x2 x3 a5 z3)
 (g35bzdj x2 x3 (.bool false) st)
theorem g35ezdi_10 : (fun env st => aops Try.prog g35mu g35T 63 (rops (g35C [1, 1, 1, 0, 0, 1, 1, 0])) [10, 11, 12, 13, 14, 15] env st ((g35k2) .normal)) = fun env st => g35bzdi_10 (env 2) (env 3) (env 46) st := by
  refine Eq.trans (Eq.refl _) ?_
  funext env st
  kernel_rfl
noncomputable def g35bz3d (x2 : V) (x3 : V) (x4 : V) (x20 : V) (st : St) : Res :=
 A.cond x20
 (g35b1111 x2 x3 x4 st)
 (A.faddr 0 x2 fun a1 =>
 A.load false 1 a1 st fun a2 z3 =>
 A.eql 2 false a2 (.int .i64 1) fun a4 =>
 A.guard a4 true
 (A.faddr 1 x2 fun a5 =>
 A.load false 1 a5 z3 fun a6 z7 =>
 A.lenL a6 fun a8 =>
 A.eql 2 false a8 (.int .i64 4) fun a9 =>
 g35bzdi_10 x2 x3 a9 z7)
 (g35bzdi_10 x2 x3 (.bool false) z3))
theorem g35nz3d : g35C [1, 1, 1, 0, 0, 1] = .cond (.tmp 20) (g35C [1, 1, 1, 0, 0, 1, 0]) (g35C [1, 1, 1, 0, 0, 1, 1]) := by kernel_rfl
theorem g35nz6r : g35C [1, 1, 1, 0, 0, 1, 1] = .seq (g35C [1, 1, 1, 0, 0, 1, 1, 0]) (g35C [1, 1, 1, 0, 0, 1, 1, 1]) := by kernel_rfl
theorem g35rgzdi : g35C [1, 1, 1, 0, 0, 1, 1, 0] = .region 6 (rops (g35C [1, 1, 1, 0, 0, 1, 1, 0])) false := by kernel_rfl
theorem g35rgzdil : List.range (rops (g35C [1, 1, 1, 0, 0, 1, 1, 0])).size = [0, 1, 2, 3, 4, 5, 6, 7, 8, 9] ++ [10, 11, 12, 13, 14, 15] := by kernel_rfl
theorem g35ez3d : g35X (g35C [1, 1, 1, 0, 0, 1]) (g35k1) = fun env st => g35bz3d (env 2) (env 3) (env 4) (env 20) st := by
  refine Eq.trans (g35cond g35nz3d rfl ((g35seq g35nz6r (g35ezdj)).trans (g35reg g35rgzdi g35rgzdil (g35ezdi_10)))) ?_
  funext env st
  kernel_rfl
noncomputable def g35k3 : Kon := kSeq (fun env st => g35bz3d (env 2) (env 3) (env 4) (env 20) st) (g35k1)
noncomputable def g35bz3c_10 (x2 : V) (x3 : V) (x4 : V) (x30 : V) (st : St) : Res :=
 A.guard x30 true
 (A.faddr 2 x2 fun a1 =>
 A.load false 1 a1 st fun a2 z3 =>
 A.lenL a2 fun a4 =>
 A.eql 2 false a4 (.int .i64 0) fun a5 =>
 g35bz3d x2 x3 x4 a5 z3)
 (g35bz3d x2 x3 x4 (.bool false) st)
theorem g35ez3c_10 : (fun env st => aops Try.prog g35mu g35T 63 (rops (g35C [1, 1, 1, 0, 0, 0])) [10, 11, 12, 13, 14, 15] env st ((g35k3) .normal)) = fun env st => g35bz3c_10 (env 2) (env 3) (env 4) (env 30) st := by
  refine Eq.trans (Eq.refl _) ?_
  funext env st
  kernel_rfl
noncomputable def g35b111 (x2 : V) (x3 : V) (x4 : V) (st : St) : Res :=
 A.faddr 0 x2 fun a1 =>
 A.load false 1 a1 st fun a2 z3 =>
 A.eql 2 false a2 (.int .i64 2) fun a4 =>
 A.guard a4 true
 (A.faddr 1 x2 fun a5 =>
 A.load false 1 a5 z3 fun a6 z7 =>
 A.lenL a6 fun a8 =>
 A.eql 2 false a8 (.int .i64 3) fun a9 =>
 g35bz3c_10 x2 x3 x4 a9 z7)
 (g35bz3c_10 x2 x3 x4 (.bool false) z3)
theorem g35n111 : g35C [1, 1, 1] = .seq (g35C [1, 1, 1, 0]) (g35C [1, 1, 1, 1]) := by kernel_rfl
theorem g35n1110 : g35C [1, 1, 1, 0] = .block 0 (g35C [1, 1, 1, 0, 0]) := by kernel_rfl
theorem g35n11100 : g35C [1, 1, 1, 0, 0] = .seq (g35C [1, 1, 1, 0, 0, 0]) (g35C [1, 1, 1, 0, 0, 1]) := by kernel_rfl
theorem g35rgz3c : g35C [1, 1, 1, 0, 0, 0] = .region 5 (rops (g35C [1, 1, 1, 0, 0, 0])) false := by kernel_rfl
theorem g35rgz3cl : List.range (rops (g35C [1, 1, 1, 0, 0, 0])).size = [0, 1, 2, 3, 4, 5, 6, 7, 8, 9] ++ [10, 11, 12, 13, 14, 15] := by kernel_rfl
theorem g35e111 : g35X (g35C [1, 1, 1]) (g35kr) = fun env st => g35b111 (env 2) (env 3) (env 4) st := by
  refine Eq.trans ((g35seq g35n111 (g35e1111)).trans ((g35blk g35n1110).trans ((g35seq g35n11100 (g35ez3d)).trans (g35reg g35rgz3c g35rgz3cl (g35ez3c_10))))) ?_
  funext env st
  kernel_rfl
noncomputable def g35k4 : Kon := kSeq (fun env st => g35b111 (env 2) (env 3) (env 4) st) (g35kr)
noncomputable def g35b1101 (x2 : V) (x3 : V) (x4 : V) (x17 : V) (st : St) : Res :=
 A.cond x17
 (A.load true 4 x2 st fun a1 _ =>
 A.load true 4 x3 st fun a2 _ =>
 A.noP (A.store 4 x2 a1 st fun s => kid (.tup []) s) fun a3 z4 =>
 A.chk (ldv true 4 x3 z4) a2
 (A.noP (A.store 4 x3 a2 z4 fun s => kid (.tup []) s) fun a5 z6 =>
 A.res (rcell (A.load true 4 x2 z6 kid) (rcell (A.load true 4 x3 z6 kid) (rtmp (.bool false) (some [])))) z6))
 (g35b111 x2 x3 x4 st)
theorem g35e1101 : g35X (g35C [1, 1, 0, 1]) (g35k4) = fun env st => g35b1101 (env 2) (env 3) (env 4) (env 17) st := by
  refine Eq.trans (Eq.refl (g35X (g35C [1, 1, 0, 1]) (g35k4))) ?_
  funext env st
  kernel_rfl
noncomputable def f35 (x0 : V) (st : St) : Res :=
 A.box (.agg [(.int .i64 0), (.lst [] 1), (.lst [] 1), (.lst [] 1)]) st fun a1 z2 =>
 A.box (.agg [(.int .i64 0), (.lst [] 1), (.lst [] 1), (.lst [] 1)]) z2 fun a3 z4 =>
 A.ret (s48 [x0.er1] z4) fun a5 z6 =>
 A.ext a5 0 fun a7 =>
 A.ext a5 1 fun a8 =>
 A.store 4 a1 a7 z6 fun z9 =>
 A.un .not a8 fun a10 =>
 A.guard a10 false
 (A.faddr 3 a1 fun a11 =>
 A.load false 1 a11 z9 fun a12 z13 =>
 A.lenL a12 fun a14 =>
 A.bin .gtr a14 (.int .i64 0) fun a15 =>
 g35b1101 a1 a3 a8 a15 z13)
 (g35b1101 a1 a3 a8 (.bool true) z9)
theorem g35nr : g35C [] = .seq (g35C [0]) (g35C [1]) := by kernel_rfl
theorem g35n1 : g35C [1] = .seq (g35C [1, 0]) (g35C [1, 1]) := by kernel_rfl
theorem g35n11 : g35C [1, 1] = .seq (g35C [1, 1, 0]) (g35C [1, 1, 1]) := by kernel_rfl
theorem g35n110 : g35C [1, 1, 0] = .seq (g35C [1, 1, 0, 0]) (g35C [1, 1, 0, 1]) := by kernel_rfl
theorem g35er (env : Env) (st : St) : g35X (g35C []) g35kr env st = f35 (env 0) st := by
  rw [(g35seq g35nr (g35seq g35n1 ((g35seq g35n11 (g35e111)).trans (g35seq g35n110 (g35e1101)))))]
  kernel_rfl
theorem s35_eq (x0 : V) (st : St) : s35 [x0] st = fg (f35 x0 st) st := by
  have h : afn Try.prog g35mu g35T big (areg Try.prog g35mu g35T) 35 [x0] st = g35X (g35C []) g35kr (fun t => [x0].getD t (.tup [])) st := by kernel_rfl
  rw [s35, sealF_eq]
  show fg _ st = fg _ st
  refine congrArg (fun r => fg r st) ?_
  exact h.trans (g35er _ st)
/-! (*sinew/link.Link).stands -/
def g36mu : Nat → Bool := fun _ => false
noncomputable def g36T : Tbl := tget [(44, s44)]
theorem g36t : SimT Try.prog g36T := simT_cons sim44 (simT_nil)
noncomputable def s36 : Fn := sealF (fun args st => fg (afn Try.prog g36mu g36T big (areg Try.prog g36mu g36T) 36 args st) st)
theorem sim36 : Sim Try.prog 36 s36 := (afn_sim g36t (fun m => areg_sound g36t hmix m) 36 (by kernel_rfl)).fg.sealed
noncomputable def f36 (x0 : V) (st : St) : Res :=
 A.nilc x0 fun a1 =>
 A.faddr 0 a1 fun a2 =>
 A.load false 1 a2 st fun a3 _ =>
 A.nilc x0 fun a4 =>
 A.faddr 1 a4 fun a5 =>
 A.load false 1 a5 st fun a6 _ =>
 A.nilc x0 fun a7 =>
 A.faddr 3 a7 fun a8 =>
 A.load false 1 a8 st fun a9 _ =>
 A.bslice 1 (.int .i64 0) 3 [(0, a3), (1, a6), (2, a9)] fun a10 =>
 A.build [(.int .i64 0), (.lst [] 1), (.lst [] 1), (.lst [] 1)] [(0, 1, (.int .i64 2)), (1, 1, a10)] fun a11 =>
 A.noP (A.ret (s44 [a11.er1] st) kid) fun a12 z13 =>
 A.bslice 1 (.str []) 1 [(0, a12)] fun a14 =>
 some (.ret a14.er1, z13)
theorem s36_eq (x0 : V) (st : St) : s36 [x0] st = fg (f36 x0 st) st := by
  rw [s36, sealF_eq]
  show fg _ st = fg _ st
  refine congrArg (fun r => fg r st) ?_
  kernel_rfl
/-! (*sinew/link.Link).Take -/
def g19mu : Nat → Bool := fun _ => false
noncomputable def g19T : Tbl := tget [(31, s31), (35, s35), (36, s36)]
theorem g19t : SimT Try.prog g19T := simT_cons sim31 ( simT_cons sim35 ( simT_cons sim36 (simT_nil)))
noncomputable def s19 : Fn := sealF (afn Try.prog g19mu g19T big (areg Try.prog g19mu g19T) 19)
theorem sim19 : Sim Try.prog 19 s19 := (afn_sim g19t (fun m => areg_sound g19t hmix m) 19 (by kernel_rfl)).sealed
noncomputable def g19C (p : List Nat) : Code := sub (match Try.f19.body with | some c => c | none => .skip) p
noncomputable def g19X (c : Code) (K : Kon) : Env → St → Res := aexec Try.prog g19mu g19T big 144 (areg Try.prog g19mu g19T 144) c K
noncomputable def g19kr : Kon := aresK Try.prog Try.f19.results.toList
theorem g19reg {c : Code} {K : Kon} {G : Env → St → Res} {id : Nat} {ops : Array Oper} {l1 l2 : List Nat} (hc : c = .region id ops false) (hl : List.range ops.size = l1 ++ l2) (h : (fun env st => aops Try.prog g19mu g19T 144 ops l2 env st (K .normal)) = G) : g19X c K = fun env st => aops Try.prog g19mu g19T 144 ops l1 env st G := reg_cut hc hl h
theorem g19regN {c : Code} {K : Kon} {G : Env → St → Res} {id : Nat} {ops : Array Oper} {l1 l2 : List Nat} (hc : c = .region id ops true) (hok : regOk Try.prog g19mu ops (befs ops.toList []) = true) (hq : calm Try.prog g19mu ops (befs ops.toList []) = true) (hl : List.range ops.size = l1 ++ l2) (h : (fun env st => aopsN Try.prog g19mu g19T 144 ops l2 env st (K .normal)) = G) : g19X c K = fun env st => aopsN Try.prog g19mu g19T 144 ops l1 env st G := reg_cutN hc hok hq hl h
theorem g19seq {c x y : Code} {K : Kon} {G : Env → St → Res} (hc : c = .seq x y) (hy : g19X y K = G) : g19X c K = g19X x (kSeq G K) := seq_cut hc hy
theorem g19blk {c x : Code} {K : Kon} {i : Nat} (hc : c = .block i x) : g19X c K = g19X x (kBlk i K) := blk_cut hc
theorem g19loop {c x : Code} {K : Kon} (hc : c = .loop x) : g19X c K = aloop (g19X x) K big := loop_cut hc
theorem g19cond {c x y : Code} {K : Kon} {v : Operand} {F G : Env → St → Res} (hc : c = .cond v x y) (hx : g19X x K = F) (hy : g19X y K = G) : g19X c K = condF v F G := cond_cut hc hx hy
noncomputable def g19k0 : Kon := kSeq (g19X (g19C [1, 1, 1, 1, 1, 1, 1, 1, 1]) (g19kr)) (g19kr)
noncomputable def g19k1 : Kon := kSeq (g19X (g19C [1, 1, 1, 1, 1, 1, 1, 1, 0, 1, 0, 1]) (g19k0)) (g19k0)
noncomputable def g19bzcmh (x0 : V) (x4 : V) (x6 : V) (x129 : V) (st : St) : Res :=
 A.cond x129
 (A.load true 4 x6 st fun a1 z2 =>
 A.bslice 4 (.agg [(.int .i64 0), (.lst [] 1), (.lst [] 1), (.lst [] 1)]) 1 [(0, a1)] fun a3 =>
 A.faddr 0 x4 fun a4 =>
 A.store 1 a4 a3 z2 fun z5 =>
 A.nilc x0 fun a6 =>
 A.faddr 3 a6 fun a7 =>
 A.load false 1 a7 z5 fun a8 z9 =>
 A.bin .add a8 (.int .i64 1) fun a10 =>
 A.nilc x0 fun a11 =>
 A.faddr 3 a11 fun a12 =>
 A.store 1 a12 a10 z9 fun z13 =>
 A.ret (s36 [x0.er1] z13) fun a14 z15 =>
 A.faddr 1 x4 fun a16 =>
 A.store 1 a16 a14 z15 fun z17 =>
 A.load true 3 x4 z17 fun a18 z19 =>
 A.store 3 x4 a18 z19 fun z20 =>
 A.res (rcell (A.load true 3 x4 z20 kid) (some [])) z20)
 (A.ret (s36 [x0.er1] st) fun a21 z22 =>
 A.faddr 1 x4 fun a23 =>
 A.store 1 a23 a21 z22 fun z24 =>
 A.load true 3 x4 z24 fun a25 z26 =>
 A.store 3 x4 a25 z26 fun z27 =>
 A.res (rcell (A.load true 3 x4 z27 kid) (some [])) z27)
theorem g19ezcmh : g19X (g19C [1, 1, 1, 1, 1, 1, 1, 1, 0, 1, 0, 0, 1]) (g19k1) = fun env st => g19bzcmh (env 0) (env 4) (env 6) (env 129) st := by
  refine Eq.trans (Eq.refl (g19X (g19C [1, 1, 1, 1, 1, 1, 1, 1, 0, 1, 0, 0, 1]) (g19k1))) ?_
  funext env st
  kernel_rfl
noncomputable def g19bze7 (x0 : V) (x4 : V) (x5 : V) (x6 : V) (st : St) : Res :=
 A.faddr 0 x5 fun a1 =>
 A.load false 1 a1 st fun a2 z3 =>
 A.eql 2 false a2 (.int .i64 1) fun a4 =>
 A.cond a4
 (A.faddr 1 x5 fun a5 =>
 A.load false 1 a5 z3 fun a6 _ =>
 A.iaddr 1 a6 (.int .i64 2) fun a7 =>
 A.load false 1 a7 z3 fun a8 _ =>
 A.nilc x0 fun a9 =>
 A.faddr 3 a9 fun a10 =>
 A.load false 1 a10 z3 fun a11 _ =>
 A.eql 2 false a8 a11 fun a12 =>
 g19bzcmh x0 x4 x6 a12 z3)
 (A.load true 3 x4 z3 fun a13 z14 =>
 A.store 3 x4 a13 z14 fun z15 =>
 A.res (rcell (A.load true 3 x4 z15 kid) (some [])) z15)
theorem g19nze7 : g19C [1, 1, 1, 1, 1, 1, 1, 1] = .seq (g19C [1, 1, 1, 1, 1, 1, 1, 1, 0]) (g19C [1, 1, 1, 1, 1, 1, 1, 1, 1]) := by kernel_rfl
theorem g19nzse : g19C [1, 1, 1, 1, 1, 1, 1, 1, 0] = .seq (g19C [1, 1, 1, 1, 1, 1, 1, 1, 0, 0]) (g19C [1, 1, 1, 1, 1, 1, 1, 1, 0, 1]) := by kernel_rfl
theorem g19nz1kt : g19C [1, 1, 1, 1, 1, 1, 1, 1, 0, 1] = .cond (.tmp 120) (g19C [1, 1, 1, 1, 1, 1, 1, 1, 0, 1, 0]) (g19C [1, 1, 1, 1, 1, 1, 1, 1, 0, 1, 1]) := by kernel_rfl
theorem g19nz35m : g19C [1, 1, 1, 1, 1, 1, 1, 1, 0, 1, 0] = .seq (g19C [1, 1, 1, 1, 1, 1, 1, 1, 0, 1, 0, 0]) (g19C [1, 1, 1, 1, 1, 1, 1, 1, 0, 1, 0, 1]) := by kernel_rfl
theorem g19nz6b8 : g19C [1, 1, 1, 1, 1, 1, 1, 1, 0, 1, 0, 0] = .seq (g19C [1, 1, 1, 1, 1, 1, 1, 1, 0, 1, 0, 0, 0]) (g19C [1, 1, 1, 1, 1, 1, 1, 1, 0, 1, 0, 0, 1]) := by kernel_rfl
theorem g19eze7 : g19X (g19C [1, 1, 1, 1, 1, 1, 1, 1]) (g19kr) = fun env st => g19bze7 (env 0) (env 4) (env 5) (env 6) st := by
  refine Eq.trans ((g19seq g19nze7 rfl).trans (g19seq g19nzse (g19cond g19nz1kt ((g19seq g19nz35m rfl).trans (g19seq g19nz6b8 (g19ezcmh))) rfl))) ?_
  funext env st
  kernel_rfl
noncomputable def g19bz3j (x0 : V) (x4 : V) (x5 : V) (x6 : V) (x8 : V) (st : St) : Res :=
 A.nilc x0 fun a1 =>
 A.faddr 4 a1 fun a2 =>
 A.load false 1 a2 st fun a3 z4 =>
 A.slice 1 a3 (some x8) none none fun a5 =>
 A.nilc x0 fun a6 =>
 A.faddr 4 a6 fun a7 =>
 A.store 1 a7 a5 z4 fun z8 =>
 A.nilc x0 fun a9 =>
 A.faddr 2 a9 fun a10 =>
 A.load false 1 a10 z8 fun a11 z12 =>
 A.bin .add a11 x8 fun a13 =>
 A.nilc x0 fun a14 =>
 A.faddr 2 a14 fun a15 =>
 A.store 1 a15 a13 z12 fun z16 =>
 g19bze7 x0 x4 x5 x6 z16
theorem g19nz3j : g19C [1, 1, 1, 1, 1, 1] = .seq (g19C [1, 1, 1, 1, 1, 1, 0]) (g19C [1, 1, 1, 1, 1, 1, 1]) := by kernel_rfl
theorem g19nz73 : g19C [1, 1, 1, 1, 1, 1, 1] = .seq (g19C [1, 1, 1, 1, 1, 1, 1, 0]) (g19C [1, 1, 1, 1, 1, 1, 1, 1]) := by kernel_rfl
theorem g19ez3j : g19X (g19C [1, 1, 1, 1, 1, 1]) (g19kr) = fun env st => g19bz3j (env 0) (env 4) (env 5) (env 6) (env 8) st := by
  refine Eq.trans (g19seq g19nz3j (g19seq g19nz73 (g19eze7))) ?_
  funext env st
  kernel_rfl
noncomputable def g19b11111 (x0 : V) (x4 : V) (x5 : V) (x6 : V) (st : St) : Res :=
 A.faddr 1 x5 fun a1 =>
 A.load false 1 a1 st fun a2 _ =>
 A.faddr 1 x5 fun a3 =>
 A.load false 1 a3 st fun a4 _ =>
 A.lenL a4 fun a5 =>
 A.bin .sub a5 (.int .i64 1) fun a6 =>
 A.iaddr 1 a2 a6 fun a7 =>
 A.load false 1 a7 st fun a8 _ =>
 A.nilc x0 fun a9 =>
 A.faddr 2 a9 fun a10 =>
 A.load false 1 a10 st fun a11 _ =>
 A.bin .sub a8 a11 fun a12 =>
 A.nilc x0 fun a13 =>
 A.faddr 4 a13 fun a14 =>
 A.load false 1 a14 st fun a15 _ =>
 A.lenL a15 fun a16 =>
 A.min a12 a16 fun a17 =>
 A.max (.int .i64 0) a17 fun a18 =>
 g19bz3j x0 x4 x5 x6 a18 st
theorem g19n11111 : g19C [1, 1, 1, 1, 1] = .seq (g19C [1, 1, 1, 1, 1, 0]) (g19C [1, 1, 1, 1, 1, 1]) := by kernel_rfl
theorem g19e11111 : g19X (g19C [1, 1, 1, 1, 1]) (g19kr) = fun env st => g19b11111 (env 0) (env 4) (env 5) (env 6) st := by
  refine Eq.trans (g19seq g19n11111 (g19ez3j)) ?_
  funext env st
  kernel_rfl
noncomputable def g19b1111 (x0 : V) (x4 : V) (x5 : V) (x6 : V) (st : St) : Res :=
 A.faddr 1 x5 fun a1 =>
 A.load false 1 a1 st fun a2 _ =>
 A.iaddr 1 a2 (.int .i64 1) fun a3 =>
 A.load false 1 a3 st fun a4 _ =>
 A.nilc x0 fun a5 =>
 A.faddr 0 a5 fun a6 =>
 A.load false 1 a6 st fun a7 _ =>
 A.eql 2 true a4 a7 fun a8 =>
 A.cond a8
 (A.ret (s36 [x0.er1] st) fun a9 z10 =>
 A.faddr 1 x4 fun a11 =>
 A.store 1 a11 a9 z10 fun z12 =>
 A.load true 3 x4 z12 fun a13 z14 =>
 A.store 3 x4 a13 z14 fun z15 =>
 A.res (rcell (A.load true 3 x4 z15 kid) (some [])) z15)
 (g19b11111 x0 x4 x5 x6 st)
theorem g19n1111 : g19C [1, 1, 1, 1] = .seq (g19C [1, 1, 1, 1, 0]) (g19C [1, 1, 1, 1, 1]) := by kernel_rfl
theorem g19e1111 : g19X (g19C [1, 1, 1, 1]) (g19kr) = fun env st => g19b1111 (env 0) (env 4) (env 5) (env 6) st := by
  refine Eq.trans (g19seq g19n1111 (g19e11111)) ?_
  funext env st
  kernel_rfl
noncomputable def g19k2 : Kon := kSeq (fun env st => g19b1111 (env 0) (env 4) (env 5) (env 6) st) (g19kr)
noncomputable def g19bz6t (x0 : V) (x4 : V) (x5 : V) (x6 : V) (st : St) : Res :=
 A.faddr 1 x5 fun a1 =>
 A.load false 1 a1 st fun a2 z3 =>
 A.iaddr 1 a2 (.int .i64 0) fun a4 =>
 A.load false 1 a4 z3 fun a5 z6 =>
 A.nilc x0 fun a7 =>
 A.faddr 1 a7 fun a8 =>
 A.store 1 a8 a5 z6 fun z9 =>
 A.nilc x0 fun a10 =>
 A.faddr 3 a10 fun a11 =>
 A.store 1 a11 (.int .i64 1) z9 fun z12 =>
 g19b1111 x0 x4 x5 x6 z12
theorem g19ez6t : g19X (g19C [1, 1, 1, 0, 1, 0, 1]) (g19k2) = fun env st => g19bz6t (env 0) (env 4) (env 5) (env 6) st := by
  refine Eq.trans (Eq.refl (g19X (g19C [1, 1, 1, 0, 1, 0, 1]) (g19k2))) ?_
  funext env st
  kernel_rfl
noncomputable def g19k3 : Kon := kSeq (fun env st => g19bz6t (env 0) (env 4) (env 5) (env 6) st) (g19k2)
noncomputable def g19bzdl (x0 : V) (x4 : V) (x5 : V) (x6 : V) (st : St) : Res :=
 A.faddr 2 x4 fun a1 =>
 A.load false 1 a1 st fun a2 z3 =>
 A.cond a2
 (A.nilc x0 fun a4 =>
 A.faddr 4 a4 fun a5 =>
 A.store 1 a5 (.lst [] 1) z3 fun z6 =>
 A.nilc x0 fun a7 =>
 A.faddr 2 a7 fun a8 =>
 A.store 1 a8 (.int .i64 1) z6 fun z9 =>
 g19bz6t x0 x4 x5 x6 z9)
 (g19bz6t x0 x4 x5 x6 z3)
theorem g19ezdl : g19X (g19C [1, 1, 1, 0, 1, 0, 0, 1]) (g19k3) = fun env st => g19bzdl (env 0) (env 4) (env 5) (env 6) st := by
  refine Eq.trans (Eq.refl (g19X (g19C [1, 1, 1, 0, 1, 0, 0, 1]) (g19k3))) ?_
  funext env st
  kernel_rfl
noncomputable def g19b111 (x0 : V) (x4 : V) (x5 : V) (x6 : V) (st : St) : Res :=
 A.faddr 1 x5 fun a1 =>
 A.load false 1 a1 st fun a2 _ =>
 A.iaddr 1 a2 (.int .i64 0) fun a3 =>
 A.load false 1 a3 st fun a4 _ =>
 A.nilc x0 fun a5 =>
 A.faddr 1 a5 fun a6 =>
 A.load false 1 a6 st fun a7 _ =>
 A.bin .gtr a4 a7 fun a8 =>
 A.cond a8
 (A.nilc x0 fun a9 =>
 A.faddr 1 a9 fun a10 =>
 A.load false 1 a10 st fun a11 z12 =>
 A.bin .gtr a11 (.int .i64 0) fun a13 =>
 A.faddr 2 x4 fun a14 =>
 A.store 1 a14 a13 z12 fun z15 =>
 g19bzdl x0 x4 x5 x6 z15)
 (g19b1111 x0 x4 x5 x6 st)
theorem g19n111 : g19C [1, 1, 1] = .seq (g19C [1, 1, 1, 0]) (g19C [1, 1, 1, 1]) := by kernel_rfl
theorem g19n1110 : g19C [1, 1, 1, 0] = .seq (g19C [1, 1, 1, 0, 0]) (g19C [1, 1, 1, 0, 1]) := by kernel_rfl
theorem g19n11101 : g19C [1, 1, 1, 0, 1] = .cond (.tmp 43) (g19C [1, 1, 1, 0, 1, 0]) (g19C [1, 1, 1, 0, 1, 1]) := by kernel_rfl
theorem g19nz3e : g19C [1, 1, 1, 0, 1, 0] = .seq (g19C [1, 1, 1, 0, 1, 0, 0]) (g19C [1, 1, 1, 0, 1, 0, 1]) := by kernel_rfl
theorem g19nz6s : g19C [1, 1, 1, 0, 1, 0, 0] = .seq (g19C [1, 1, 1, 0, 1, 0, 0, 0]) (g19C [1, 1, 1, 0, 1, 0, 0, 1]) := by kernel_rfl
theorem g19e111 : g19X (g19C [1, 1, 1]) (g19kr) = fun env st => g19b111 (env 0) (env 4) (env 5) (env 6) st := by
  refine Eq.trans ((g19seq g19n111 (g19e1111)).trans (g19seq g19n1110 (g19cond g19n11101 ((g19seq g19nz3e (g19ez6t)).trans (g19seq g19nz6s (g19ezdl))) rfl))) ?_
  funext env st
  kernel_rfl
noncomputable def g19k4 : Kon := kSeq (fun env st => g19b111 (env 0) (env 4) (env 5) (env 6) st) (g19kr)
noncomputable def g19k5 : Kon := kSeq (g19X (g19C [1, 1, 0, 1]) (g19k4)) (g19k4)
noncomputable def g19b1100_8 (x0 : V) (x4 : V) (x5 : V) (x6 : V) (x22 : V) (st : St) : Res :=
 A.guard x22 false
 (A.faddr 1 x5 fun a1 =>
 A.load false 1 a1 st fun a2 z3 =>
 A.iaddr 1 a2 (.int .i64 0) fun a4 =>
 A.load false 1 a4 z3 fun a5 z6 =>
 A.nilc x0 fun a7 =>
 A.faddr 1 a7 fun a8 =>
 A.load false 1 a8 z6 fun a9 z10 =>
 A.max a9 (.int .i64 1) fun a11 =>
 A.bin .lss a5 a11 fun a12 =>
 A.cond a12
 (A.build [(.lst [] 1), (.lst [] 1), (.bool false)] [] fun a13 =>
 A.store 3 x4 a13 z10 fun z14 =>
 A.res (rcell (A.load true 3 x4 z14 kid) (some [])) z14)
 (g19b111 x0 x4 x5 x6 z10))
 (A.build [(.lst [] 1), (.lst [] 1), (.bool false)] [] fun a15 =>
 A.store 3 x4 a15 st fun z16 =>
 A.res (rcell (A.load true 3 x4 z16 kid) (some [])) z16)
theorem g19e1100_8 : (fun env st => aopsN Try.prog g19mu g19T 144 (rops (g19C [1, 1, 0, 0])) [8, 9, 10, 11, 12, 13, 14, 15, 16, 17, 18] env st ((g19k5) .normal)) = fun env st => g19b1100_8 (env 0) (env 4) (env 5) (env 6) (env 22) st := by
  refine Eq.trans (Eq.refl _) ?_
  funext env st
  kernel_rfl
noncomputable def g19b11 (x0 : V) (x4 : V) (x5 : V) (x6 : V) (x7 : V) (st : St) : Res :=
 A.noP (A.ret (s31 [x0.er1] st) kid) fun a1 z2 =>
 A.un .not a1 fun a3 =>
 A.guard a3 false
 (A.un .not x7 fun a4 =>
 g19b1100_8 x0 x4 x5 x6 a4 z2)
 (g19b1100_8 x0 x4 x5 x6 (.bool true) z2)
theorem g19n11 : g19C [1, 1] = .seq (g19C [1, 1, 0]) (g19C [1, 1, 1]) := by kernel_rfl
theorem g19n110 : g19C [1, 1, 0] = .seq (g19C [1, 1, 0, 0]) (g19C [1, 1, 0, 1]) := by kernel_rfl
theorem g19rg1100 : g19C [1, 1, 0, 0] = .region 2 (rops (g19C [1, 1, 0, 0])) true := by kernel_rfl
theorem g19rg1100o : regOk Try.prog g19mu (rops (g19C [1, 1, 0, 0])) (befs (rops (g19C [1, 1, 0, 0])).toList []) = true := by kernel_rfl
theorem g19rg1100q : calm Try.prog g19mu (rops (g19C [1, 1, 0, 0])) (befs (rops (g19C [1, 1, 0, 0])).toList []) = true := by kernel_rfl
theorem g19rg1100l : List.range (rops (g19C [1, 1, 0, 0])).size = [0, 1, 2, 3, 4, 5, 6, 7] ++ [8, 9, 10, 11, 12, 13, 14, 15, 16, 17, 18] := by kernel_rfl
theorem g19e11 : g19X (g19C [1, 1]) (g19kr) = fun env st => g19b11 (env 0) (env 4) (env 5) (env 6) (env 7) st := by
  refine Eq.trans ((g19seq g19n11 (g19e111)).trans ((g19seq g19n110 rfl).trans (g19regN g19rg1100 g19rg1100o g19rg1100q g19rg1100l (g19e1100_8)))) ?_
  funext env st
  kernel_rfl
noncomputable def f19 (x0 : V) (x1 : V) (st : St) : Res :=
 A.box (.agg [(.lst [] 1), (.lst [] 1), (.bool false)]) st fun a1 z2 =>
 A.ret (s35 [x1.er1] z2) fun a3 z4 =>
 A.ext a3 0 fun a5 =>
 A.ext a3 1 fun a6 =>
 A.ext a3 2 fun a7 =>
 A.box (.agg [(.int .i64 0), (.lst [] 1), (.lst [] 1), (.lst [] 1)]) z4 fun a8 z9 =>
 A.box (.agg [(.int .i64 0), (.lst [] 1), (.lst [] 1), (.lst [] 1)]) z9 fun a10 z11 =>
 A.store 4 a8 a5 z11 fun z12 =>
 A.store 4 a10 a6 z12 fun z13 =>
 g19b11 x0 a1 a8 a10 a7 z13
theorem g19nr : g19C [] = .seq (g19C [0]) (g19C [1]) := by kernel_rfl
theorem g19n1 : g19C [1] = .seq (g19C [1, 0]) (g19C [1, 1]) := by kernel_rfl
theorem g19er (env : Env) (st : St) : g19X (g19C []) g19kr env st = f19 (env 0) (env 1) st := by
  rw [(g19seq g19nr (g19seq g19n1 (g19e11)))]
  kernel_rfl
theorem s19_eq (x0 : V) (x1 : V) (st : St) : s19 [x0, x1] st = f19 x0 x1 st := by
  have h : afn Try.prog g19mu g19T big (areg Try.prog g19mu g19T) 19 [x0, x1] st = g19X (g19C []) g19kr (fun t => [x0, x1].getD t (.tup [])) st := by kernel_rfl
  rw [s19, sealF_eq]
  exact h.trans (g19er _ st)
/-! (*sinew/link.Link).Waits -/
def g22mu : Nat → Bool := fun _ => false
noncomputable def g22T : Tbl := tget [(31, s31)]
theorem g22t : SimT Try.prog g22T := simT_cons sim31 (simT_nil)
noncomputable def s22 : Fn := sealF (afn Try.prog g22mu g22T big (areg Try.prog g22mu g22T) 22)
theorem sim22 : Sim Try.prog 22 s22 := (afn_sim g22t (fun m => areg_sound g22t hmix m) 22 (by kernel_rfl)).sealed
noncomputable def f22 (x0 : V) (st : St) : Res :=
 A.ret (s31 [x0.er1] st) fun a1 z2 =>
 A.un .not a1 fun a3 =>
 A.cond a3
 (some (.ret ((.int .i64 0) : V).er1, z2))
 (A.nilc x0 fun a4 =>
 A.faddr 4 a4 fun a5 =>
 A.load false 1 a5 z2 fun a6 z7 =>
 A.lenL a6 fun a8 =>
 some (.ret a8.er1, z7))
theorem s22_eq (x0 : V) (st : St) : s22 [x0] st = f22 x0 st := by
  rw [s22, sealF_eq]
  kernel_rfl
/-! (*sinew/link.Link).Other -/
def g23mu : Nat → Bool := fun _ => false
noncomputable def g23T : Tbl := tget [(31, s31)]
theorem g23t : SimT Try.prog g23T := simT_cons sim31 (simT_nil)
noncomputable def s23 : Fn := sealF (afn Try.prog g23mu g23T big (areg Try.prog g23mu g23T) 23)
theorem sim23 : Sim Try.prog 23 s23 := (afn_sim g23t (fun m => areg_sound g23t hmix m) 23 (by kernel_rfl)).sealed
noncomputable def f23 (x0 : V) (st : St) : Res :=
 A.ret (s31 [x0.er1] st) fun a1 z2 =>
 A.un .not a1 fun a3 =>
 A.cond a3
 (some (.ret ((.int .i64 0) : V).er1, z2))
 (A.nilc x0 fun a4 =>
 A.faddr 1 a4 fun a5 =>
 A.load false 1 a5 z2 fun a6 z7 =>
 some (.ret a6.er1, z7))
theorem s23_eq (x0 : V) (st : St) : s23 [x0] st = f23 x0 st := by
  rw [s23, sealF_eq]
  kernel_rfl
/-! (*sinew/link.Link).Tick -/
def g16mu : Nat → Bool := fun _ => false
noncomputable def g16T : Tbl := tget [(31, s31), (32, s32)]
theorem g16t : SimT Try.prog g16T := simT_cons sim31 ( simT_cons sim32 (simT_nil))
noncomputable def s16 : Fn := sealF (fun args st => fg (afn Try.prog g16mu g16T big (areg Try.prog g16mu g16T) 16 args st) st)
theorem sim16 : Sim Try.prog 16 s16 := (afn_sim g16t (fun m => areg_sound g16t hmix m) 16 (by kernel_rfl)).fg.sealed
noncomputable def g16C (p : List Nat) : Code := sub (match Try.f16.body with | some c => c | none => .skip) p
noncomputable def g16X (c : Code) (K : Kon) : Env → St → Res := aexec Try.prog g16mu g16T big 36 (areg Try.prog g16mu g16T 36) c K
noncomputable def g16kr : Kon := aresK Try.prog Try.f16.results.toList
theorem g16reg {c : Code} {K : Kon} {G : Env → St → Res} {id : Nat} {ops : Array Oper} {l1 l2 : List Nat} (hc : c = .region id ops false) (hl : List.range ops.size = l1 ++ l2) (h : (fun env st => aops Try.prog g16mu g16T 36 ops l2 env st (K .normal)) = G) : g16X c K = fun env st => aops Try.prog g16mu g16T 36 ops l1 env st G := reg_cut hc hl h
theorem g16seq {c x y : Code} {K : Kon} {G : Env → St → Res} (hc : c = .seq x y) (hy : g16X y K = G) : g16X c K = g16X x (kSeq G K) := seq_cut hc hy
theorem g16blk {c x : Code} {K : Kon} {i : Nat} (hc : c = .block i x) : g16X c K = g16X x (kBlk i K) := blk_cut hc
theorem g16loop {c x : Code} {K : Kon} (hc : c = .loop x) : g16X c K = aloop (g16X x) K big := loop_cut hc
theorem g16cond {c x y : Code} {K : Kon} {v : Operand} {F G : Env → St → Res} (hc : c = .cond v x y) (hx : g16X x K = F) (hy : g16X y K = G) : g16X c K = condF v F G := cond_cut hc hx hy
noncomputable def g16k0 : Kon := kSeq (g16X (g16C [1, 1, 1, 1]) (g16kr)) (g16kr)
noncomputable def g16k1 : Kon := kBlk 0 (g16k0)
noncomputable def g16bz3e : Nat → V → V → V → V → St → Res
| 0, _, _, _, _, _ => none
| n + 1, x0, x3, x24, x25, st =>
 A.bin .lss x25 x24 fun a1 =>
 A.cond a1
 (A.ret (s32 [x0.er1, x25.er1] st) fun a2 z3 =>
 A.bslice 1 (.str []) 1 [(0, a2)] fun a4 =>
 A.app 1 x3 (elemsOf 5 1 a4 z3) z3 fun a5 z6 =>
 A.bin .add x25 (.int .i64 1) fun a7 =>
 (g16bz3e n) x0 a5 x24 a7 z6)
 (some (.ret x3.er1, st))
theorem g16nz3e : g16C [1, 1, 1, 0, 1, 0] = .loop (g16C [1, 1, 1, 0, 1, 0, 0]) := by kernel_rfl
noncomputable def g16k2 (Lz3e : V → V → V → V → St → Res) : Kon := kSeq (fun env st => Lz3e (env 0) (env 3) (env 24) (env 25) st) (g16k1)
theorem g16ez3e : g16X (g16C [1, 1, 1, 0, 1, 0]) (g16k1) = fun env st => g16bz3e big (env 0) (env 3) (env 24) (env 25) st := by
  have key : ∀ n, aloop (g16X (g16C [1, 1, 1, 0, 1, 0, 0])) (g16k1) n = fun env st => g16bz3e n (env 0) (env 3) (env 24) (env 25) st := by
    intro n
    induction n with
    | zero => rfl
    | succ n ih =>
      have h : aloop (g16X (g16C [1, 1, 1, 0, 1, 0, 0])) (g16k1) (n + 1) = g16X (g16C [1, 1, 1, 0, 1, 0, 0]) (kSeq (aloop (g16X (g16C [1, 1, 1, 0, 1, 0, 0])) (g16k1) n) (g16k1)) := rfl
      rw [h, ih]
      refine Eq.trans (Eq.refl _) ?_
      funext env st
      kernel_rfl
  exact (g16loop g16nz3e).trans (key big)
noncomputable def g16b11101 (x0 : V) (x3 : V) (x24 : V) (x25 : V) (st : St) : Res :=
 g16bz3e big x0 x3 x24 x25 st
theorem g16n11101 : g16C [1, 1, 1, 0, 1] = .block 0 (g16C [1, 1, 1, 0, 1, 0]) := by kernel_rfl
theorem g16e11101 : g16X (g16C [1, 1, 1, 0, 1]) (g16k0) = fun env st => g16b11101 (env 0) (env 3) (env 24) (env 25) st := by
  refine Eq.trans ((g16blk g16n11101).trans (g16ez3e)) ?_
  funext env st
  kernel_rfl
noncomputable def f16 (x0 : V) (st : St) : Res :=
 A.ret (s31 [x0.er1] st) fun a1 z2 =>
 A.un .not a1 fun a3 =>
 A.cond a3
 (some (.ret ((.lst [] 1) : V).er1, z2))
 (A.nilc x0 fun a4 =>
 A.faddr 4 a4 fun a5 =>
 A.load false 1 a5 z2 fun a6 _ =>
 A.nilc x0 fun a7 =>
 A.faddr 4 a7 fun a8 =>
 A.load false 1 a8 z2 fun a9 _ =>
 A.lenL a9 fun a10 =>
 A.min a10 (.int .i64 64) fun a11 =>
 A.nilc x0 fun a12 =>
 A.faddr 4 a12 fun a13 =>
 A.load false 1 a13 z2 fun a14 _ =>
 A.lenL a14 fun a15 =>
 A.slice 1 a6 none (some a11) (some a15) fun a16 =>
 A.lenL a16 fun a17 =>
 g16b11101 x0 (.lst [] 1) a17 (.int .i64 0) z2)
theorem g16nr : g16C [] = .seq (g16C [0]) (g16C [1]) := by kernel_rfl
theorem g16n1 : g16C [1] = .seq (g16C [1, 0]) (g16C [1, 1]) := by kernel_rfl
theorem g16n11 : g16C [1, 1] = .seq (g16C [1, 1, 0]) (g16C [1, 1, 1]) := by kernel_rfl
theorem g16n111 : g16C [1, 1, 1] = .seq (g16C [1, 1, 1, 0]) (g16C [1, 1, 1, 1]) := by kernel_rfl
theorem g16n1110 : g16C [1, 1, 1, 0] = .seq (g16C [1, 1, 1, 0, 0]) (g16C [1, 1, 1, 0, 1]) := by kernel_rfl
theorem g16er (env : Env) (st : St) : g16X (g16C []) g16kr env st = f16 (env 0) st := by
  rw [(g16seq g16nr (g16seq g16n1 (g16seq g16n11 ((g16seq g16n111 rfl).trans (g16seq g16n1110 (g16e11101))))))]
  kernel_rfl
theorem s16_eq (x0 : V) (st : St) : s16 [x0] st = fg (f16 x0 st) st := by
  have h : afn Try.prog g16mu g16T big (areg Try.prog g16mu g16T) 16 [x0] st = g16X (g16C []) g16kr (fun t => [x0].getD t (.tup [])) st := by kernel_rfl
  rw [s16, sealF_eq]
  show fg _ st = fg _ st
  refine congrArg (fun r => fg r st) ?_
  exact h.trans (g16er _ st)
end Go.Ab
