import Derived.Test.YtimicmlpaaohoaaAbQuiet
import Derived.Test.YtimicmlpaaohoaaAbP153
namespace Go.Ab
open Go.Proofs
set_option linter.unusedVariables false
set_option maxRecDepth 100000
/-! sinew/sinewlaw15.carry -/
def g29mu : Nat → Bool := fun _ => false
noncomputable def g29T : Tbl := tget [(16, s16), (19, s19)]
theorem g29t : SimT Try.prog g29T := simT_cons sim16 ( simT_cons sim19 (simT_nil))
noncomputable def s29 : Fn := sealF (afn Try.prog g29mu g29T big (areg Try.prog g29mu g29T) 29)
theorem sim29 : Sim Try.prog 29 s29 := (afn_sim g29t (fun m => areg_sound g29t hmix m) 29 (by kernel_rfl)).sealed
noncomputable def g29C (p : List Nat) : Code := sub (match Try.f29.body with | some c => c | none => .skip) p
noncomputable def g29X (c : Code) (K : Kon) : Env → St → Res := aexec Try.prog g29mu g29T big 51 (areg Try.prog g29mu g29T 51) c K
noncomputable def g29kr : Kon := aresK Try.prog Try.f29.results.toList
theorem g29reg {c : Code} {K : Kon} {G : Env → St → Res} {id : Nat} {ops : Array Oper} {l1 l2 : List Nat} (hc : c = .region id ops false) (hl : List.range ops.size = l1 ++ l2) (h : (fun env st => aops Try.prog g29mu g29T 51 ops l2 env st (K .normal)) = G) : g29X c K = fun env st => aops Try.prog g29mu g29T 51 ops l1 env st G := reg_cut hc hl h
theorem g29seq {c x y : Code} {K : Kon} {G : Env → St → Res} (hc : c = .seq x y) (hy : g29X y K = G) : g29X c K = g29X x (kSeq G K) := seq_cut hc hy
theorem g29blk {c x : Code} {K : Kon} {i : Nat} (hc : c = .block i x) : g29X c K = g29X x (kBlk i K) := blk_cut hc
theorem g29loop {c x : Code} {K : Kon} (hc : c = .loop x) : g29X c K = aloop (g29X x) K big := loop_cut hc
theorem g29cond {c x y : Code} {K : Kon} {v : Operand} {F G : Env → St → Res} (hc : c = .cond v x y) (hx : g29X x K = F) (hy : g29X y K = G) : g29X c K = condF v F G := cond_cut hc hx hy
noncomputable def g29k0 : Kon := kSeq (g29X (g29C [1, 1, 1, 1, 1]) (g29kr)) (g29kr)
noncomputable def g29k1 : Kon := kBlk 0 (g29k0)
noncomputable def g29k2 (Lz6y : V → V → V → V → V → V → St → Res) : Kon := kSeq (fun env st => Lz6y (env 0) (env 1) (env 6) (env 7) (env 8) (env 9) st) (g29k1)
noncomputable def g29k3 (Lz6y : V → V → V → V → V → V → St → Res) : Kon := kSeq (g29X (g29C [1, 1, 1, 1, 0, 1, 0, 0, 1, 1]) (g29k2 Lz6y)) (g29k2 Lz6y)
noncomputable def g29k4 (Lz6y : V → V → V → V → V → V → St → Res) : Kon := kBlk 1 (g29k3 Lz6y)
noncomputable def g29k5 (Lz6y : V → V → V → V → V → V → St → Res) : Kon := kBlk 2 (g29k4 Lz6y)
noncomputable def g29bz2qvy (Lz6y : V → V → V → V → V → V → St → Res) : Nat → V → V → V → V → V → V → V → V → St → Res
| 0, _, _, _, _, _, _, _, _, _ => none
| n + 1, x0, x1, x6, x7, x8, x9, x10, x11, st =>
 A.faddr 1 x10 fun a1 =>
 A.load false 1 a1 st fun a2 z3 =>
 A.lenL a2 fun a4 =>
 A.bin .lss x11 a4 fun a5 =>
 A.cond a5
 (A.faddr 1 x10 fun a6 =>
 A.load false 1 a6 z3 fun a7 z8 =>
 A.iaddr 1 a7 x11 fun a9 =>
 A.load false 1 a9 z8 fun a10 z11 =>
 A.ret (s19 [x0.er1, a10.er1] z11) fun a12 z13 =>
 A.bin .add x11 (.int .i64 1) fun a14 =>
 (g29bz2qvy Lz6y n) x0 x1 x6 x7 x8 x9 x10 a14 z13)
 (A.bin .add x9 (.int .i64 1) fun a15 =>
 Lz6y x0 x1 x6 x7 x8 a15 z3)
theorem g29nz2qvy : g29C [1, 1, 1, 1, 0, 1, 0, 0, 1, 0, 0, 1, 1, 1, 1, 0] = .loop (g29C [1, 1, 1, 1, 0, 1, 0, 0, 1, 0, 0, 1, 1, 1, 1, 0, 0]) := by kernel_rfl
noncomputable def g29k6 (Lz6y : V → V → V → V → V → V → St → Res) (Lz2qvy : V → V → V → V → V → V → V → V → St → Res) : Kon := kSeq (fun env st => Lz2qvy (env 0) (env 1) (env 6) (env 7) (env 8) (env 9) (env 10) (env 11) st) (g29k5 Lz6y)
theorem g29ez2qvy (Lz6y : V → V → V → V → V → V → St → Res) : g29X (g29C [1, 1, 1, 1, 0, 1, 0, 0, 1, 0, 0, 1, 1, 1, 1, 0]) (g29k5 Lz6y) = fun env st => g29bz2qvy Lz6y big (env 0) (env 1) (env 6) (env 7) (env 8) (env 9) (env 10) (env 11) st := by
  have key : ∀ n, aloop (g29X (g29C [1, 1, 1, 1, 0, 1, 0, 0, 1, 0, 0, 1, 1, 1, 1, 0, 0])) (g29k5 Lz6y) n = fun env st => g29bz2qvy Lz6y n (env 0) (env 1) (env 6) (env 7) (env 8) (env 9) (env 10) (env 11) st := by
    intro n
    induction n with
    | zero => rfl
    | succ n ih =>
      have h : aloop (g29X (g29C [1, 1, 1, 1, 0, 1, 0, 0, 1, 0, 0, 1, 1, 1, 1, 0, 0])) (g29k5 Lz6y) (n + 1) = g29X (g29C [1, 1, 1, 1, 0, 1, 0, 0, 1, 0, 0, 1, 1, 1, 1, 0, 0]) (kSeq (aloop (g29X (g29C [1, 1, 1, 1, 0, 1, 0, 0, 1, 0, 0, 1, 1, 1, 1, 0, 0])) (g29k5 Lz6y) n) (g29k5 Lz6y)) := rfl
      rw [h, ih]
      refine Eq.trans (Eq.refl _) ?_
      funext env st
      kernel_rfl
  exact (g29loop g29nz2qvy).trans (key big)
noncomputable def g29bzccz (Lz6y : V → V → V → V → V → V → St → Res) (x0 : V) (x1 : V) (x6 : V) (x7 : V) (x8 : V) (x9 : V) (x10 : V) (st : St) : Res :=
 A.faddr 0 x10 fun a1 =>
 A.load false 1 a1 st fun a2 z3 =>
 A.app 4 x6 (elemsOf 5 4 a2 z3) z3 fun a4 z5 =>
 g29bz2qvy Lz6y big x0 x1 a4 x7 x8 x9 x10 (.int .i64 0) z5
theorem g29nzccz : g29C [1, 1, 1, 1, 0, 1, 0, 0, 1, 0, 0, 1, 1] = .seq (g29C [1, 1, 1, 1, 0, 1, 0, 0, 1, 0, 0, 1, 1, 0]) (g29C [1, 1, 1, 1, 0, 1, 0, 0, 1, 0, 0, 1, 1, 1]) := by kernel_rfl
theorem g29nzopz : g29C [1, 1, 1, 1, 0, 1, 0, 0, 1, 0, 0, 1, 1, 1] = .seq (g29C [1, 1, 1, 1, 0, 1, 0, 0, 1, 0, 0, 1, 1, 1, 0]) (g29C [1, 1, 1, 1, 0, 1, 0, 0, 1, 0, 0, 1, 1, 1, 1]) := by kernel_rfl
theorem g29nz1dfz : g29C [1, 1, 1, 1, 0, 1, 0, 0, 1, 0, 0, 1, 1, 1, 1] = .block 2 (g29C [1, 1, 1, 1, 0, 1, 0, 0, 1, 0, 0, 1, 1, 1, 1, 0]) := by kernel_rfl
theorem g29ezccz (Lz6y : V → V → V → V → V → V → St → Res) : g29X (g29C [1, 1, 1, 1, 0, 1, 0, 0, 1, 0, 0, 1, 1]) (g29k4 Lz6y) = fun env st => g29bzccz Lz6y (env 0) (env 1) (env 6) (env 7) (env 8) (env 9) (env 10) st := by
  refine Eq.trans (g29seq g29nzccz (g29seq g29nzopz ((g29blk g29nz1dfz).trans (g29ez2qvy Lz6y)))) ?_
  funext env st
  kernel_rfl
noncomputable def g29bz66h (Lz6y : V → V → V → V → V → V → St → Res) (x0 : V) (x1 : V) (x6 : V) (x7 : V) (x8 : V) (x9 : V) (x10 : V) (st : St) : Res :=
 A.guard x7 false
 (A.faddr 2 x10 fun a1 =>
 A.load false 1 a1 st fun a2 z3 =>
 g29bzccz Lz6y x0 x1 x6 a2 x8 x9 x10 z3)
 (g29bzccz Lz6y x0 x1 x6 (.bool true) x8 x9 x10 st)
theorem g29nz66h : g29C [1, 1, 1, 1, 0, 1, 0, 0, 1, 0, 0, 1] = .seq (g29C [1, 1, 1, 1, 0, 1, 0, 0, 1, 0, 0, 1, 0]) (g29C [1, 1, 1, 1, 0, 1, 0, 0, 1, 0, 0, 1, 1]) := by kernel_rfl
theorem g29ez66h (Lz6y : V → V → V → V → V → V → St → Res) : g29X (g29C [1, 1, 1, 1, 0, 1, 0, 0, 1, 0, 0, 1]) (g29k4 Lz6y) = fun env st => g29bz66h Lz6y (env 0) (env 1) (env 6) (env 7) (env 8) (env 9) (env 10) st := by
  refine Eq.trans (g29seq g29nz66h (g29ezccz Lz6y)) ?_
  funext env st
  kernel_rfl
noncomputable def g29bz6y : Nat → V → V → V → V → V → V → St → Res
| 0, _, _, _, _, _, _, _ => none
| n + 1, x0, x1, x6, x7, x8, x9, st =>
 A.lenL x8 fun a1 =>
 A.bin .lss x9 a1 fun a2 =>
 A.cond a2
 (A.iaddr 1 x8 x9 fun a3 =>
 A.load false 1 a3 st fun a4 z5 =>
 A.ret (s19 [x1.er1, a4.er1] z5) fun a6 z7 =>
 A.box (.agg [(.lst [] 1), (.lst [] 1), (.bool false)]) z7 fun a8 z9 =>
 A.store 3 a8 a6 z9 fun z10 =>
 g29bz66h (g29bz6y n) x0 x1 x6 x7 x8 x9 a8 z10)
 (some (.ret (.tup [x6.er1, x7.er1]), st))
theorem g29nz6y : g29C [1, 1, 1, 1, 0, 1, 0] = .loop (g29C [1, 1, 1, 1, 0, 1, 0, 0]) := by kernel_rfl
theorem g29nzdw : g29C [1, 1, 1, 1, 0, 1, 0, 0] = .seq (g29C [1, 1, 1, 1, 0, 1, 0, 0, 0]) (g29C [1, 1, 1, 1, 0, 1, 0, 0, 1]) := by kernel_rfl
theorem g29nzrt : g29C [1, 1, 1, 1, 0, 1, 0, 0, 1] = .seq (g29C [1, 1, 1, 1, 0, 1, 0, 0, 1, 0]) (g29C [1, 1, 1, 1, 0, 1, 0, 0, 1, 1]) := by kernel_rfl
theorem g29nz1jm : g29C [1, 1, 1, 1, 0, 1, 0, 0, 1, 0] = .block 1 (g29C [1, 1, 1, 1, 0, 1, 0, 0, 1, 0, 0]) := by kernel_rfl
theorem g29nz338 : g29C [1, 1, 1, 1, 0, 1, 0, 0, 1, 0, 0] = .seq (g29C [1, 1, 1, 1, 0, 1, 0, 0, 1, 0, 0, 0]) (g29C [1, 1, 1, 1, 0, 1, 0, 0, 1, 0, 0, 1]) := by kernel_rfl
theorem g29ez6y : g29X (g29C [1, 1, 1, 1, 0, 1, 0]) (g29k1) = fun env st => g29bz6y big (env 0) (env 1) (env 6) (env 7) (env 8) (env 9) st := by
  have key : ∀ n, aloop (g29X (g29C [1, 1, 1, 1, 0, 1, 0, 0])) (g29k1) n = fun env st => g29bz6y n (env 0) (env 1) (env 6) (env 7) (env 8) (env 9) st := by
    intro n
    induction n with
    | zero => rfl
    | succ n ih =>
      have h : aloop (g29X (g29C [1, 1, 1, 1, 0, 1, 0, 0])) (g29k1) (n + 1) = g29X (g29C [1, 1, 1, 1, 0, 1, 0, 0]) (kSeq (aloop (g29X (g29C [1, 1, 1, 1, 0, 1, 0, 0])) (g29k1) n) (g29k1)) := rfl
      rw [h, ih]
      refine Eq.trans (g29seq g29nzdw ((g29seq g29nzrt rfl).trans ((g29blk g29nz1jm).trans (g29seq g29nz338 (g29ez66h (g29bz6y n)))))) ?_
      funext env st
      kernel_rfl
  exact (g29loop g29nz6y).trans (key big)
noncomputable def f29 (x0 : V) (x1 : V) (st : St) : Res :=
 A.ret (s16 [x0.er1] st) fun a1 z2 =>
 g29bz6y big x0 x1 (.lst [] 1) (.bool false) a1 (.int .i64 0) z2
theorem g29nr : g29C [] = .seq (g29C [0]) (g29C [1]) := by kernel_rfl
theorem g29n1 : g29C [1] = .seq (g29C [1, 0]) (g29C [1, 1]) := by kernel_rfl
theorem g29n11 : g29C [1, 1] = .seq (g29C [1, 1, 0]) (g29C [1, 1, 1]) := by kernel_rfl
theorem g29n111 : g29C [1, 1, 1] = .seq (g29C [1, 1, 1, 0]) (g29C [1, 1, 1, 1]) := by kernel_rfl
theorem g29n1111 : g29C [1, 1, 1, 1] = .seq (g29C [1, 1, 1, 1, 0]) (g29C [1, 1, 1, 1, 1]) := by kernel_rfl
theorem g29n11110 : g29C [1, 1, 1, 1, 0] = .seq (g29C [1, 1, 1, 1, 0, 0]) (g29C [1, 1, 1, 1, 0, 1]) := by kernel_rfl
theorem g29nz3h : g29C [1, 1, 1, 1, 0, 1] = .block 0 (g29C [1, 1, 1, 1, 0, 1, 0]) := by kernel_rfl
theorem g29er (env : Env) (st : St) : g29X (g29C []) g29kr env st = f29 (env 0) (env 1) st := by
  rw [(g29seq g29nr (g29seq g29n1 (g29seq g29n11 (g29seq g29n111 ((g29seq g29n1111 rfl).trans (g29seq g29n11110 ((g29blk g29nz3h).trans (g29ez6y))))))))]
  kernel_rfl
theorem s29_eq (x0 : V) (x1 : V) (st : St) : s29 [x0, x1] st = f29 x0 x1 st := by
  have h : afn Try.prog g29mu g29T big (areg Try.prog g29mu g29T) 29 [x0, x1] st = g29X (g29C []) g29kr (fun t => [x0, x1].getD t (.tup [])) st := by kernel_rfl
  rw [s29, sealF_eq]
  exact h.trans (g29er _ st)
/-! sinew/sinewlaw15.light -/
def g12mu : Nat → Bool := fun _ => false
noncomputable def g12T : Tbl := tget []
theorem g12t : SimT Try.prog g12T := simT_nil
noncomputable def s12 : Fn := sealF (fun args st => fg (afn Try.prog g12mu g12T big (areg Try.prog g12mu g12T) 12 args st) st)
theorem sim12 : Sim Try.prog 12 s12 := (afn_sim g12t (fun m => areg_sound g12t hmix m) 12 (by kernel_rfl)).fg.sealed
noncomputable def g12C (p : List Nat) : Code := sub (match Try.f12.body with | some c => c | none => .skip) p
noncomputable def g12X (c : Code) (K : Kon) : Env → St → Res := aexec Try.prog g12mu g12T big 54 (areg Try.prog g12mu g12T 54) c K
noncomputable def g12kr : Kon := aresK Try.prog Try.f12.results.toList
theorem g12reg {c : Code} {K : Kon} {G : Env → St → Res} {id : Nat} {ops : Array Oper} {l1 l2 : List Nat} (hc : c = .region id ops false) (hl : List.range ops.size = l1 ++ l2) (h : (fun env st => aops Try.prog g12mu g12T 54 ops l2 env st (K .normal)) = G) : g12X c K = fun env st => aops Try.prog g12mu g12T 54 ops l1 env st G := reg_cut hc hl h
theorem g12seq {c x y : Code} {K : Kon} {G : Env → St → Res} (hc : c = .seq x y) (hy : g12X y K = G) : g12X c K = g12X x (kSeq G K) := seq_cut hc hy
theorem g12blk {c x : Code} {K : Kon} {i : Nat} (hc : c = .block i x) : g12X c K = g12X x (kBlk i K) := blk_cut hc
theorem g12loop {c x : Code} {K : Kon} (hc : c = .loop x) : g12X c K = aloop (g12X x) K big := loop_cut hc
theorem g12cond {c x y : Code} {K : Kon} {v : Operand} {F G : Env → St → Res} (hc : c = .cond v x y) (hx : g12X x K = F) (hy : g12X y K = G) : g12X c K = condF v F G := cond_cut hc hx hy
noncomputable def g12k0 : Kon := kSeq (g12X (g12C [1, 1, 1, 1]) (g12kr)) (g12kr)
noncomputable def g12k1 : Kon := kBlk 2 (g12k0)
noncomputable def g12k2 (Lz3e : V → V → V → St → Res) : Kon := kSeq (fun env st => Lz3e (env 1) (env 3) (env 5) st) (g12k1)
noncomputable def g12k3 (Lz3e : V → V → V → St → Res) : Kon := kSeq (g12X (g12C [1, 1, 1, 0, 1, 0, 0, 1, 1]) (g12k2 Lz3e)) (g12k2 Lz3e)
noncomputable def g12k4 (Lz3e : V → V → V → St → Res) : Kon := kBlk 3 (g12k3 Lz3e)
noncomputable def g12k5 (Lz3e : V → V → V → St → Res) : Kon := kBlk 4 (g12k4 Lz3e)
noncomputable def g12bz61e (Lz3e : V → V → V → St → Res) : Nat → V → V → V → V → St → Res
| 0, _, _, _, _, _ => none
| n + 1, x1, x3, x5, x6, st =>
 A.faddr 3 x1 fun a1 =>
 A.load false 1 a1 st fun a2 z3 =>
 A.iaddr 1 a2 x5 fun a4 =>
 A.load false 1 a4 z3 fun a5 z6 =>
 A.lenL a5 fun a7 =>
 A.bin .lss x6 a7 fun a8 =>
 A.cond a8
 (A.faddr 3 x1 fun a9 =>
 A.load false 1 a9 z6 fun a10 z11 =>
 A.iaddr 1 a10 x5 fun a12 =>
 A.load false 1 a12 z11 fun a13 z14 =>
 A.iaddr 1 a13 x6 fun a15 =>
 A.load false 1 a15 z14 fun a16 z17 =>
 A.lenS a16 fun a18 =>
 A.min a18 (.int .i64 4096) fun a19 =>
 A.bin .add x3 a19 fun a20 =>
 A.bin .add x6 (.int .i64 1) fun a21 =>
 (g12bz61e Lz3e n) x1 a20 x5 a21 z17)
 (A.bin .add x5 (.int .i64 1) fun a22 =>
 Lz3e x1 x3 a22 z6)
theorem g12nz61e : g12C [1, 1, 1, 0, 1, 0, 0, 1, 0, 0, 1, 0] = .loop (g12C [1, 1, 1, 0, 1, 0, 0, 1, 0, 0, 1, 0, 0]) := by kernel_rfl
noncomputable def g12k6 (Lz3e : V → V → V → St → Res) (Lz61e : V → V → V → V → St → Res) : Kon := kSeq (fun env st => Lz61e (env 1) (env 3) (env 5) (env 6) st) (g12k5 Lz3e)
theorem g12ez61e (Lz3e : V → V → V → St → Res) : g12X (g12C [1, 1, 1, 0, 1, 0, 0, 1, 0, 0, 1, 0]) (g12k5 Lz3e) = fun env st => g12bz61e Lz3e big (env 1) (env 3) (env 5) (env 6) st := by
  have key : ∀ n, aloop (g12X (g12C [1, 1, 1, 0, 1, 0, 0, 1, 0, 0, 1, 0, 0])) (g12k5 Lz3e) n = fun env st => g12bz61e Lz3e n (env 1) (env 3) (env 5) (env 6) st := by
    intro n
    induction n with
    | zero => rfl
    | succ n ih =>
      have h : aloop (g12X (g12C [1, 1, 1, 0, 1, 0, 0, 1, 0, 0, 1, 0, 0])) (g12k5 Lz3e) (n + 1) = g12X (g12C [1, 1, 1, 0, 1, 0, 0, 1, 0, 0, 1, 0, 0]) (kSeq (aloop (g12X (g12C [1, 1, 1, 0, 1, 0, 0, 1, 0, 0, 1, 0, 0])) (g12k5 Lz3e) n) (g12k5 Lz3e)) := rfl
      rw [h, ih]
      refine Eq.trans (Eq.refl _) ?_
      funext env st
      kernel_rfl
  exact (g12loop g12nz61e).trans (key big)
noncomputable def g12bz3e : Nat → V → V → V → St → Res
| 0, _, _, _, _ => none
| n + 1, x1, x3, x5, st =>
 A.faddr 3 x1 fun a1 =>
 A.load false 1 a1 st fun a2 z3 =>
 A.lenL a2 fun a4 =>
 A.bin .lss x5 a4 fun a5 =>
 A.cond a5
 (g12bz61e (g12bz3e n) big x1 x3 x5 (.int .i64 0) z3)
 (A.bin .lss x3 (.int .i64 2048) fun a6 =>
 some (.ret a6.er1, z3))
theorem g12nz3e : g12C [1, 1, 1, 0, 1, 0] = .loop (g12C [1, 1, 1, 0, 1, 0, 0]) := by kernel_rfl
theorem g12nz6s : g12C [1, 1, 1, 0, 1, 0, 0] = .seq (g12C [1, 1, 1, 0, 1, 0, 0, 0]) (g12C [1, 1, 1, 0, 1, 0, 0, 1]) := by kernel_rfl
theorem g12nzdl : g12C [1, 1, 1, 0, 1, 0, 0, 1] = .seq (g12C [1, 1, 1, 0, 1, 0, 0, 1, 0]) (g12C [1, 1, 1, 0, 1, 0, 0, 1, 1]) := by kernel_rfl
theorem g12nzr6 : g12C [1, 1, 1, 0, 1, 0, 0, 1, 0] = .block 3 (g12C [1, 1, 1, 0, 1, 0, 0, 1, 0, 0]) := by kernel_rfl
theorem g12nz1ic : g12C [1, 1, 1, 0, 1, 0, 0, 1, 0, 0] = .seq (g12C [1, 1, 1, 0, 1, 0, 0, 1, 0, 0, 0]) (g12C [1, 1, 1, 0, 1, 0, 0, 1, 0, 0, 1]) := by kernel_rfl
theorem g12nz30p : g12C [1, 1, 1, 0, 1, 0, 0, 1, 0, 0, 1] = .block 4 (g12C [1, 1, 1, 0, 1, 0, 0, 1, 0, 0, 1, 0]) := by kernel_rfl
theorem g12ez3e : g12X (g12C [1, 1, 1, 0, 1, 0]) (g12k1) = fun env st => g12bz3e big (env 1) (env 3) (env 5) st := by
  have key : ∀ n, aloop (g12X (g12C [1, 1, 1, 0, 1, 0, 0])) (g12k1) n = fun env st => g12bz3e n (env 1) (env 3) (env 5) st := by
    intro n
    induction n with
    | zero => rfl
    | succ n ih =>
      have h : aloop (g12X (g12C [1, 1, 1, 0, 1, 0, 0])) (g12k1) (n + 1) = g12X (g12C [1, 1, 1, 0, 1, 0, 0]) (kSeq (aloop (g12X (g12C [1, 1, 1, 0, 1, 0, 0])) (g12k1) n) (g12k1)) := rfl
      rw [h, ih]
      refine Eq.trans (g12seq g12nz6s ((g12seq g12nzdl rfl).trans ((g12blk g12nzr6).trans (g12seq g12nz1ic ((g12blk g12nz30p).trans (g12ez61e (g12bz3e n))))))) ?_
      funext env st
      kernel_rfl
  exact (g12loop g12nz3e).trans (key big)
noncomputable def g12b111 (x1 : V) (x3 : V) (st : St) : Res :=
 g12bz3e big x1 x3 (.int .i64 0) st
theorem g12n111 : g12C [1, 1, 1] = .seq (g12C [1, 1, 1, 0]) (g12C [1, 1, 1, 1]) := by kernel_rfl
theorem g12n1110 : g12C [1, 1, 1, 0] = .seq (g12C [1, 1, 1, 0, 0]) (g12C [1, 1, 1, 0, 1]) := by kernel_rfl
theorem g12n11101 : g12C [1, 1, 1, 0, 1] = .block 2 (g12C [1, 1, 1, 0, 1, 0]) := by kernel_rfl
theorem g12e111 : g12X (g12C [1, 1, 1]) (g12kr) = fun env st => g12b111 (env 1) (env 3) st := by
  refine Eq.trans ((g12seq g12n111 rfl).trans (g12seq g12n1110 ((g12blk g12n11101).trans (g12ez3e)))) ?_
  funext env st
  kernel_rfl
noncomputable def g12k7 : Kon := kSeq (fun env st => g12b111 (env 1) (env 3) st) (g12kr)
noncomputable def g12k8 : Kon := kBlk 0 (g12k7)
noncomputable def g12b11010 : Nat → V → V → V → St → Res
| 0, _, _, _, _ => none
| n + 1, x1, x3, x4, st =>
 A.faddr 2 x1 fun a1 =>
 A.load false 1 a1 st fun a2 z3 =>
 A.lenL a2 fun a4 =>
 A.bin .lss x4 a4 fun a5 =>
 A.cond a5
 (A.faddr 2 x1 fun a6 =>
 A.load false 1 a6 z3 fun a7 z8 =>
 A.iaddr 1 a7 x4 fun a9 =>
 A.load false 1 a9 z8 fun a10 z11 =>
 A.lenS a10 fun a12 =>
 A.min a12 (.int .i64 4096) fun a13 =>
 A.bin .add x3 a13 fun a14 =>
 A.bin .add x4 (.int .i64 1) fun a15 =>
 (g12b11010 n) x1 a14 a15 z11)
 (g12b111 x1 x3 z3)
theorem g12n11010 : g12C [1, 1, 0, 1, 0] = .loop (g12C [1, 1, 0, 1, 0, 0]) := by kernel_rfl
noncomputable def g12k9 (L11010 : V → V → V → St → Res) : Kon := kSeq (fun env st => L11010 (env 1) (env 3) (env 4) st) (g12k8)
theorem g12e11010 : g12X (g12C [1, 1, 0, 1, 0]) (g12k8) = fun env st => g12b11010 big (env 1) (env 3) (env 4) st := by
  have key : ∀ n, aloop (g12X (g12C [1, 1, 0, 1, 0, 0])) (g12k8) n = fun env st => g12b11010 n (env 1) (env 3) (env 4) st := by
    intro n
    induction n with
    | zero => rfl
    | succ n ih =>
      have h : aloop (g12X (g12C [1, 1, 0, 1, 0, 0])) (g12k8) (n + 1) = g12X (g12C [1, 1, 0, 1, 0, 0]) (kSeq (aloop (g12X (g12C [1, 1, 0, 1, 0, 0])) (g12k8) n) (g12k8)) := rfl
      rw [h, ih]
      refine Eq.trans (Eq.refl _) ?_
      funext env st
      kernel_rfl
  exact (g12loop g12n11010).trans (key big)
noncomputable def f12 (x0 : V) (st : St) : Res :=
 A.box x0 st fun a1 z2 =>
 g12b11010 big a1 (.int .i64 0) (.int .i64 0) z2
theorem g12nr : g12C [] = .seq (g12C [0]) (g12C [1]) := by kernel_rfl
theorem g12n1 : g12C [1] = .seq (g12C [1, 0]) (g12C [1, 1]) := by kernel_rfl
theorem g12n11 : g12C [1, 1] = .seq (g12C [1, 1, 0]) (g12C [1, 1, 1]) := by kernel_rfl
theorem g12n110 : g12C [1, 1, 0] = .seq (g12C [1, 1, 0, 0]) (g12C [1, 1, 0, 1]) := by kernel_rfl
theorem g12n1101 : g12C [1, 1, 0, 1] = .block 0 (g12C [1, 1, 0, 1, 0]) := by kernel_rfl
theorem g12er (env : Env) (st : St) : g12X (g12C []) g12kr env st = f12 (env 0) st := by
  rw [(g12seq g12nr (g12seq g12n1 ((g12seq g12n11 (g12e111)).trans (g12seq g12n110 ((g12blk g12n1101).trans (g12e11010))))))]
  kernel_rfl
theorem s12_eq (x0 : V) (st : St) : s12 [x0] st = fg (f12 x0 st) st := by
  have h : afn Try.prog g12mu g12T big (areg Try.prog g12mu g12T) 12 [x0] st = g12X (g12C []) g12kr (fun t => [x0].getD t (.tup [])) st := by kernel_rfl
  rw [s12, sealF_eq]
  show fg _ st = fg _ st
  refine congrArg (fun r => fg r st) ?_
  exact h.trans (g12er _ st)
/-! sinew/sinewref03.short -/
def g73mu : Nat → Bool := fun _ => false
noncomputable def g73T : Tbl := tget []
theorem g73t : SimT Try.prog g73T := simT_nil
noncomputable def s73 : Fn := sealF (afn Try.prog g73mu g73T big (areg Try.prog g73mu g73T) 73)
theorem sim73 : Sim Try.prog 73 s73 := (afn_sim g73t (fun m => areg_sound g73t hmix m) 73 (by kernel_rfl)).sealed
noncomputable def g73C (p : List Nat) : Code := sub (match Try.f73.body with | some c => c | none => .skip) p
noncomputable def g73X (c : Code) (K : Kon) : Env → St → Res := aexec Try.prog g73mu g73T big 16 (areg Try.prog g73mu g73T 16) c K
noncomputable def g73kr : Kon := aresK Try.prog Try.f73.results.toList
theorem g73reg {c : Code} {K : Kon} {G : Env → St → Res} {id : Nat} {ops : Array Oper} {l1 l2 : List Nat} (hc : c = .region id ops false) (hl : List.range ops.size = l1 ++ l2) (h : (fun env st => aops Try.prog g73mu g73T 16 ops l2 env st (K .normal)) = G) : g73X c K = fun env st => aops Try.prog g73mu g73T 16 ops l1 env st G := reg_cut hc hl h
theorem g73seq {c x y : Code} {K : Kon} {G : Env → St → Res} (hc : c = .seq x y) (hy : g73X y K = G) : g73X c K = g73X x (kSeq G K) := seq_cut hc hy
theorem g73blk {c x : Code} {K : Kon} {i : Nat} (hc : c = .block i x) : g73X c K = g73X x (kBlk i K) := blk_cut hc
theorem g73loop {c x : Code} {K : Kon} (hc : c = .loop x) : g73X c K = aloop (g73X x) K big := loop_cut hc
theorem g73cond {c x y : Code} {K : Kon} {v : Operand} {F G : Env → St → Res} (hc : c = .cond v x y) (hx : g73X x K = F) (hy : g73X y K = G) : g73X c K = condF v F G := cond_cut hc hx hy
noncomputable def g73k0 : Kon := kSeq (g73X (g73C [1, 1]) (g73kr)) (g73kr)
noncomputable def g73k1 : Kon := kBlk 0 (g73k0)
noncomputable def g73b1010 : Nat → V → V → St → Res
| 0, _, _, _ => none
| n + 1, x0, x3, st =>
 A.lenL x0 fun a1 =>
 A.bin .lss x3 a1 fun a2 =>
 A.cond a2
 (A.iaddr 1 x0 x3 fun a3 =>
 A.load false 1 a3 st fun a4 z5 =>
 A.lenS a4 fun a6 =>
 A.bin .gtr a6 (.int .i64 65536) fun a7 =>
 A.cond a7
 (some (.ret ((.bool false) : V).er1, z5))
 (A.bin .add x3 (.int .i64 1) fun a8 =>
 (g73b1010 n) x0 a8 z5))
 (some (.ret ((.bool true) : V).er1, st))
theorem g73n1010 : g73C [1, 0, 1, 0] = .loop (g73C [1, 0, 1, 0, 0]) := by kernel_rfl
noncomputable def g73k2 (L1010 : V → V → St → Res) : Kon := kSeq (fun env st => L1010 (env 0) (env 3) st) (g73k1)
theorem g73e1010 : g73X (g73C [1, 0, 1, 0]) (g73k1) = fun env st => g73b1010 big (env 0) (env 3) st := by
  have key : ∀ n, aloop (g73X (g73C [1, 0, 1, 0, 0])) (g73k1) n = fun env st => g73b1010 n (env 0) (env 3) st := by
    intro n
    induction n with
    | zero => rfl
    | succ n ih =>
      have h : aloop (g73X (g73C [1, 0, 1, 0, 0])) (g73k1) (n + 1) = g73X (g73C [1, 0, 1, 0, 0]) (kSeq (aloop (g73X (g73C [1, 0, 1, 0, 0])) (g73k1) n) (g73k1)) := rfl
      rw [h, ih]
      refine Eq.trans (Eq.refl _) ?_
      funext env st
      kernel_rfl
  exact (g73loop g73n1010).trans (key big)
noncomputable def f73 (x0 : V) (st : St) : Res :=
 g73b1010 big x0 (.int .i64 0) st
theorem g73nr : g73C [] = .seq (g73C [0]) (g73C [1]) := by kernel_rfl
theorem g73n1 : g73C [1] = .seq (g73C [1, 0]) (g73C [1, 1]) := by kernel_rfl
theorem g73n10 : g73C [1, 0] = .seq (g73C [1, 0, 0]) (g73C [1, 0, 1]) := by kernel_rfl
theorem g73n101 : g73C [1, 0, 1] = .block 0 (g73C [1, 0, 1, 0]) := by kernel_rfl
theorem g73er (env : Env) (st : St) : g73X (g73C []) g73kr env st = f73 (env 0) st := by
  rw [(g73seq g73nr ((g73seq g73n1 rfl).trans (g73seq g73n10 ((g73blk g73n101).trans (g73e1010)))))]
  kernel_rfl
theorem s73_eq (x0 : V) (st : St) : s73 [x0] st = f73 x0 st := by
  have h : afn Try.prog g73mu g73T big (areg Try.prog g73mu g73T) 73 [x0] st = g73X (g73C []) g73kr (fun t => [x0].getD t (.tup [])) st := by kernel_rfl
  rw [s73, sealF_eq]
  exact h.trans (g73er _ st)
/-! sinew/sinewref03.shaped -/
def g60mu : Nat → Bool := fun _ => false
noncomputable def g60T : Tbl := tget [(73, s73)]
theorem g60t : SimT Try.prog g60T := simT_cons sim73 (simT_nil)
noncomputable def s60 : Fn := sealF (fun args st => fg (afn Try.prog g60mu g60T big (areg Try.prog g60mu g60T) 60 args st) st)
theorem sim60 : Sim Try.prog 60 s60 := (afn_sim g60t (fun m => areg_sound g60t hmix m) 60 (by kernel_rfl)).fg.sealed
noncomputable def g60C (p : List Nat) : Code := sub (match Try.f60.body with | some c => c | none => .skip) p
noncomputable def g60X (c : Code) (K : Kon) : Env → St → Res := aexec Try.prog g60mu g60T big 95 (areg Try.prog g60mu g60T 95) c K
noncomputable def g60kr : Kon := aresK Try.prog Try.f60.results.toList
theorem g60reg {c : Code} {K : Kon} {G : Env → St → Res} {id : Nat} {ops : Array Oper} {l1 l2 : List Nat} (hc : c = .region id ops false) (hl : List.range ops.size = l1 ++ l2) (h : (fun env st => aops Try.prog g60mu g60T 95 ops l2 env st (K .normal)) = G) : g60X c K = fun env st => aops Try.prog g60mu g60T 95 ops l1 env st G := reg_cut hc hl h
theorem g60seq {c x y : Code} {K : Kon} {G : Env → St → Res} (hc : c = .seq x y) (hy : g60X y K = G) : g60X c K = g60X x (kSeq G K) := seq_cut hc hy
theorem g60blk {c x : Code} {K : Kon} {i : Nat} (hc : c = .block i x) : g60X c K = g60X x (kBlk i K) := blk_cut hc
theorem g60loop {c x : Code} {K : Kon} (hc : c = .loop x) : g60X c K = aloop (g60X x) K big := loop_cut hc
theorem g60cond {c x y : Code} {K : Kon} {v : Operand} {F G : Env → St → Res} (hc : c = .cond v x y) (hx : g60X x K = F) (hy : g60X y K = G) : g60X c K = condF v F G := cond_cut hc hx hy
noncomputable def g60k0 : Kon := kSeq (g60X (g60C [1, 1, 1, 1, 1]) (g60kr)) (g60kr)
noncomputable def g60k1 : Kon := kBlk 2 (g60k0)
noncomputable def g60k2 (Lz6y : V → V → V → St → Res) : Kon := kSeq (fun env st => Lz6y (env 1) (env 4) (env 5) st) (g60k1)
noncomputable def g60k3 (Lz6y : V → V → V → St → Res) : Kon := kSeq (g60X (g60C [1, 1, 1, 1, 0, 1, 0, 0, 1, 1]) (g60k2 Lz6y)) (g60k2 Lz6y)
noncomputable def g60k4 (Lz6y : V → V → V → St → Res) : Kon := kBlk 3 (g60k3 Lz6y)
noncomputable def g60k5 (Lz6y : V → V → V → St → Res) : Kon := kSeq (g60X (g60C [1, 1, 1, 1, 0, 1, 0, 0, 1, 0, 0, 1]) (g60k4 Lz6y)) (g60k4 Lz6y)
noncomputable def g60k6 (Lz6y : V → V → V → St → Res) : Kon := kSeq (g60X (g60C [1, 1, 1, 1, 0, 1, 0, 0, 1, 0, 0, 0, 1]) (g60k5 Lz6y)) (g60k5 Lz6y)
noncomputable def g60bzccw_10 (Lz6y : V → V → V → St → Res) (x1 : V) (x4 : V) (x5 : V) (x78 : V) (st : St) : Res :=
 A.guard x78 false
 (A.faddr 3 x1 fun a1 =>
 A.load false 1 a1 st fun a2 z3 =>
 A.iaddr 1 a2 x5 fun a4 =>
 A.load false 1 a4 z3 fun a5 z6 =>
 A.ret (s73 [a5.er1] z6) fun a7 z8 =>
 A.un .not a7 fun a9 =>
 A.cond a9
 (some (.ret ((.bool false) : V).er1, z8))
 (A.faddr 3 x1 fun a10 =>
 A.load false 1 a10 z8 fun a11 z12 =>
 A.iaddr 1 a11 x5 fun a13 =>
 A.load false 1 a13 z12 fun a14 z15 =>
 A.lenL a14 fun a16 =>
 A.bin .add x4 a16 fun a17 =>
 A.bin .add x5 (.int .i64 1) fun a18 =>
 Lz6y x1 a17 a18 z15))
 (some (.ret ((.bool false) : V).er1, st))
theorem g60ezccw_10 (Lz6y : V → V → V → St → Res) : (fun env st => aops Try.prog g60mu g60T 95 (rops (g60C [1, 1, 1, 1, 0, 1, 0, 0, 1, 0, 0, 0, 0])) [10, 11, 12, 13, 14, 15, 16, 17] env st ((g60k6 Lz6y) .normal)) = fun env st => g60bzccw_10 Lz6y (env 1) (env 4) (env 5) (env 78) st := by
  refine Eq.trans (Eq.refl _) ?_
  funext env st
  kernel_rfl
noncomputable def g60bz6y : Nat → V → V → V → St → Res
| 0, _, _, _, _ => none
| n + 1, x1, x4, x5, st =>
 A.faddr 3 x1 fun a1 =>
 A.load false 1 a1 st fun a2 z3 =>
 A.lenL a2 fun a4 =>
 A.bin .lss x5 a4 fun a5 =>
 A.cond a5
 (A.faddr 3 x1 fun a6 =>
 A.load false 1 a6 z3 fun a7 z8 =>
 A.iaddr 1 a7 x5 fun a9 =>
 A.load false 1 a9 z8 fun a10 z11 =>
 A.lenL a10 fun a12 =>
 A.bin .sub (.int .i64 4096) x4 fun a13 =>
 A.bin .gtr a12 a13 fun a14 =>
 g60bzccw_10 (g60bz6y n) x1 x4 x5 a14 z11)
 (some (.ret ((.bool true) : V).er1, z3))
theorem g60nz6y : g60C [1, 1, 1, 1, 0, 1, 0] = .loop (g60C [1, 1, 1, 1, 0, 1, 0, 0]) := by kernel_rfl
theorem g60nzdw : g60C [1, 1, 1, 1, 0, 1, 0, 0] = .seq (g60C [1, 1, 1, 1, 0, 1, 0, 0, 0]) (g60C [1, 1, 1, 1, 0, 1, 0, 0, 1]) := by kernel_rfl
theorem g60nzrt : g60C [1, 1, 1, 1, 0, 1, 0, 0, 1] = .seq (g60C [1, 1, 1, 1, 0, 1, 0, 0, 1, 0]) (g60C [1, 1, 1, 1, 0, 1, 0, 0, 1, 1]) := by kernel_rfl
theorem g60nz1jm : g60C [1, 1, 1, 1, 0, 1, 0, 0, 1, 0] = .block 3 (g60C [1, 1, 1, 1, 0, 1, 0, 0, 1, 0, 0]) := by kernel_rfl
theorem g60nz338 : g60C [1, 1, 1, 1, 0, 1, 0, 0, 1, 0, 0] = .seq (g60C [1, 1, 1, 1, 0, 1, 0, 0, 1, 0, 0, 0]) (g60C [1, 1, 1, 1, 0, 1, 0, 0, 1, 0, 0, 1]) := by kernel_rfl
theorem g60nz66g : g60C [1, 1, 1, 1, 0, 1, 0, 0, 1, 0, 0, 0] = .seq (g60C [1, 1, 1, 1, 0, 1, 0, 0, 1, 0, 0, 0, 0]) (g60C [1, 1, 1, 1, 0, 1, 0, 0, 1, 0, 0, 0, 1]) := by kernel_rfl
theorem g60rgzccw : g60C [1, 1, 1, 1, 0, 1, 0, 0, 1, 0, 0, 0, 0] = .region 12 (rops (g60C [1, 1, 1, 1, 0, 1, 0, 0, 1, 0, 0, 0, 0])) false := by kernel_rfl
theorem g60rgzccwl : List.range (rops (g60C [1, 1, 1, 1, 0, 1, 0, 0, 1, 0, 0, 0, 0])).size = [0, 1, 2, 3, 4, 5, 6, 7, 8, 9] ++ [10, 11, 12, 13, 14, 15, 16, 17] := by kernel_rfl
theorem g60ez6y : g60X (g60C [1, 1, 1, 1, 0, 1, 0]) (g60k1) = fun env st => g60bz6y big (env 1) (env 4) (env 5) st := by
  have key : ∀ n, aloop (g60X (g60C [1, 1, 1, 1, 0, 1, 0, 0])) (g60k1) n = fun env st => g60bz6y n (env 1) (env 4) (env 5) st := by
    intro n
    induction n with
    | zero => rfl
    | succ n ih =>
      have h : aloop (g60X (g60C [1, 1, 1, 1, 0, 1, 0, 0])) (g60k1) (n + 1) = g60X (g60C [1, 1, 1, 1, 0, 1, 0, 0]) (kSeq (aloop (g60X (g60C [1, 1, 1, 1, 0, 1, 0, 0])) (g60k1) n) (g60k1)) := rfl
      rw [h, ih]
      refine Eq.trans (g60seq g60nzdw ((g60seq g60nzrt rfl).trans ((g60blk g60nz1jm).trans ((g60seq g60nz338 rfl).trans ((g60seq g60nz66g rfl).trans (g60reg g60rgzccw g60rgzccwl (g60ezccw_10 (g60bz6y n)))))))) ?_
      funext env st
      kernel_rfl
  exact (g60loop g60nz6y).trans (key big)
noncomputable def g60b111 (x1 : V) (st : St) : Res :=
 A.faddr 2 x1 fun a1 =>
 A.load false 1 a1 st fun a2 z3 =>
 A.lenL a2 fun a4 =>
 g60bz6y big x1 a4 (.int .i64 0) z3
theorem g60n111 : g60C [1, 1, 1] = .seq (g60C [1, 1, 1, 0]) (g60C [1, 1, 1, 1]) := by kernel_rfl
theorem g60n1111 : g60C [1, 1, 1, 1] = .seq (g60C [1, 1, 1, 1, 0]) (g60C [1, 1, 1, 1, 1]) := by kernel_rfl
theorem g60n11110 : g60C [1, 1, 1, 1, 0] = .seq (g60C [1, 1, 1, 1, 0, 0]) (g60C [1, 1, 1, 1, 0, 1]) := by kernel_rfl
theorem g60nz3h : g60C [1, 1, 1, 1, 0, 1] = .block 2 (g60C [1, 1, 1, 1, 0, 1, 0]) := by kernel_rfl
theorem g60e111 : g60X (g60C [1, 1, 1]) (g60kr) = fun env st => g60b111 (env 1) st := by
  refine Eq.trans (g60seq g60n111 ((g60seq g60n1111 rfl).trans (g60seq g60n11110 ((g60blk g60nz3h).trans (g60ez6y))))) ?_
  funext env st
  kernel_rfl
noncomputable def g60k7 : Kon := kSeq (fun env st => g60b111 (env 1) st) (g60kr)
noncomputable def g60k8 : Kon := kBlk 0 (g60k7)
noncomputable def g60b11010 : Nat → V → V → St → Res
| 0, _, _, _ => none
| n + 1, x1, x3, st =>
 A.faddr 1 x1 fun a1 =>
 A.load false 1 a1 st fun a2 z3 =>
 A.lenL a2 fun a4 =>
 A.bin .lss x3 a4 fun a5 =>
 A.cond a5
 (A.faddr 1 x1 fun a6 =>
 A.load false 1 a6 z3 fun a7 z8 =>
 A.iaddr 1 a7 x3 fun a9 =>
 A.load false 1 a9 z8 fun a10 z11 =>
 A.bin .lss a10 (.int .i64 0) fun a12 =>
 A.guard a12 false
 (A.faddr 1 x1 fun a13 =>
 A.load false 1 a13 z11 fun a14 z15 =>
 A.iaddr 1 a14 x3 fun a16 =>
 A.load false 1 a16 z15 fun a17 z18 =>
 A.bin .gtr a17 (.int .i64 4611686018427387903) fun a19 =>
 A.cond a19
 (some (.ret ((.bool false) : V).er1, z18))
 (A.bin .add x3 (.int .i64 1) fun a20 =>
 (g60b11010 n) x1 a20 z18))
 (some (.ret ((.bool false) : V).er1, z11)))
 (g60b111 x1 z3)
theorem g60n11010 : g60C [1, 1, 0, 1, 0] = .loop (g60C [1, 1, 0, 1, 0, 0]) := by kernel_rfl
noncomputable def g60k9 (L11010 : V → V → St → Res) : Kon := kSeq (fun env st => L11010 (env 1) (env 3) st) (g60k8)
theorem g60e11010 : g60X (g60C [1, 1, 0, 1, 0]) (g60k8) = fun env st => g60b11010 big (env 1) (env 3) st := by
  have key : ∀ n, aloop (g60X (g60C [1, 1, 0, 1, 0, 0])) (g60k8) n = fun env st => g60b11010 n (env 1) (env 3) st := by
    intro n
    induction n with
    | zero => rfl
    | succ n ih =>
      have h : aloop (g60X (g60C [1, 1, 0, 1, 0, 0])) (g60k8) (n + 1) = g60X (g60C [1, 1, 0, 1, 0, 0]) (kSeq (aloop (g60X (g60C [1, 1, 0, 1, 0, 0])) (g60k8) n) (g60k8)) := rfl
      rw [h, ih]
      refine Eq.trans (Eq.refl _) ?_
      funext env st
      kernel_rfl
  exact (g60loop g60n11010).trans (key big)
noncomputable def g60b11 (x1 : V) (st : St) : Res :=
 g60b11010 big x1 (.int .i64 0) st
theorem g60n11 : g60C [1, 1] = .seq (g60C [1, 1, 0]) (g60C [1, 1, 1]) := by kernel_rfl
theorem g60n110 : g60C [1, 1, 0] = .seq (g60C [1, 1, 0, 0]) (g60C [1, 1, 0, 1]) := by kernel_rfl
theorem g60n1101 : g60C [1, 1, 0, 1] = .block 0 (g60C [1, 1, 0, 1, 0]) := by kernel_rfl
theorem g60e11 : g60X (g60C [1, 1]) (g60kr) = fun env st => g60b11 (env 1) st := by
  refine Eq.trans ((g60seq g60n11 (g60e111)).trans (g60seq g60n110 ((g60blk g60n1101).trans (g60e11010)))) ?_
  funext env st
  kernel_rfl
noncomputable def g60k10 : Kon := kSeq (fun env st => g60b11 (env 1) st) (g60kr)
noncomputable def g60k11 : Kon := kSeq (g60X (g60C [1, 0, 1]) (g60k10)) (g60k10)
noncomputable def g60b100_27 (x1 : V) (x32 : V) (st : St) : Res :=
 A.guard x32 false
 (A.faddr 2 x1 fun a1 =>
 A.load false 1 a1 st fun a2 z3 =>
 A.ret (s73 [a2.er1] z3) fun a4 z5 =>
 A.un .not a4 fun a6 =>
 A.cond a6
 (some (.ret ((.bool false) : V).er1, z5))
 (g60b11 x1 z5))
 (some (.ret ((.bool false) : V).er1, st))
theorem g60e100_27 : (fun env st => aops Try.prog g60mu g60T 95 (rops (g60C [1, 0, 0])) [27, 28, 29, 30, 31] env st ((g60k11) .normal)) = fun env st => g60b100_27 (env 1) (env 32) st := by
  refine Eq.trans (Eq.refl _) ?_
  funext env st
  kernel_rfl
noncomputable def g60b100_21 (x1 : V) (x26 : V) (st : St) : Res :=
 A.guard x26 false
 (A.faddr 3 x1 fun a1 =>
 A.load false 1 a1 st fun a2 z3 =>
 A.lenL a2 fun a4 =>
 A.bin .gtr a4 (.int .i64 4096) fun a5 =>
 g60b100_27 x1 a5 z3)
 (g60b100_27 x1 (.bool true) st)
theorem g60e100_21 : (fun env st => aops Try.prog g60mu g60T 95 (rops (g60C [1, 0, 0])) [21, 22, 23, 24, 25, 26, 27, 28, 29, 30, 31] env st ((g60k11) .normal)) = fun env st => g60b100_21 (env 1) (env 26) st := by
  refine Eq.trans (ops_cut (l1 := [21, 22, 23, 24, 25, 26]) (l2 := [27, 28, 29, 30, 31]) (g60e100_27)) ?_
  funext env st
  kernel_rfl
noncomputable def g60b100_15 (x1 : V) (x20 : V) (st : St) : Res :=
 A.guard x20 false
 (A.faddr 2 x1 fun a1 =>
 A.load false 1 a1 st fun a2 z3 =>
 A.lenL a2 fun a4 =>
 A.bin .gtr a4 (.int .i64 4096) fun a5 =>
 g60b100_21 x1 a5 z3)
 (g60b100_21 x1 (.bool true) st)
theorem g60e100_15 : (fun env st => aops Try.prog g60mu g60T 95 (rops (g60C [1, 0, 0])) [15, 16, 17, 18, 19, 20, 21, 22, 23, 24, 25, 26, 27, 28, 29, 30, 31] env st ((g60k11) .normal)) = fun env st => g60b100_15 (env 1) (env 20) st := by
  refine Eq.trans (ops_cut (l1 := [15, 16, 17, 18, 19, 20]) (l2 := [21, 22, 23, 24, 25, 26, 27, 28, 29, 30, 31]) (g60e100_21)) ?_
  funext env st
  kernel_rfl
noncomputable def g60b100_9 (x1 : V) (x14 : V) (st : St) : Res :=
 A.guard x14 false
 (A.faddr 1 x1 fun a1 =>
 A.load false 1 a1 st fun a2 z3 =>
 A.lenL a2 fun a4 =>
 A.bin .gtr a4 (.int .i64 64) fun a5 =>
 g60b100_15 x1 a5 z3)
 (g60b100_15 x1 (.bool true) st)
theorem g60e100_9 : (fun env st => aops Try.prog g60mu g60T 95 (rops (g60C [1, 0, 0])) [9, 10, 11, 12, 13, 14, 15, 16, 17, 18, 19, 20, 21, 22, 23, 24, 25, 26, 27, 28, 29, 30, 31] env st ((g60k11) .normal)) = fun env st => g60b100_9 (env 1) (env 14) st := by
  refine Eq.trans (ops_cut (l1 := [9, 10, 11, 12, 13, 14]) (l2 := [15, 16, 17, 18, 19, 20, 21, 22, 23, 24, 25, 26, 27, 28, 29, 30, 31]) (g60e100_15)) ?_
  funext env st
  kernel_rfl
noncomputable def f60 (x0 : V) (st : St) : Res :=
 A.box x0 st fun a1 z2 =>
 A.faddr 0 a1 fun a3 =>
 A.load false 1 a3 z2 fun a4 z5 =>
 A.bin .lss a4 (.int .i64 1) fun a6 =>
 A.guard a6 false
 (A.faddr 0 a1 fun a7 =>
 A.load false 1 a7 z5 fun a8 z9 =>
 A.bin .gtr a8 (.int .i64 255) fun a10 =>
 g60b100_9 a1 a10 z9)
 (g60b100_9 a1 (.bool true) z5)
theorem g60nr : g60C [] = .seq (g60C [0]) (g60C [1]) := by kernel_rfl
theorem g60n1 : g60C [1] = .seq (g60C [1, 0]) (g60C [1, 1]) := by kernel_rfl
theorem g60n10 : g60C [1, 0] = .seq (g60C [1, 0, 0]) (g60C [1, 0, 1]) := by kernel_rfl
theorem g60rg100 : g60C [1, 0, 0] = .region 1 (rops (g60C [1, 0, 0])) false := by kernel_rfl
theorem g60rg100l : List.range (rops (g60C [1, 0, 0])).size = [0, 1, 2, 3, 4, 5, 6, 7, 8] ++ [9, 10, 11, 12, 13, 14, 15, 16, 17, 18, 19, 20, 21, 22, 23, 24, 25, 26, 27, 28, 29, 30, 31] := by kernel_rfl
theorem g60er (env : Env) (st : St) : g60X (g60C []) g60kr env st = f60 (env 0) st := by
  rw [(g60seq g60nr ((g60seq g60n1 (g60e11)).trans ((g60seq g60n10 rfl).trans (g60reg g60rg100 g60rg100l (g60e100_9)))))]
  kernel_rfl
theorem s60_eq (x0 : V) (st : St) : s60 [x0] st = fg (f60 x0 st) st := by
  have h : afn Try.prog g60mu g60T big (areg Try.prog g60mu g60T) 60 [x0] st = g60X (g60C []) g60kr (fun t => [x0].getD t (.tup [])) st := by kernel_rfl
  rw [s60, sealF_eq]
  show fg _ st = fg _ st
  refine congrArg (fun r => fg r st) ?_
  exact h.trans (g60er _ st)
/-! sinew/sinewref03.size -/
def g61mu : Nat → Bool := fun _ => false
noncomputable def g61T : Tbl := tget []
theorem g61t : SimT Try.prog g61T := simT_nil
noncomputable def s61 : Fn := sealF (afn Try.prog g61mu g61T big (areg Try.prog g61mu g61T) 61)
theorem sim61 : Sim Try.prog 61 s61 := (afn_sim g61t (fun m => areg_sound g61t hmix m) 61 (by kernel_rfl)).sealed
noncomputable def g61C (p : List Nat) : Code := sub (match Try.f61.body with | some c => c | none => .skip) p
noncomputable def g61X (c : Code) (K : Kon) : Env → St → Res := aexec Try.prog g61mu g61T big 19 (areg Try.prog g61mu g61T 19) c K
noncomputable def g61kr : Kon := aresK Try.prog Try.f61.results.toList
theorem g61reg {c : Code} {K : Kon} {G : Env → St → Res} {id : Nat} {ops : Array Oper} {l1 l2 : List Nat} (hc : c = .region id ops false) (hl : List.range ops.size = l1 ++ l2) (h : (fun env st => aops Try.prog g61mu g61T 19 ops l2 env st (K .normal)) = G) : g61X c K = fun env st => aops Try.prog g61mu g61T 19 ops l1 env st G := reg_cut hc hl h
theorem g61seq {c x y : Code} {K : Kon} {G : Env → St → Res} (hc : c = .seq x y) (hy : g61X y K = G) : g61X c K = g61X x (kSeq G K) := seq_cut hc hy
theorem g61blk {c x : Code} {K : Kon} {i : Nat} (hc : c = .block i x) : g61X c K = g61X x (kBlk i K) := blk_cut hc
theorem g61loop {c x : Code} {K : Kon} (hc : c = .loop x) : g61X c K = aloop (g61X x) K big := loop_cut hc
theorem g61cond {c x y : Code} {K : Kon} {v : Operand} {F G : Env → St → Res} (hc : c = .cond v x y) (hx : g61X x K = F) (hy : g61X y K = G) : g61X c K = condF v F G := cond_cut hc hx hy
noncomputable def g61k0 : Kon := kSeq (g61X (g61C [1, 1, 1]) (g61kr)) (g61kr)
noncomputable def g61k1 : Kon := kBlk 0 (g61k0)
noncomputable def g61b11010 : Nat → V → V → V → St → Res
| 0, _, _, _, _ => none
| n + 1, x0, x3, x4, st =>
 A.lenL x0 fun a1 =>
 A.bin .lss x4 a1 fun a2 =>
 A.cond a2
 (A.iaddr 1 x0 x4 fun a3 =>
 A.load false 1 a3 st fun a4 z5 =>
 A.lenS a4 fun a6 =>
 A.bin .add x3 a6 fun a7 =>
 A.bin .add x4 (.int .i64 1) fun a8 =>
 (g61b11010 n) x0 a7 a8 z5)
 (some (.ret x3.er1, st))
theorem g61n11010 : g61C [1, 1, 0, 1, 0] = .loop (g61C [1, 1, 0, 1, 0, 0]) := by kernel_rfl
noncomputable def g61k2 (L11010 : V → V → V → St → Res) : Kon := kSeq (fun env st => L11010 (env 0) (env 3) (env 4) st) (g61k1)
theorem g61e11010 : g61X (g61C [1, 1, 0, 1, 0]) (g61k1) = fun env st => g61b11010 big (env 0) (env 3) (env 4) st := by
  have key : ∀ n, aloop (g61X (g61C [1, 1, 0, 1, 0, 0])) (g61k1) n = fun env st => g61b11010 n (env 0) (env 3) (env 4) st := by
    intro n
    induction n with
    | zero => rfl
    | succ n ih =>
      have h : aloop (g61X (g61C [1, 1, 0, 1, 0, 0])) (g61k1) (n + 1) = g61X (g61C [1, 1, 0, 1, 0, 0]) (kSeq (aloop (g61X (g61C [1, 1, 0, 1, 0, 0])) (g61k1) n) (g61k1)) := rfl
      rw [h, ih]
      refine Eq.trans (Eq.refl _) ?_
      funext env st
      kernel_rfl
  exact (g61loop g61n11010).trans (key big)
noncomputable def f61 (x0 : V) (st : St) : Res :=
 g61b11010 big x0 (.int .i64 0) (.int .i64 0) st
theorem g61nr : g61C [] = .seq (g61C [0]) (g61C [1]) := by kernel_rfl
theorem g61n1 : g61C [1] = .seq (g61C [1, 0]) (g61C [1, 1]) := by kernel_rfl
theorem g61n11 : g61C [1, 1] = .seq (g61C [1, 1, 0]) (g61C [1, 1, 1]) := by kernel_rfl
theorem g61n110 : g61C [1, 1, 0] = .seq (g61C [1, 1, 0, 0]) (g61C [1, 1, 0, 1]) := by kernel_rfl
theorem g61n1101 : g61C [1, 1, 0, 1] = .block 0 (g61C [1, 1, 0, 1, 0]) := by kernel_rfl
theorem g61er (env : Env) (st : St) : g61X (g61C []) g61kr env st = f61 (env 0) st := by
  rw [(g61seq g61nr (g61seq g61n1 ((g61seq g61n11 rfl).trans (g61seq g61n110 ((g61blk g61n1101).trans (g61e11010))))))]
  kernel_rfl
theorem s61_eq (x0 : V) (st : St) : s61 [x0] st = f61 x0 st := by
  have h : afn Try.prog g61mu g61T big (areg Try.prog g61mu g61T) 61 [x0] st = g61X (g61C []) g61kr (fun t => [x0].getD t (.tup [])) st := by kernel_rfl
  rw [s61, sealF_eq]
  exact h.trans (g61er _ st)
/-! sinew/sinewref01.PutNum -/
def g62mu : Nat → Bool := fun _ => false
noncomputable def g62T : Tbl := tget []
theorem g62t : SimT Try.prog g62T := simT_nil
noncomputable def s62 : Fn := sealF (fun args st => fg (afn Try.prog g62mu g62T big (areg Try.prog g62mu g62T) 62 args st) st)
theorem sim62 : Sim Try.prog 62 s62 := (afn_sim g62t (fun m => areg_sound g62t hmix m) 62 (by kernel_rfl)).fg.sealed
noncomputable def g62C (p : List Nat) : Code := sub (match Try.f62.body with | some c => c | none => .skip) p
noncomputable def g62X (c : Code) (K : Kon) : Env → St → Res := aexec Try.prog g62mu g62T big 41 (areg Try.prog g62mu g62T 41) c K
noncomputable def g62kr : Kon := aresK Try.prog Try.f62.results.toList
theorem g62reg {c : Code} {K : Kon} {G : Env → St → Res} {id : Nat} {ops : Array Oper} {l1 l2 : List Nat} (hc : c = .region id ops false) (hl : List.range ops.size = l1 ++ l2) (h : (fun env st => aops Try.prog g62mu g62T 41 ops l2 env st (K .normal)) = G) : g62X c K = fun env st => aops Try.prog g62mu g62T 41 ops l1 env st G := reg_cut hc hl h
theorem g62seq {c x y : Code} {K : Kon} {G : Env → St → Res} (hc : c = .seq x y) (hy : g62X y K = G) : g62X c K = g62X x (kSeq G K) := seq_cut hc hy
theorem g62blk {c x : Code} {K : Kon} {i : Nat} (hc : c = .block i x) : g62X c K = g62X x (kBlk i K) := blk_cut hc
theorem g62loop {c x : Code} {K : Kon} (hc : c = .loop x) : g62X c K = aloop (g62X x) K big := loop_cut hc
theorem g62cond {c x y : Code} {K : Kon} {v : Operand} {F G : Env → St → Res} (hc : c = .cond v x y) (hx : g62X x K = F) (hy : g62X y K = G) : g62X c K = condF v F G := cond_cut hc hx hy
noncomputable def g62k0 : Kon := kSeq (g62X (g62C [1, 1, 1, 1, 1, 1, 1]) (g62kr)) (g62kr)
noncomputable def g62k1 : Kon := kBlk 2 (g62k0)
noncomputable def g62bzsa : Nat → V → V → V → St → Res
| 0, _, _, _, _ => none
| n + 1, x4, x5, x6, st =>
 A.bin .geq x6 (.int .i64 0) fun a1 =>
 A.cond a1
 (A.iaddr 1 x4 x6 fun a2 =>
 A.load false 1 a2 st fun a3 z4 =>
 A.bslice 1 (.int .u8 0) 1 [(0, a3)] fun a5 =>
 A.appB 1 x5 (elemsOf 5 1 a5 z4) z4 fun a6 z7 =>
 A.bin .sub x6 (.int .i64 1) fun a8 =>
 (g62bzsa n) x4 a6 a8 z7)
 (A.toStr x5 st fun a9 =>
 some (.ret (.tup [a9.er1, ((.int .i64 0) : V).er1]), st))
theorem g62nzsa : g62C [1, 1, 1, 1, 1, 1, 0, 1, 0] = .loop (g62C [1, 1, 1, 1, 1, 1, 0, 1, 0, 0]) := by kernel_rfl
noncomputable def g62k2 (Lzsa : V → V → V → St → Res) : Kon := kSeq (fun env st => Lzsa (env 4) (env 5) (env 6) st) (g62k1)
theorem g62ezsa : g62X (g62C [1, 1, 1, 1, 1, 1, 0, 1, 0]) (g62k1) = fun env st => g62bzsa big (env 4) (env 5) (env 6) st := by
  have key : ∀ n, aloop (g62X (g62C [1, 1, 1, 1, 1, 1, 0, 1, 0, 0])) (g62k1) n = fun env st => g62bzsa n (env 4) (env 5) (env 6) st := by
    intro n
    induction n with
    | zero => rfl
    | succ n ih =>
      have h : aloop (g62X (g62C [1, 1, 1, 1, 1, 1, 0, 1, 0, 0])) (g62k1) (n + 1) = g62X (g62C [1, 1, 1, 1, 1, 1, 0, 1, 0, 0]) (kSeq (aloop (g62X (g62C [1, 1, 1, 1, 1, 1, 0, 1, 0, 0])) (g62k1) n) (g62k1)) := rfl
      rw [h, ih]
      refine Eq.trans (Eq.refl _) ?_
      funext env st
      kernel_rfl
  exact (g62loop g62nzsa).trans (key big)
noncomputable def g62bze5 (x4 : V) (x5 : V) (x6 : V) (st : St) : Res :=
 g62bzsa big x4 x5 x6 st
theorem g62nze5 : g62C [1, 1, 1, 1, 1, 1, 0, 1] = .block 2 (g62C [1, 1, 1, 1, 1, 1, 0, 1, 0]) := by kernel_rfl
theorem g62eze5 : g62X (g62C [1, 1, 1, 1, 1, 1, 0, 1]) (g62k0) = fun env st => g62bze5 (env 4) (env 5) (env 6) st := by
  refine Eq.trans ((g62blk g62nze5).trans (g62ezsa)) ?_
  funext env st
  kernel_rfl
noncomputable def g62b1111 (x4 : V) (st : St) : Res :=
 A.lenL x4 fun a1 =>
 A.toInt .u8 a1 fun a2 =>
 A.bslice 1 (.int .u8 0) 1 [(0, a2)] fun a3 =>
 A.appB 1 (.lst [] 1) (elemsOf 5 1 a3 st) st fun a4 z5 =>
 A.lenL x4 fun a6 =>
 A.bin .sub a6 (.int .i64 1) fun a7 =>
 g62bze5 x4 a4 a7 z5
theorem g62n1111 : g62C [1, 1, 1, 1] = .seq (g62C [1, 1, 1, 1, 0]) (g62C [1, 1, 1, 1, 1]) := by kernel_rfl
theorem g62n11111 : g62C [1, 1, 1, 1, 1] = .seq (g62C [1, 1, 1, 1, 1, 0]) (g62C [1, 1, 1, 1, 1, 1]) := by kernel_rfl
theorem g62nz3j : g62C [1, 1, 1, 1, 1, 1] = .seq (g62C [1, 1, 1, 1, 1, 1, 0]) (g62C [1, 1, 1, 1, 1, 1, 1]) := by kernel_rfl
theorem g62nz72 : g62C [1, 1, 1, 1, 1, 1, 0] = .seq (g62C [1, 1, 1, 1, 1, 1, 0, 0]) (g62C [1, 1, 1, 1, 1, 1, 0, 1]) := by kernel_rfl
theorem g62e1111 : g62X (g62C [1, 1, 1, 1]) (g62kr) = fun env st => g62b1111 (env 4) st := by
  refine Eq.trans (g62seq g62n1111 (g62seq g62n11111 ((g62seq g62nz3j rfl).trans (g62seq g62nz72 (g62eze5))))) ?_
  funext env st
  kernel_rfl
noncomputable def g62k3 : Kon := kSeq (fun env st => g62b1111 (env 4) st) (g62kr)
noncomputable def g62k4 : Kon := kBlk 0 (g62k3)
noncomputable def g62b11100 : Nat → V → V → St → Res
| 0, _, _, _ => none
| n + 1, x0, x4, st =>
 A.bin .gtr x0 (.int .i64 0) fun a1 =>
 A.cond a1
 (A.bin .rem x0 (.int .i64 256) fun a2 =>
 A.toInt .u8 a2 fun a3 =>
 A.bslice 1 (.int .u8 0) 1 [(0, a3)] fun a4 =>
 A.appB 1 x4 (elemsOf 5 1 a4 st) st fun a5 z6 =>
 A.bin .quo x0 (.int .i64 256) fun a7 =>
 (g62b11100 n) a7 a5 z6)
 (g62b1111 x4 st)
theorem g62n11100 : g62C [1, 1, 1, 0, 0] = .loop (g62C [1, 1, 1, 0, 0, 0]) := by kernel_rfl
noncomputable def g62k5 (L11100 : V → V → St → Res) : Kon := kSeq (fun env st => L11100 (env 0) (env 4) st) (g62k4)
theorem g62e11100 : g62X (g62C [1, 1, 1, 0, 0]) (g62k4) = fun env st => g62b11100 big (env 0) (env 4) st := by
  have key : ∀ n, aloop (g62X (g62C [1, 1, 1, 0, 0, 0])) (g62k4) n = fun env st => g62b11100 n (env 0) (env 4) st := by
    intro n
    induction n with
    | zero => rfl
    | succ n ih =>
      have h : aloop (g62X (g62C [1, 1, 1, 0, 0, 0])) (g62k4) (n + 1) = g62X (g62C [1, 1, 1, 0, 0, 0]) (kSeq (aloop (g62X (g62C [1, 1, 1, 0, 0, 0])) (g62k4) n) (g62k4)) := rfl
      rw [h, ih]
      refine Eq.trans (Eq.refl _) ?_
      funext env st
      kernel_rfl
  exact (g62loop g62n11100).trans (key big)
noncomputable def f62 (x0 : V) (st : St) : Res :=
 A.bin .lss x0 (.int .i64 0) fun a1 =>
 A.cond a1
 (some (.ret (.tup [((.str []) : V).er1, ((.int .i64 1) : V).er1]), st))
 (g62b11100 big x0 (.lst [] 1) st)
theorem g62nr : g62C [] = .seq (g62C [0]) (g62C [1]) := by kernel_rfl
theorem g62n1 : g62C [1] = .seq (g62C [1, 0]) (g62C [1, 1]) := by kernel_rfl
theorem g62n11 : g62C [1, 1] = .seq (g62C [1, 1, 0]) (g62C [1, 1, 1]) := by kernel_rfl
theorem g62n111 : g62C [1, 1, 1] = .seq (g62C [1, 1, 1, 0]) (g62C [1, 1, 1, 1]) := by kernel_rfl
theorem g62n1110 : g62C [1, 1, 1, 0] = .block 0 (g62C [1, 1, 1, 0, 0]) := by kernel_rfl
theorem g62er (env : Env) (st : St) : g62X (g62C []) g62kr env st = f62 (env 0) st := by
  rw [(g62seq g62nr (g62seq g62n1 (g62seq g62n11 ((g62seq g62n111 (g62e1111)).trans ((g62blk g62n1110).trans (g62e11100))))))]
  kernel_rfl
theorem s62_eq (x0 : V) (st : St) : s62 [x0] st = fg (f62 x0 st) st := by
  have h : afn Try.prog g62mu g62T big (areg Try.prog g62mu g62T) 62 [x0] st = g62X (g62C []) g62kr (fun t => [x0].getD t (.tup [])) st := by kernel_rfl
  rw [s62, sealF_eq]
  show fg _ st = fg _ st
  refine congrArg (fun r => fg r st) ?_
  exact h.trans (g62er _ st)
/-! sinew/sinewref01.PutStr -/
def g74mu : Nat → Bool := fun _ => false
noncomputable def g74T : Tbl := tget [(62, s62)]
theorem g74t : SimT Try.prog g74T := simT_cons sim62 (simT_nil)
noncomputable def s74 : Fn := sealF (afn Try.prog g74mu g74T big (areg Try.prog g74mu g74T) 74)
theorem sim74 : Sim Try.prog 74 s74 := (afn_sim g74t (fun m => areg_sound g74t hmix m) 74 (by kernel_rfl)).sealed
noncomputable def g74C (p : List Nat) : Code := sub (match Try.f74.body with | some c => c | none => .skip) p
noncomputable def g74X (c : Code) (K : Kon) : Env → St → Res := aexec Try.prog g74mu g74T big 18 (areg Try.prog g74mu g74T 18) c K
noncomputable def g74kr : Kon := aresK Try.prog Try.f74.results.toList
theorem g74reg {c : Code} {K : Kon} {G : Env → St → Res} {id : Nat} {ops : Array Oper} {l1 l2 : List Nat} (hc : c = .region id ops false) (hl : List.range ops.size = l1 ++ l2) (h : (fun env st => aops Try.prog g74mu g74T 18 ops l2 env st (K .normal)) = G) : g74X c K = fun env st => aops Try.prog g74mu g74T 18 ops l1 env st G := reg_cut hc hl h
theorem g74seq {c x y : Code} {K : Kon} {G : Env → St → Res} (hc : c = .seq x y) (hy : g74X y K = G) : g74X c K = g74X x (kSeq G K) := seq_cut hc hy
theorem g74blk {c x : Code} {K : Kon} {i : Nat} (hc : c = .block i x) : g74X c K = g74X x (kBlk i K) := blk_cut hc
theorem g74loop {c x : Code} {K : Kon} (hc : c = .loop x) : g74X c K = aloop (g74X x) K big := loop_cut hc
theorem g74cond {c x y : Code} {K : Kon} {v : Operand} {F G : Env → St → Res} (hc : c = .cond v x y) (hx : g74X x K = F) (hy : g74X y K = G) : g74X c K = condF v F G := cond_cut hc hx hy
noncomputable def g74b111 (x0 : V) (x4 : V) (st : St) : Res :=
 A.bin .add x4 x0 fun a1 =>
 some (.ret (.tup [a1.er1, ((.int .i64 0) : V).er1]), st)
theorem g74e111 : g74X (g74C [1, 1, 1]) (g74kr) = fun env st => g74b111 (env 0) (env 4) st := by
  refine Eq.trans (Eq.refl (g74X (g74C [1, 1, 1]) (g74kr))) ?_
  funext env st
  kernel_rfl
noncomputable def f74 (x0 : V) (st : St) : Res :=
 A.lenS x0 fun a1 =>
 A.bin .gtr a1 (.int .i64 65536) fun a2 =>
 A.cond a2
 (some (.ret (.tup [((.str []) : V).er1, ((.int .i64 12) : V).er1]), st))
 (A.lenS x0 fun a3 =>
 A.ret (s62 [a3.er1] st) fun a4 z5 =>
 A.ext a4 0 fun a6 =>
 A.ext a4 1 fun a7 =>
 g74b111 x0 a6 z5)
theorem g74nr : g74C [] = .seq (g74C [0]) (g74C [1]) := by kernel_rfl
theorem g74n1 : g74C [1] = .seq (g74C [1, 0]) (g74C [1, 1]) := by kernel_rfl
theorem g74n11 : g74C [1, 1] = .seq (g74C [1, 1, 0]) (g74C [1, 1, 1]) := by kernel_rfl
theorem g74er (env : Env) (st : St) : g74X (g74C []) g74kr env st = f74 (env 0) st := by
  rw [(g74seq g74nr (g74seq g74n1 (g74seq g74n11 (g74e111))))]
  kernel_rfl
theorem s74_eq (x0 : V) (st : St) : s74 [x0] st = f74 x0 st := by
  have h : afn Try.prog g74mu g74T big (areg Try.prog g74mu g74T) 74 [x0] st = g74X (g74C []) g74kr (fun t => [x0].getD t (.tup [])) st := by kernel_rfl
  rw [s74, sealF_eq]
  exact h.trans (g74er _ st)
/-! sinew/sinewref01.PutList -/
def g63mu : Nat → Bool := fun _ => false
noncomputable def g63T : Tbl := tget [(62, s62), (74, s74)]
theorem g63t : SimT Try.prog g63T := simT_cons sim62 ( simT_cons sim74 (simT_nil))
noncomputable def s63 : Fn := sealF (fun args st => fg (afn Try.prog g63mu g63T big (areg Try.prog g63mu g63T) 63 args st) st)
theorem sim63 : Sim Try.prog 63 s63 := (afn_sim g63t (fun m => areg_sound g63t hmix m) 63 (by kernel_rfl)).fg.sealed
noncomputable def g63C (p : List Nat) : Code := sub (match Try.f63.body with | some c => c | none => .skip) p
noncomputable def g63X (c : Code) (K : Kon) : Env → St → Res := aexec Try.prog g63mu g63T big 43 (areg Try.prog g63mu g63T 43) c K
noncomputable def g63kr : Kon := aresK Try.prog Try.f63.results.toList
theorem g63reg {c : Code} {K : Kon} {G : Env → St → Res} {id : Nat} {ops : Array Oper} {l1 l2 : List Nat} (hc : c = .region id ops false) (hl : List.range ops.size = l1 ++ l2) (h : (fun env st => aops Try.prog g63mu g63T 43 ops l2 env st (K .normal)) = G) : g63X c K = fun env st => aops Try.prog g63mu g63T 43 ops l1 env st G := reg_cut hc hl h
theorem g63seq {c x y : Code} {K : Kon} {G : Env → St → Res} (hc : c = .seq x y) (hy : g63X y K = G) : g63X c K = g63X x (kSeq G K) := seq_cut hc hy
theorem g63blk {c x : Code} {K : Kon} {i : Nat} (hc : c = .block i x) : g63X c K = g63X x (kBlk i K) := blk_cut hc
theorem g63loop {c x : Code} {K : Kon} (hc : c = .loop x) : g63X c K = aloop (g63X x) K big := loop_cut hc
theorem g63cond {c x y : Code} {K : Kon} {v : Operand} {F G : Env → St → Res} (hc : c = .cond v x y) (hx : g63X x K = F) (hy : g63X y K = G) : g63X c K = condF v F G := cond_cut hc hx hy
noncomputable def g63k0 : Kon := kSeq (g63X (g63C [1, 1, 1, 1, 1]) (g63kr)) (g63kr)
noncomputable def g63k1 : Kon := kBlk 0 (g63k0)
noncomputable def g63k2 (Lz6y : V → V → V → St → Res) : Kon := kSeq (fun env st => Lz6y (env 0) (env 6) (env 7) st) (g63k1)
noncomputable def g63k3 (Lz6y : V → V → V → St → Res) : Kon := kSeq (g63X (g63C [1, 1, 1, 1, 0, 1, 0, 0, 1, 1]) (g63k2 Lz6y)) (g63k2 Lz6y)
noncomputable def g63k4 (Lz6y : V → V → V → St → Res) : Kon := kBlk 1 (g63k3 Lz6y)
noncomputable def g63bz66h (Lz6y : V → V → V → St → Res) (x0 : V) (x6 : V) (x7 : V) (x8 : V) (x9 : V) (st : St) : Res :=
 A.eql 2 true x9 (.int .i64 0) fun a1 =>
 A.cond a1
 (some (.ret (.tup [((.str []) : V).er1, x9.er1]), st))
 (A.appB 1 x6 (elemsOf 3 1 x8 st) st fun a2 z3 =>
 A.bin .add x7 (.int .i64 1) fun a4 =>
 Lz6y x0 a2 a4 z3)
theorem g63ez66h (Lz6y : V → V → V → St → Res) : g63X (g63C [1, 1, 1, 1, 0, 1, 0, 0, 1, 0, 0, 1]) (g63k4 Lz6y) = fun env st => g63bz66h Lz6y (env 0) (env 6) (env 7) (env 8) (env 9) st := by
  refine Eq.trans (Eq.refl (g63X (g63C [1, 1, 1, 1, 0, 1, 0, 0, 1, 0, 0, 1]) (g63k4 Lz6y))) ?_
  funext env st
  kernel_rfl
noncomputable def g63bz6y : Nat → V → V → V → St → Res
| 0, _, _, _, _ => none
| n + 1, x0, x6, x7, st =>
 A.lenL x0 fun a1 =>
 A.bin .lss x7 a1 fun a2 =>
 A.cond a2
 (A.iaddr 1 x0 x7 fun a3 =>
 A.load false 1 a3 st fun a4 z5 =>
 A.ret (s74 [a4.er1] z5) fun a6 z7 =>
 A.ext a6 0 fun a8 =>
 A.ext a6 1 fun a9 =>
 g63bz66h (g63bz6y n) x0 x6 x7 a8 a9 z7)
 (A.toStr x6 st fun a10 =>
 some (.ret (.tup [a10.er1, ((.int .i64 0) : V).er1]), st))
theorem g63nz6y : g63C [1, 1, 1, 1, 0, 1, 0] = .loop (g63C [1, 1, 1, 1, 0, 1, 0, 0]) := by kernel_rfl
theorem g63nzdw : g63C [1, 1, 1, 1, 0, 1, 0, 0] = .seq (g63C [1, 1, 1, 1, 0, 1, 0, 0, 0]) (g63C [1, 1, 1, 1, 0, 1, 0, 0, 1]) := by kernel_rfl
theorem g63nzrt : g63C [1, 1, 1, 1, 0, 1, 0, 0, 1] = .seq (g63C [1, 1, 1, 1, 0, 1, 0, 0, 1, 0]) (g63C [1, 1, 1, 1, 0, 1, 0, 0, 1, 1]) := by kernel_rfl
theorem g63nz1jm : g63C [1, 1, 1, 1, 0, 1, 0, 0, 1, 0] = .block 1 (g63C [1, 1, 1, 1, 0, 1, 0, 0, 1, 0, 0]) := by kernel_rfl
theorem g63nz338 : g63C [1, 1, 1, 1, 0, 1, 0, 0, 1, 0, 0] = .seq (g63C [1, 1, 1, 1, 0, 1, 0, 0, 1, 0, 0, 0]) (g63C [1, 1, 1, 1, 0, 1, 0, 0, 1, 0, 0, 1]) := by kernel_rfl
theorem g63ez6y : g63X (g63C [1, 1, 1, 1, 0, 1, 0]) (g63k1) = fun env st => g63bz6y big (env 0) (env 6) (env 7) st := by
  have key : ∀ n, aloop (g63X (g63C [1, 1, 1, 1, 0, 1, 0, 0])) (g63k1) n = fun env st => g63bz6y n (env 0) (env 6) (env 7) st := by
    intro n
    induction n with
    | zero => rfl
    | succ n ih =>
      have h : aloop (g63X (g63C [1, 1, 1, 1, 0, 1, 0, 0])) (g63k1) (n + 1) = g63X (g63C [1, 1, 1, 1, 0, 1, 0, 0]) (kSeq (aloop (g63X (g63C [1, 1, 1, 1, 0, 1, 0, 0])) (g63k1) n) (g63k1)) := rfl
      rw [h, ih]
      refine Eq.trans (g63seq g63nzdw ((g63seq g63nzrt rfl).trans ((g63blk g63nz1jm).trans (g63seq g63nz338 (g63ez66h (g63bz6y n)))))) ?_
      funext env st
      kernel_rfl
  exact (g63loop g63nz6y).trans (key big)
noncomputable def g63b111 (x0 : V) (x4 : V) (st : St) : Res :=
 A.toBytes x4 st fun a1 z2 =>
 g63bz6y big x0 a1 (.int .i64 0) z2
theorem g63n111 : g63C [1, 1, 1] = .seq (g63C [1, 1, 1, 0]) (g63C [1, 1, 1, 1]) := by kernel_rfl
theorem g63n1111 : g63C [1, 1, 1, 1] = .seq (g63C [1, 1, 1, 1, 0]) (g63C [1, 1, 1, 1, 1]) := by kernel_rfl
theorem g63n11110 : g63C [1, 1, 1, 1, 0] = .seq (g63C [1, 1, 1, 1, 0, 0]) (g63C [1, 1, 1, 1, 0, 1]) := by kernel_rfl
theorem g63nz3h : g63C [1, 1, 1, 1, 0, 1] = .block 0 (g63C [1, 1, 1, 1, 0, 1, 0]) := by kernel_rfl
theorem g63e111 : g63X (g63C [1, 1, 1]) (g63kr) = fun env st => g63b111 (env 0) (env 4) st := by
  refine Eq.trans (g63seq g63n111 ((g63seq g63n1111 rfl).trans (g63seq g63n11110 ((g63blk g63nz3h).trans (g63ez6y))))) ?_
  funext env st
  kernel_rfl
noncomputable def f63 (x0 : V) (st : St) : Res :=
 A.lenL x0 fun a1 =>
 A.bin .gtr a1 (.int .i64 4096) fun a2 =>
 A.cond a2
 (some (.ret (.tup [((.str []) : V).er1, ((.int .i64 12) : V).er1]), st))
 (A.lenL x0 fun a3 =>
 A.ret (s62 [a3.er1] st) fun a4 z5 =>
 A.ext a4 0 fun a6 =>
 A.ext a4 1 fun a7 =>
 g63b111 x0 a6 z5)
theorem g63nr : g63C [] = .seq (g63C [0]) (g63C [1]) := by kernel_rfl
theorem g63n1 : g63C [1] = .seq (g63C [1, 0]) (g63C [1, 1]) := by kernel_rfl
theorem g63n11 : g63C [1, 1] = .seq (g63C [1, 1, 0]) (g63C [1, 1, 1]) := by kernel_rfl
theorem g63er (env : Env) (st : St) : g63X (g63C []) g63kr env st = f63 (env 0) st := by
  rw [(g63seq g63nr (g63seq g63n1 (g63seq g63n11 (g63e111))))]
  kernel_rfl
theorem s63_eq (x0 : V) (st : St) : s63 [x0] st = fg (f63 x0 st) st := by
  have h : afn Try.prog g63mu g63T big (areg Try.prog g63mu g63T) 63 [x0] st = g63X (g63C []) g63kr (fun t => [x0].getD t (.tup [])) st := by kernel_rfl
  rw [s63, sealF_eq]
  show fg _ st = fg _ st
  refine congrArg (fun r => fg r st) ?_
  exact h.trans (g63er _ st)
/-! sinew/sinewref03.body -/
def g45mu : Nat → Bool := fun _ => false
noncomputable def g45T : Tbl := tget [(60, s60), (61, s61), (62, s62), (63, s63)]
theorem g45t : SimT Try.prog g45T := simT_cons sim60 ( simT_cons sim61 ( simT_cons sim62 ( simT_cons sim63 (simT_nil))))
noncomputable def s45 : Fn := sealF (fun args st => fg (afn Try.prog g45mu g45T big (areg Try.prog g45mu g45T) 45 args st) st)
theorem sim45 : Sim Try.prog 45 s45 := (afn_sim g45t (fun m => areg_sound g45t hmix m) 45 (by kernel_rfl)).fg.sealed
noncomputable def g45C (p : List Nat) : Code := sub (match Try.f45.body with | some c => c | none => .skip) p
noncomputable def g45X (c : Code) (K : Kon) : Env → St → Res := aexec Try.prog g45mu g45T big 111 (areg Try.prog g45mu g45T 111) c K
noncomputable def g45kr : Kon := aresK Try.prog Try.f45.results.toList
theorem g45reg {c : Code} {K : Kon} {G : Env → St → Res} {id : Nat} {ops : Array Oper} {l1 l2 : List Nat} (hc : c = .region id ops false) (hl : List.range ops.size = l1 ++ l2) (h : (fun env st => aops Try.prog g45mu g45T 111 ops l2 env st (K .normal)) = G) : g45X c K = fun env st => aops Try.prog g45mu g45T 111 ops l1 env st G := reg_cut hc hl h
theorem g45seq {c x y : Code} {K : Kon} {G : Env → St → Res} (hc : c = .seq x y) (hy : g45X y K = G) : g45X c K = g45X x (kSeq G K) := seq_cut hc hy
theorem g45blk {c x : Code} {K : Kon} {i : Nat} (hc : c = .block i x) : g45X c K = g45X x (kBlk i K) := blk_cut hc
theorem g45loop {c x : Code} {K : Kon} (hc : c = .loop x) : g45X c K = aloop (g45X x) K big := loop_cut hc
theorem g45cond {c x y : Code} {K : Kon} {v : Operand} {F G : Env → St → Res} (hc : c = .cond v x y) (hx : g45X x K = F) (hy : g45X y K = G) : g45X c K = condF v F G := cond_cut hc hx hy
noncomputable def g45k0 : Kon := kSeq (g45X (g45C [1, 1, 1, 1, 1, 1, 1, 1, 1, 1, 1, 1, 1, 1]) (g45kr)) (g45kr)
noncomputable def g45k1 : Kon := kBlk 4 (g45k0)
noncomputable def g45bz2t4q : Nat → V → V → V → St → Res
| 0, _, _, _, _ => none
| n + 1, x1, x6, x15, st =>
 A.faddr 3 x1 fun a1 =>
 A.load false 1 a1 st fun a2 z3 =>
 A.lenL a2 fun a4 =>
 A.bin .lss x15 a4 fun a5 =>
 A.cond a5
 (A.faddr 3 x1 fun a6 =>
 A.load false 1 a6 z3 fun a7 z8 =>
 A.iaddr 1 a7 x15 fun a9 =>
 A.load false 1 a9 z8 fun a10 z11 =>
 A.ret (s63 [a10.er1] z11) fun a12 z13 =>
 A.ext a12 0 fun a14 =>
 A.ext a12 1 fun a15 =>
 A.appB 1 x6 (elemsOf 3 1 a14 z13) z13 fun a16 z17 =>
 A.bin .add x15 (.int .i64 1) fun a18 =>
 (g45bz2t4q n) x1 a16 a18 z17)
 (A.toStr x6 z3 fun a19 =>
 A.lenL x6 fun a20 =>
 A.bin .leq a20 (.int .i64 1048576) fun a21 =>
 some (.ret (.tup [a19.er1, a21.er1]), z3))
theorem g45nz2t4q : g45C [1, 1, 1, 1, 1, 1, 1, 1, 1, 1, 1, 1, 1, 0, 1, 0] = .loop (g45C [1, 1, 1, 1, 1, 1, 1, 1, 1, 1, 1, 1, 1, 0, 1, 0, 0]) := by kernel_rfl
noncomputable def g45k2 (Lz2t4q : V → V → V → St → Res) : Kon := kSeq (fun env st => Lz2t4q (env 1) (env 6) (env 15) st) (g45k1)
theorem g45ez2t4q : g45X (g45C [1, 1, 1, 1, 1, 1, 1, 1, 1, 1, 1, 1, 1, 0, 1, 0]) (g45k1) = fun env st => g45bz2t4q big (env 1) (env 6) (env 15) st := by
  have key : ∀ n, aloop (g45X (g45C [1, 1, 1, 1, 1, 1, 1, 1, 1, 1, 1, 1, 1, 0, 1, 0, 0])) (g45k1) n = fun env st => g45bz2t4q n (env 1) (env 6) (env 15) st := by
    intro n
    induction n with
    | zero => rfl
    | succ n ih =>
      have h : aloop (g45X (g45C [1, 1, 1, 1, 1, 1, 1, 1, 1, 1, 1, 1, 1, 0, 1, 0, 0])) (g45k1) (n + 1) = g45X (g45C [1, 1, 1, 1, 1, 1, 1, 1, 1, 1, 1, 1, 1, 0, 1, 0, 0]) (kSeq (aloop (g45X (g45C [1, 1, 1, 1, 1, 1, 1, 1, 1, 1, 1, 1, 1, 0, 1, 0, 0])) (g45k1) n) (g45k1)) := rfl
      rw [h, ih]
      refine Eq.trans (Eq.refl _) ?_
      funext env st
      kernel_rfl
  exact (g45loop g45nz2t4q).trans (key big)
noncomputable def g45bzcn3 (x1 : V) (x6 : V) (st : St) : Res :=
 g45bz2t4q big x1 x6 (.int .i64 0) st
theorem g45nzcn3 : g45C [1, 1, 1, 1, 1, 1, 1, 1, 1, 1, 1, 1, 1] = .seq (g45C [1, 1, 1, 1, 1, 1, 1, 1, 1, 1, 1, 1, 1, 0]) (g45C [1, 1, 1, 1, 1, 1, 1, 1, 1, 1, 1, 1, 1, 1]) := by kernel_rfl
theorem g45nzpa6 : g45C [1, 1, 1, 1, 1, 1, 1, 1, 1, 1, 1, 1, 1, 0] = .seq (g45C [1, 1, 1, 1, 1, 1, 1, 1, 1, 1, 1, 1, 1, 0, 0]) (g45C [1, 1, 1, 1, 1, 1, 1, 1, 1, 1, 1, 1, 1, 0, 1]) := by kernel_rfl
theorem g45nz1ekd : g45C [1, 1, 1, 1, 1, 1, 1, 1, 1, 1, 1, 1, 1, 0, 1] = .block 4 (g45C [1, 1, 1, 1, 1, 1, 1, 1, 1, 1, 1, 1, 1, 0, 1, 0]) := by kernel_rfl
theorem g45ezcn3 : g45X (g45C [1, 1, 1, 1, 1, 1, 1, 1, 1, 1, 1, 1, 1]) (g45kr) = fun env st => g45bzcn3 (env 1) (env 6) st := by
  refine Eq.trans ((g45seq g45nzcn3 rfl).trans (g45seq g45nzpa6 ((g45blk g45nz1ekd).trans (g45ez2t4q)))) ?_
  funext env st
  kernel_rfl
noncomputable def g45bz35r (x1 : V) (x6 : V) (st : St) : Res :=
 A.faddr 3 x1 fun a1 =>
 A.load false 1 a1 st fun a2 z3 =>
 A.lenL a2 fun a4 =>
 A.ret (s62 [a4.er1] z3) fun a5 z6 =>
 A.ext a5 0 fun a7 =>
 A.ext a5 1 fun a8 =>
 A.appB 1 x6 (elemsOf 3 1 a7 z6) z6 fun a9 z10 =>
 g45bzcn3 x1 a9 z10
theorem g45nz35r : g45C [1, 1, 1, 1, 1, 1, 1, 1, 1, 1, 1] = .seq (g45C [1, 1, 1, 1, 1, 1, 1, 1, 1, 1, 1, 0]) (g45C [1, 1, 1, 1, 1, 1, 1, 1, 1, 1, 1, 1]) := by kernel_rfl
theorem g45nz6bj : g45C [1, 1, 1, 1, 1, 1, 1, 1, 1, 1, 1, 1] = .seq (g45C [1, 1, 1, 1, 1, 1, 1, 1, 1, 1, 1, 1, 0]) (g45C [1, 1, 1, 1, 1, 1, 1, 1, 1, 1, 1, 1, 1]) := by kernel_rfl
theorem g45ez35r : g45X (g45C [1, 1, 1, 1, 1, 1, 1, 1, 1, 1, 1]) (g45kr) = fun env st => g45bz35r (env 1) (env 6) st := by
  refine Eq.trans (g45seq g45nz35r (g45seq g45nz6bj (g45ezcn3))) ?_
  funext env st
  kernel_rfl
noncomputable def g45bzsf (x1 : V) (x6 : V) (st : St) : Res :=
 A.faddr 2 x1 fun a1 =>
 A.load false 1 a1 st fun a2 z3 =>
 A.ret (s63 [a2.er1] z3) fun a4 z5 =>
 A.ext a4 0 fun a6 =>
 A.ext a4 1 fun a7 =>
 A.appB 1 x6 (elemsOf 3 1 a6 z5) z5 fun a8 z9 =>
 g45bz35r x1 a8 z9
theorem g45nzsf : g45C [1, 1, 1, 1, 1, 1, 1, 1, 1] = .seq (g45C [1, 1, 1, 1, 1, 1, 1, 1, 1, 0]) (g45C [1, 1, 1, 1, 1, 1, 1, 1, 1, 1]) := by kernel_rfl
theorem g45nz1kv : g45C [1, 1, 1, 1, 1, 1, 1, 1, 1, 1] = .seq (g45C [1, 1, 1, 1, 1, 1, 1, 1, 1, 1, 0]) (g45C [1, 1, 1, 1, 1, 1, 1, 1, 1, 1, 1]) := by kernel_rfl
theorem g45ezsf : g45X (g45C [1, 1, 1, 1, 1, 1, 1, 1, 1]) (g45kr) = fun env st => g45bzsf (env 1) (env 6) st := by
  refine Eq.trans (g45seq g45nzsf (g45seq g45nz1kv (g45ez35r))) ?_
  funext env st
  kernel_rfl
noncomputable def g45k3 : Kon := kSeq (fun env st => g45bzsf (env 1) (env 6) st) (g45kr)
noncomputable def g45k4 : Kon := kBlk 2 (g45k3)
noncomputable def g45bz35m : Nat → V → V → V → V → St → Res
| 0, _, _, _, _, _ => none
| n + 1, x1, x6, x7, x8, st =>
 A.lenL x7 fun a1 =>
 A.bin .lss x8 a1 fun a2 =>
 A.cond a2
 (A.iaddr 1 x7 x8 fun a3 =>
 A.load false 1 a3 st fun a4 z5 =>
 A.ret (s62 [a4.er1] z5) fun a6 z7 =>
 A.ext a6 0 fun a8 =>
 A.ext a6 1 fun a9 =>
 A.appB 1 x6 (elemsOf 3 1 a8 z7) z7 fun a10 z11 =>
 A.bin .add x8 (.int .i64 1) fun a12 =>
 (g45bz35m n) x1 a10 x7 a12 z11)
 (g45bzsf x1 x6 st)
theorem g45nz35m : g45C [1, 1, 1, 1, 1, 1, 1, 1, 0, 1, 0] = .loop (g45C [1, 1, 1, 1, 1, 1, 1, 1, 0, 1, 0, 0]) := by kernel_rfl
noncomputable def g45k5 (Lz35m : V → V → V → V → St → Res) : Kon := kSeq (fun env st => Lz35m (env 1) (env 6) (env 7) (env 8) st) (g45k4)
theorem g45ez35m : g45X (g45C [1, 1, 1, 1, 1, 1, 1, 1, 0, 1, 0]) (g45k4) = fun env st => g45bz35m big (env 1) (env 6) (env 7) (env 8) st := by
  have key : ∀ n, aloop (g45X (g45C [1, 1, 1, 1, 1, 1, 1, 1, 0, 1, 0, 0])) (g45k4) n = fun env st => g45bz35m n (env 1) (env 6) (env 7) (env 8) st := by
    intro n
    induction n with
    | zero => rfl
    | succ n ih =>
      have h : aloop (g45X (g45C [1, 1, 1, 1, 1, 1, 1, 1, 0, 1, 0, 0])) (g45k4) (n + 1) = g45X (g45C [1, 1, 1, 1, 1, 1, 1, 1, 0, 1, 0, 0]) (kSeq (aloop (g45X (g45C [1, 1, 1, 1, 1, 1, 1, 1, 0, 1, 0, 0])) (g45k4) n) (g45k4)) := rfl
      rw [h, ih]
      refine Eq.trans (Eq.refl _) ?_
      funext env st
      kernel_rfl
  exact (g45loop g45nz35m).trans (key big)
noncomputable def g45bz73 (x1 : V) (x6 : V) (x7 : V) (st : St) : Res :=
 A.faddr 1 x1 fun a1 =>
 A.load false 1 a1 st fun a2 z3 =>
 A.app 1 x7 (elemsOf 5 1 a2 z3) z3 fun a4 z5 =>
 g45bz35m big x1 x6 a4 (.int .i64 0) z5
theorem g45nz73 : g45C [1, 1, 1, 1, 1, 1, 1] = .seq (g45C [1, 1, 1, 1, 1, 1, 1, 0]) (g45C [1, 1, 1, 1, 1, 1, 1, 1]) := by kernel_rfl
theorem g45nze7 : g45C [1, 1, 1, 1, 1, 1, 1, 1] = .seq (g45C [1, 1, 1, 1, 1, 1, 1, 1, 0]) (g45C [1, 1, 1, 1, 1, 1, 1, 1, 1]) := by kernel_rfl
theorem g45nzse : g45C [1, 1, 1, 1, 1, 1, 1, 1, 0] = .seq (g45C [1, 1, 1, 1, 1, 1, 1, 1, 0, 0]) (g45C [1, 1, 1, 1, 1, 1, 1, 1, 0, 1]) := by kernel_rfl
theorem g45nz1kt : g45C [1, 1, 1, 1, 1, 1, 1, 1, 0, 1] = .block 2 (g45C [1, 1, 1, 1, 1, 1, 1, 1, 0, 1, 0]) := by kernel_rfl
theorem g45ez73 : g45X (g45C [1, 1, 1, 1, 1, 1, 1]) (g45kr) = fun env st => g45bz73 (env 1) (env 6) (env 7) st := by
  refine Eq.trans (g45seq g45nz73 ((g45seq g45nze7 (g45ezsf)).trans (g45seq g45nzse ((g45blk g45nz1kt).trans (g45ez35m))))) ?_
  funext env st
  kernel_rfl
noncomputable def g45b1111 (x1 : V) (x4 : V) (st : St) : Res :=
 A.bin .gtr x4 (.int .i64 1048576) fun a1 =>
 A.cond a1
 (some (.ret (.tup [((.str []) : V).er1, ((.bool false) : V).er1]), st))
 (A.faddr 0 x1 fun a2 =>
 A.load false 1 a2 st fun a3 z4 =>
 A.faddr 1 x1 fun a5 =>
 A.load false 1 a5 z4 fun a6 z7 =>
 A.lenL a6 fun a8 =>
 A.bslice 1 (.int .i64 0) 2 [(0, a3), (1, a8)] fun a9 =>
 g45bz73 x1 (.lst [] 1) a9 z7)
theorem g45n1111 : g45C [1, 1, 1, 1] = .seq (g45C [1, 1, 1, 1, 0]) (g45C [1, 1, 1, 1, 1]) := by kernel_rfl
theorem g45n11111 : g45C [1, 1, 1, 1, 1] = .seq (g45C [1, 1, 1, 1, 1, 0]) (g45C [1, 1, 1, 1, 1, 1]) := by kernel_rfl
theorem g45nz3j : g45C [1, 1, 1, 1, 1, 1] = .seq (g45C [1, 1, 1, 1, 1, 1, 0]) (g45C [1, 1, 1, 1, 1, 1, 1]) := by kernel_rfl
theorem g45e1111 : g45X (g45C [1, 1, 1, 1]) (g45kr) = fun env st => g45b1111 (env 1) (env 4) st := by
  refine Eq.trans (g45seq g45n1111 (g45seq g45n11111 (g45seq g45nz3j (g45ez73)))) ?_
  funext env st
  kernel_rfl
noncomputable def g45k6 : Kon := kSeq (fun env st => g45b1111 (env 1) (env 4) st) (g45kr)
noncomputable def g45k7 : Kon := kBlk 0 (g45k6)
noncomputable def g45bz3e : Nat → V → V → V → St → Res
| 0, _, _, _, _ => none
| n + 1, x1, x4, x5, st =>
 A.faddr 3 x1 fun a1 =>
 A.load false 1 a1 st fun a2 z3 =>
 A.lenL a2 fun a4 =>
 A.bin .lss x5 a4 fun a5 =>
 A.cond a5
 (A.faddr 3 x1 fun a6 =>
 A.load false 1 a6 z3 fun a7 z8 =>
 A.iaddr 1 a7 x5 fun a9 =>
 A.load false 1 a9 z8 fun a10 z11 =>
 A.ret (s61 [a10.er1] z11) fun a12 z13 =>
 A.bin .add x4 a12 fun a14 =>
 A.bin .add x5 (.int .i64 1) fun a15 =>
 (g45bz3e n) x1 a14 a15 z13)
 (g45b1111 x1 x4 z3)
theorem g45nz3e : g45C [1, 1, 1, 0, 1, 0] = .loop (g45C [1, 1, 1, 0, 1, 0, 0]) := by kernel_rfl
noncomputable def g45k8 (Lz3e : V → V → V → St → Res) : Kon := kSeq (fun env st => Lz3e (env 1) (env 4) (env 5) st) (g45k7)
theorem g45ez3e : g45X (g45C [1, 1, 1, 0, 1, 0]) (g45k7) = fun env st => g45bz3e big (env 1) (env 4) (env 5) st := by
  have key : ∀ n, aloop (g45X (g45C [1, 1, 1, 0, 1, 0, 0])) (g45k7) n = fun env st => g45bz3e n (env 1) (env 4) (env 5) st := by
    intro n
    induction n with
    | zero => rfl
    | succ n ih =>
      have h : aloop (g45X (g45C [1, 1, 1, 0, 1, 0, 0])) (g45k7) (n + 1) = g45X (g45C [1, 1, 1, 0, 1, 0, 0]) (kSeq (aloop (g45X (g45C [1, 1, 1, 0, 1, 0, 0])) (g45k7) n) (g45k7)) := rfl
      rw [h, ih]
      refine Eq.trans (Eq.refl _) ?_
      funext env st
      kernel_rfl
  exact (g45loop g45nz3e).trans (key big)
noncomputable def g45b111 (x1 : V) (x4 : V) (st : St) : Res :=
 g45bz3e big x1 x4 (.int .i64 0) st
theorem g45n111 : g45C [1, 1, 1] = .seq (g45C [1, 1, 1, 0]) (g45C [1, 1, 1, 1]) := by kernel_rfl
theorem g45n1110 : g45C [1, 1, 1, 0] = .seq (g45C [1, 1, 1, 0, 0]) (g45C [1, 1, 1, 0, 1]) := by kernel_rfl
theorem g45n11101 : g45C [1, 1, 1, 0, 1] = .block 0 (g45C [1, 1, 1, 0, 1, 0]) := by kernel_rfl
theorem g45e111 : g45X (g45C [1, 1, 1]) (g45kr) = fun env st => g45b111 (env 1) (env 4) st := by
  refine Eq.trans ((g45seq g45n111 (g45e1111)).trans (g45seq g45n1110 ((g45blk g45n11101).trans (g45ez3e)))) ?_
  funext env st
  kernel_rfl
noncomputable def f45 (x0 : V) (st : St) : Res :=
 A.box x0 st fun a1 z2 =>
 A.load true 4 a1 z2 fun a3 z4 =>
 A.ret (s60 [a3.er1] z4) fun a5 z6 =>
 A.un .not a5 fun a7 =>
 A.cond a7
 (some (.ret (.tup [((.str []) : V).er1, ((.bool false) : V).er1]), z6))
 (A.faddr 2 a1 fun a8 =>
 A.load false 1 a8 z6 fun a9 z10 =>
 A.ret (s61 [a9.er1] z10) fun a11 z12 =>
 g45b111 a1 a11 z12)
theorem g45nr : g45C [] = .seq (g45C [0]) (g45C [1]) := by kernel_rfl
theorem g45n1 : g45C [1] = .seq (g45C [1, 0]) (g45C [1, 1]) := by kernel_rfl
theorem g45n11 : g45C [1, 1] = .seq (g45C [1, 1, 0]) (g45C [1, 1, 1]) := by kernel_rfl
theorem g45er (env : Env) (st : St) : g45X (g45C []) g45kr env st = f45 (env 0) st := by
  rw [(g45seq g45nr (g45seq g45n1 (g45seq g45n11 (g45e111))))]
  kernel_rfl
theorem s45_eq (x0 : V) (st : St) : s45 [x0] st = fg (f45 x0 st) st := by
  have h : afn Try.prog g45mu g45T big (areg Try.prog g45mu g45T) 45 [x0] st = g45X (g45C []) g45kr (fun t => [x0].getD t (.tup [])) st := by kernel_rfl
  rw [s45, sealF_eq]
  show fg _ st = fg _ st
  refine congrArg (fun r => fg r st) ?_
  exact h.trans (g45er _ st)
/-! sinew/sinewref03.four -/
def g46mu : Nat → Bool := fun _ => false
noncomputable def g46T : Tbl := tget []
theorem g46t : SimT Try.prog g46T := simT_nil
noncomputable def s46 : Fn := sealF (afn Try.prog g46mu g46T big (areg Try.prog g46mu g46T) 46)
theorem sim46 : Sim Try.prog 46 s46 := (afn_sim g46t (fun m => areg_sound g46t hmix m) 46 (by kernel_rfl)).sealed
noncomputable def f46 (x0 : V) (st : St) : Res :=
 A.bin .shr x0 (.int .u64 24) fun a1 =>
 A.bin .and a1 (.int .i64 255) fun a2 =>
 A.toInt .u8 a2 fun a3 =>
 A.bin .shr x0 (.int .u64 16) fun a4 =>
 A.bin .and a4 (.int .i64 255) fun a5 =>
 A.toInt .u8 a5 fun a6 =>
 A.bin .shr x0 (.int .u64 8) fun a7 =>
 A.bin .and a7 (.int .i64 255) fun a8 =>
 A.toInt .u8 a8 fun a9 =>
 A.bin .and x0 (.int .i64 255) fun a10 =>
 A.toInt .u8 a10 fun a11 =>
 A.bslice 1 (.int .u8 0) 4 [(0, a3), (1, a6), (2, a9), (3, a11)] fun a12 =>
 A.toStr a12 st fun a13 =>
 some (.ret a13.er1, st)
theorem s46_eq (x0 : V) (st : St) : s46 [x0] st = f46 x0 st := by
  rw [s46, sealF_eq]
  kernel_rfl
end Go.Ab
