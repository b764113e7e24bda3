import Derived.Test.YtiegejeleanfbaaAbForget
import Derived.Test.YtiegejeleanfbaaAbP13x1
namespace Go.Ab
open Go.Proofs
set_option linter.unusedVariables false
set_option maxRecDepth 100000
/-! sinew/sinewref02.Sum -/
def g36mu : Nat → Bool := fun _ => false
noncomputable def g36T : Tbl := tget []
theorem g36t : SimT Try.prog g36T := simT_nil
noncomputable def s36 : Fn := sealF (afn Try.prog g36mu g36T big (areg Try.prog g36mu g36T) 36)
theorem sim36 : Sim Try.prog 36 s36 := (afn_sim g36t (fun m => areg_sound g36t hmix m) 36 (by kernel_rfl)).sealed
noncomputable def g36C (p : List Nat) : Code := sub (match Try.f36.body with | some c => c | none => .skip) p
noncomputable def g36X (c : Code) (K : Kon) : Env → St → Res := aexec Try.prog g36mu g36T big 33 (areg Try.prog g36mu g36T 33) c K
noncomputable def g36kr : Kon := aresK Try.prog Try.f36.results.toList
theorem g36reg {c : Code} {K : Kon} {G : Env → St → Res} {id : Nat} {ops : Array Oper} {l1 l2 : List Nat} (hc : c = .region id ops false) (hl : List.range ops.size = l1 ++ l2) (h : (fun env st => aops Try.prog g36mu g36T 33 ops l2 env st (K .normal)) = G) : g36X c K = fun env st => aops Try.prog g36mu g36T 33 ops l1 env st G := reg_cut hc hl h
theorem g36seq {c x y : Code} {K : Kon} {G : Env → St → Res} (hc : c = .seq x y) (hy : g36X y K = G) : g36X c K = g36X x (kSeq G K) := seq_cut hc hy
theorem g36blk {c x : Code} {K : Kon} {i : Nat} (hc : c = .block i x) : g36X c K = g36X x (kBlk i K) := blk_cut hc
theorem g36loop {c x : Code} {K : Kon} (hc : c = .loop x) : g36X c K = aloop (g36X x) K big := loop_cut hc
theorem g36cond {c x y : Code} {K : Kon} {v : Operand} {F G : Env → St → Res} (hc : c = .cond v x y) (hx : g36X x K = F) (hy : g36X y K = G) : g36X c K = condF v F G := cond_cut hc hx hy
noncomputable def g36k0 : Kon := kSeq (g36X (g36C [1, 1, 1]) (g36kr)) (g36kr)
noncomputable def g36k1 : Kon := kBlk 0 (g36k0)
noncomputable def g36k2 (L11010 : V → V → V → St → Res) : Kon := kSeq (fun env st => L11010 (env 0) (env 3) (env 4) st) (g36k1)
noncomputable def g36k3 (L11010 : V → V → V → St → Res) : Kon := kSeq (g36X (g36C [1, 1, 0, 1, 0, 0, 1, 1]) (g36k2 L11010)) (g36k2 L11010)
noncomputable def g36k4 (L11010 : V → V → V → St → Res) : Kon := kBlk 1 (g36k3 L11010)
noncomputable def g36k5 (L11010 : V → V → V → St → Res) : Kon := kBlk 2 (g36k4 L11010)
noncomputable def g36b110100100110 (L11010 : V → V → V → St → Res) : Nat → V → V → V → V → St → Res
| 0, _, _, _, _, _ => none
| n + 1, x0, x3, x4, x5, st =>
 A.bin .lss x5 (.int .i64 8) fun a1 =>
 A.cond a1
 (A.bin .mul (.int .i64 2) x3 fun a2 =>
 A.bin .gtr a2 (.int .i64 4294967295) fun a3 =>
 A.cond a3
 (A.bin .sub a2 (.int .i64 4294967295) fun a4 =>
 A.bin .sub a4 (.int .i64 1) fun a5 =>
 A.bin .xor a5 (.int .i64 79764919) fun a6 =>
 A.bin .add x5 (.int .i64 1) fun a7 =>
 (g36b110100100110 L11010 n) x0 a6 x4 a7 st)
 (A.bin .add x5 (.int .i64 1) fun a8 =>
 (g36b110100100110 L11010 n) x0 a2 x4 a8 st))
 (A.bin .add x4 (.int .i64 1) fun a9 =>
 L11010 x0 x3 a9 st)
theorem g36n110100100110 : g36C [1, 1, 0, 1, 0, 0, 1, 0, 0, 1, 1, 0] = .loop (g36C [1, 1, 0, 1, 0, 0, 1, 0, 0, 1, 1, 0, 0]) := by kernel_rfl
noncomputable def g36k6 (L11010 : V → V → V → St → Res) (L110100100110 : V → V → V → V → St → Res) : Kon := kSeq (fun env st => L110100100110 (env 0) (env 3) (env 4) (env 5) st) (g36k5 L11010)
theorem g36e110100100110 (L11010 : V → V → V → St → Res) : g36X (g36C [1, 1, 0, 1, 0, 0, 1, 0, 0, 1, 1, 0]) (g36k5 L11010) = fun env st => g36b110100100110 L11010 big (env 0) (env 3) (env 4) (env 5) st := by
  have key : ∀ n, aloop (g36X (g36C [1, 1, 0, 1, 0, 0, 1, 0, 0, 1, 1, 0, 0])) (g36k5 L11010) n = fun env st => g36b110100100110 L11010 n (env 0) (env 3) (env 4) (env 5) st := by
    intro n
    induction n with
    | zero => rfl
    | succ n ih =>
      have h : aloop (g36X (g36C [1, 1, 0, 1, 0, 0, 1, 0, 0, 1, 1, 0, 0])) (g36k5 L11010) (n + 1) = g36X (g36C [1, 1, 0, 1, 0, 0, 1, 0, 0, 1, 1, 0, 0]) (kSeq (aloop (g36X (g36C [1, 1, 0, 1, 0, 0, 1, 0, 0, 1, 1, 0, 0])) (g36k5 L11010) n) (g36k5 L11010)) := rfl
      rw [h, ih]
      refine Eq.trans (Eq.refl _) ?_
      funext env st
      kernel_rfl
  exact (g36loop g36n110100100110).trans (key big)
noncomputable def g36b1101001001 (L11010 : V → V → V → St → Res) (x0 : V) (x3 : V) (x4 : V) (st : St) : Res :=
 g36b110100100110 L11010 big x0 x3 x4 (.int .i64 0) st
theorem g36n1101001001 : g36C [1, 1, 0, 1, 0, 0, 1, 0, 0, 1] = .seq (g36C [1, 1, 0, 1, 0, 0, 1, 0, 0, 1, 0]) (g36C [1, 1, 0, 1, 0, 0, 1, 0, 0, 1, 1]) := by kernel_rfl
theorem g36n11010010011 : g36C [1, 1, 0, 1, 0, 0, 1, 0, 0, 1, 1] = .block 2 (g36C [1, 1, 0, 1, 0, 0, 1, 0, 0, 1, 1, 0]) := by kernel_rfl
theorem g36e1101001001 (L11010 : V → V → V → St → Res) : g36X (g36C [1, 1, 0, 1, 0, 0, 1, 0, 0, 1]) (g36k4 L11010) = fun env st => g36b1101001001 L11010 (env 0) (env 3) (env 4) st := by
  refine Eq.trans (g36seq g36n1101001001 ((g36blk g36n11010010011).trans (g36e110100100110 L11010))) ?_
  funext env st
  kernel_rfl
noncomputable def g36b11010 : Nat → V → V → V → St → Res
| 0, _, _, _, _ => none
| n + 1, x0, x3, x4, st =>
 A.lenS x0 fun a1 =>
 A.bin .lss x4 a1 fun a2 =>
 A.cond a2
 (A.idxS x0 x4 fun a3 =>
 A.toInt .i64 a3 fun a4 =>
 A.bin .shl a4 (.int .u64 24) fun a5 =>
 A.bin .xor x3 a5 fun a6 =>
 g36b1101001001 (g36b11010 n) x0 a6 x4 st)
 (A.bin .xor x3 (.int .i64 4294967295) fun a7 =>
 some (.ret a7.er1, st))
theorem g36n11010 : g36C [1, 1, 0, 1, 0] = .loop (g36C [1, 1, 0, 1, 0, 0]) := by kernel_rfl
theorem g36n110100 : g36C [1, 1, 0, 1, 0, 0] = .seq (g36C [1, 1, 0, 1, 0, 0, 0]) (g36C [1, 1, 0, 1, 0, 0, 1]) := by kernel_rfl
theorem g36n1101001 : g36C [1, 1, 0, 1, 0, 0, 1] = .seq (g36C [1, 1, 0, 1, 0, 0, 1, 0]) (g36C [1, 1, 0, 1, 0, 0, 1, 1]) := by kernel_rfl
theorem g36n11010010 : g36C [1, 1, 0, 1, 0, 0, 1, 0] = .block 1 (g36C [1, 1, 0, 1, 0, 0, 1, 0, 0]) := by kernel_rfl
theorem g36n110100100 : g36C [1, 1, 0, 1, 0, 0, 1, 0, 0] = .seq (g36C [1, 1, 0, 1, 0, 0, 1, 0, 0, 0]) (g36C [1, 1, 0, 1, 0, 0, 1, 0, 0, 1]) := by kernel_rfl
theorem g36e11010 : g36X (g36C [1, 1, 0, 1, 0]) (g36k1) = fun env st => g36b11010 big (env 0) (env 3) (env 4) st := by
  have key : ∀ n, aloop (g36X (g36C [1, 1, 0, 1, 0, 0])) (g36k1) n = fun env st => g36b11010 n (env 0) (env 3) (env 4) st := by
    intro n
    induction n with
    | zero => rfl
    | succ n ih =>
      have h : aloop (g36X (g36C [1, 1, 0, 1, 0, 0])) (g36k1) (n + 1) = g36X (g36C [1, 1, 0, 1, 0, 0]) (kSeq (aloop (g36X (g36C [1, 1, 0, 1, 0, 0])) (g36k1) n) (g36k1)) := rfl
      rw [h, ih]
      refine Eq.trans (g36seq g36n110100 ((g36seq g36n1101001 rfl).trans ((g36blk g36n11010010).trans (g36seq g36n110100100 (g36e1101001001 (g36b11010 n)))))) ?_
      funext env st
      kernel_rfl
  exact (g36loop g36n11010).trans (key big)
noncomputable def f36 (x0 : V) (st : St) : Res :=
 g36b11010 big x0 (.int .i64 4294967295) (.int .i64 0) st
theorem g36nr : g36C [] = .seq (g36C [0]) (g36C [1]) := by kernel_rfl
theorem g36n1 : g36C [1] = .seq (g36C [1, 0]) (g36C [1, 1]) := by kernel_rfl
theorem g36n11 : g36C [1, 1] = .seq (g36C [1, 1, 0]) (g36C [1, 1, 1]) := by kernel_rfl
theorem g36n110 : g36C [1, 1, 0] = .seq (g36C [1, 1, 0, 0]) (g36C [1, 1, 0, 1]) := by kernel_rfl
theorem g36n1101 : g36C [1, 1, 0, 1] = .block 0 (g36C [1, 1, 0, 1, 0]) := by kernel_rfl
theorem g36er (env : Env) (st : St) : g36X (g36C []) g36kr env st = f36 (env 0) st := by
  rw [(g36seq g36nr (g36seq g36n1 ((g36seq g36n11 rfl).trans (g36seq g36n110 ((g36blk g36n1101).trans (g36e11010))))))]
  kernel_rfl
theorem s36_eq (x0 : V) (st : St) : s36 [x0] st = f36 x0 st := by
  have h : afn Try.prog g36mu g36T big (areg Try.prog g36mu g36T) 36 [x0] st = g36X (g36C []) g36kr (fun t => [x0].getD t (.tup [])) st := by kernel_rfl
  rw [s36, sealF_eq]
  exact h.trans (g36er _ st)
/-! sinew/sinewref13.Part -/
def g22mu : Nat → Bool := fun _ => false
noncomputable def g22T : Tbl := tget [(36, s36)]
theorem g22t : SimT Try.prog g22T := simT_cons sim36 (simT_nil)
noncomputable def s22 : Fn := sealF (afn Try.prog g22mu g22T big (areg Try.prog g22mu g22T) 22)
theorem sim22 : Sim Try.prog 22 s22 := (afn_sim g22t (fun m => areg_sound g22t hmix m) 22 (by kernel_rfl)).sealed
noncomputable def g22C (p : List Nat) : Code := sub (match Try.f22.body with | some c => c | none => .skip) p
noncomputable def g22X (c : Code) (K : Kon) : Env → St → Res := aexec Try.prog g22mu g22T big 16 (areg Try.prog g22mu g22T 16) c K
noncomputable def g22kr : Kon := aresK Try.prog Try.f22.results.toList
theorem g22reg {c : Code} {K : Kon} {G : Env → St → Res} {id : Nat} {ops : Array Oper} {l1 l2 : List Nat} (hc : c = .region id ops false) (hl : List.range ops.size = l1 ++ l2) (h : (fun env st => aops Try.prog g22mu g22T 16 ops l2 env st (K .normal)) = G) : g22X c K = fun env st => aops Try.prog g22mu g22T 16 ops l1 env st G := reg_cut hc hl h
theorem g22seq {c x y : Code} {K : Kon} {G : Env → St → Res} (hc : c = .seq x y) (hy : g22X y K = G) : g22X c K = g22X x (kSeq G K) := seq_cut hc hy
theorem g22blk {c x : Code} {K : Kon} {i : Nat} (hc : c = .block i x) : g22X c K = g22X x (kBlk i K) := blk_cut hc
theorem g22loop {c x : Code} {K : Kon} (hc : c = .loop x) : g22X c K = aloop (g22X x) K big := loop_cut hc
theorem g22cond {c x y : Code} {K : Kon} {v : Operand} {F G : Env → St → Res} (hc : c = .cond v x y) (hx : g22X x K = F) (hy : g22X y K = G) : g22X c K = condF v F G := cond_cut hc hx hy
noncomputable def g22b11 (x0 : V) (x1 : V) (st : St) : Res :=
 A.bin .add x0 (.str [35]) fun a1 =>
 A.ret (s36 [a1.er1] st) fun a2 z3 =>
 A.bin .rem a2 x1 fun a4 =>
 some (.ret a4.er1, z3)
theorem g22e11 : g22X (g22C [1, 1]) (g22kr) = fun env st => g22b11 (env 0) (env 1) st := by
  refine Eq.trans (Eq.refl (g22X (g22C [1, 1]) (g22kr))) ?_
  funext env st
  kernel_rfl
noncomputable def f22 (x0 : V) (x1 : V) (st : St) : Res :=
 A.bin .lss x1 (.int .i64 1) fun a1 =>
 A.guard a1 false
 (A.bin .gtr x1 (.int .i64 64) fun a2 =>
 A.cond a2
 (some (.ret ((.int .i64 0) : V).er1, st))
 (g22b11 x0 x1 st))
 (some (.ret ((.int .i64 0) : V).er1, st))
theorem g22nr : g22C [] = .seq (g22C [0]) (g22C [1]) := by kernel_rfl
theorem g22n1 : g22C [1] = .seq (g22C [1, 0]) (g22C [1, 1]) := by kernel_rfl
theorem g22er (env : Env) (st : St) : g22X (g22C []) g22kr env st = f22 (env 0) (env 1) st := by
  rw [(g22seq g22nr (g22seq g22n1 (g22e11)))]
  kernel_rfl
theorem s22_eq (x0 : V) (x1 : V) (st : St) : s22 [x0, x1] st = f22 x0 x1 st := by
  have h : afn Try.prog g22mu g22T big (areg Try.prog g22mu g22T) 22 [x0, x1] st = g22X (g22C []) g22kr (fun t => [x0, x1].getD t (.tup [])) st := by kernel_rfl
  rw [s22, sealF_eq]
  exact h.trans (g22er _ st)
/-! sinew/sinewref13.coords -/
def g34mu : Nat → Bool := fun i => Nat.beq i 9
noncomputable def g34T : Tbl := tget []
theorem g34t : SimT Try.prog g34T := simT_nil
noncomputable def s34 : Fn := sealF (afn Try.prog g34mu g34T big (areg Try.prog g34mu g34T) 34)
theorem sim34 : Sim Try.prog 34 s34 := (afn_sim g34t (fun m => areg_sound g34t hmix m) 34 (by kernel_rfl)).sealed
noncomputable def g34C (p : List Nat) : Code := sub (match Try.f34.body with | some c => c | none => .skip) p
noncomputable def g34X (c : Code) (K : Kon) : Env → St → Res := aexec Try.prog g34mu g34T big 33 (areg Try.prog g34mu g34T 33) c K
noncomputable def g34kr : Kon := aresK Try.prog Try.f34.results.toList
theorem g34reg {c : Code} {K : Kon} {G : Env → St → Res} {id : Nat} {ops : Array Oper} {l1 l2 : List Nat} (hc : c = .region id ops false) (hl : List.range ops.size = l1 ++ l2) (h : (fun env st => aops Try.prog g34mu g34T 33 ops l2 env st (K .normal)) = G) : g34X c K = fun env st => aops Try.prog g34mu g34T 33 ops l1 env st G := reg_cut hc hl h
theorem g34seq {c x y : Code} {K : Kon} {G : Env → St → Res} (hc : c = .seq x y) (hy : g34X y K = G) : g34X c K = g34X x (kSeq G K) := seq_cut hc hy
theorem g34blk {c x : Code} {K : Kon} {i : Nat} (hc : c = .block i x) : g34X c K = g34X x (kBlk i K) := blk_cut hc
theorem g34loop {c x : Code} {K : Kon} (hc : c = .loop x) : g34X c K = aloop (g34X x) K big := loop_cut hc
theorem g34cond {c x y : Code} {K : Kon} {v : Operand} {F G : Env → St → Res} (hc : c = .cond v x y) (hx : g34X x K = F) (hy : g34X y K = G) : g34X c K = condF v F G := cond_cut hc hx hy
noncomputable def g34k0 : Kon := kSeq (g34X (g34C [1, 1, 1]) (g34kr)) (g34kr)
noncomputable def g34k1 : Kon := kBlk 0 (g34k0)
noncomputable def g34k2 (L11010 : V → V → V → V → St → Res) : Kon := kSeq (fun env st => L11010 (env 0) (env 1) (env 5) (env 6) st) (g34k1)
noncomputable def g34k3 (L11010 : V → V → V → V → St → Res) : Kon := kSeq (g34X (g34C [1, 1, 0, 1, 0, 0, 1, 1]) (g34k2 L11010)) (g34k2 L11010)
noncomputable def g34k4 (L11010 : V → V → V → V → St → Res) : Kon := kBlk 1 (g34k3 L11010)
noncomputable def g34b1101001001 (L11010 : V → V → V → V → St → Res) (x0 : V) (x1 : V) (x5 : V) (x6 : V) (st : St) : Res :=
 A.iaddr 1 x0 x6 fun a1 =>
 A.load false 1 a1 st fun a2 z3 =>
 A.bin .quo x1 a2 fun a4 =>
 A.bin .sub x6 (.int .i64 1) fun a5 =>
 L11010 x0 a4 x5 a5 z3
theorem g34e1101001001 (L11010 : V → V → V → V → St → Res) : g34X (g34C [1, 1, 0, 1, 0, 0, 1, 0, 0, 1]) (g34k4 L11010) = fun env st => g34b1101001001 L11010 (env 0) (env 1) (env 5) (env 6) st := by
  refine Eq.trans (Eq.refl (g34X (g34C [1, 1, 0, 1, 0, 0, 1, 0, 0, 1]) (g34k4 L11010))) ?_
  funext env st
  kernel_rfl
noncomputable def g34b11010 : Nat → V → V → V → V → St → Res
| 0, _, _, _, _, _ => none
| n + 1, x0, x1, x5, x6, st =>
 A.bin .geq x6 (.int .i64 0) fun a1 =>
 A.cond a1
 (A.iaddr 1 x0 x6 fun a2 =>
 A.load false 1 a2 st fun a3 z4 =>
 A.bin .rem x1 a3 fun a5 =>
 A.iaddr 1 x5 x6 fun a6 =>
 A.store 1 a6 a5 z4 fun z7 =>
 g34b1101001001 (g34b11010 n) x0 x1 x5 x6 z7)
 (some (.ret x5.er1, st))
theorem g34n11010 : g34C [1, 1, 0, 1, 0] = .loop (g34C [1, 1, 0, 1, 0, 0]) := by kernel_rfl
theorem g34n110100 : g34C [1, 1, 0, 1, 0, 0] = .seq (g34C [1, 1, 0, 1, 0, 0, 0]) (g34C [1, 1, 0, 1, 0, 0, 1]) := by kernel_rfl
theorem g34n1101001 : g34C [1, 1, 0, 1, 0, 0, 1] = .seq (g34C [1, 1, 0, 1, 0, 0, 1, 0]) (g34C [1, 1, 0, 1, 0, 0, 1, 1]) := by kernel_rfl
theorem g34n11010010 : g34C [1, 1, 0, 1, 0, 0, 1, 0] = .block 1 (g34C [1, 1, 0, 1, 0, 0, 1, 0, 0]) := by kernel_rfl
theorem g34n110100100 : g34C [1, 1, 0, 1, 0, 0, 1, 0, 0] = .seq (g34C [1, 1, 0, 1, 0, 0, 1, 0, 0, 0]) (g34C [1, 1, 0, 1, 0, 0, 1, 0, 0, 1]) := by kernel_rfl
theorem g34e11010 : g34X (g34C [1, 1, 0, 1, 0]) (g34k1) = fun env st => g34b11010 big (env 0) (env 1) (env 5) (env 6) st := by
  have key : ∀ n, aloop (g34X (g34C [1, 1, 0, 1, 0, 0])) (g34k1) n = fun env st => g34b11010 n (env 0) (env 1) (env 5) (env 6) st := by
    intro n
    induction n with
    | zero => rfl
    | succ n ih =>
      have h : aloop (g34X (g34C [1, 1, 0, 1, 0, 0])) (g34k1) (n + 1) = g34X (g34C [1, 1, 0, 1, 0, 0]) (kSeq (aloop (g34X (g34C [1, 1, 0, 1, 0, 0])) (g34k1) n) (g34k1)) := rfl
      rw [h, ih]
      refine Eq.trans (g34seq g34n110100 ((g34seq g34n1101001 rfl).trans ((g34blk g34n11010010).trans (g34seq g34n110100100 (g34e1101001001 (g34b11010 n)))))) ?_
      funext env st
      kernel_rfl
  exact (g34loop g34n11010).trans (key big)
noncomputable def f34 (x0 : V) (x1 : V) (st : St) : Res :=
 A.lenL x0 fun a1 =>
 A.mkslM 1 8 (.int .i64 0) a1 a1 st fun a2 z3 =>
 A.lenL x0 fun a4 =>
 A.bin .sub a4 (.int .i64 1) fun a5 =>
 g34b11010 big x0 x1 a2 a5 z3
theorem g34nr : g34C [] = .seq (g34C [0]) (g34C [1]) := by kernel_rfl
theorem g34n1 : g34C [1] = .seq (g34C [1, 0]) (g34C [1, 1]) := by kernel_rfl
theorem g34n11 : g34C [1, 1] = .seq (g34C [1, 1, 0]) (g34C [1, 1, 1]) := by kernel_rfl
theorem g34n110 : g34C [1, 1, 0] = .seq (g34C [1, 1, 0, 0]) (g34C [1, 1, 0, 1]) := by kernel_rfl
theorem g34n1101 : g34C [1, 1, 0, 1] = .block 0 (g34C [1, 1, 0, 1, 0]) := by kernel_rfl
theorem g34er (env : Env) (st : St) : g34X (g34C []) g34kr env st = f34 (env 0) (env 1) st := by
  rw [(g34seq g34nr (g34seq g34n1 ((g34seq g34n11 rfl).trans (g34seq g34n110 ((g34blk g34n1101).trans (g34e11010))))))]
  kernel_rfl
theorem s34_eq (x0 : V) (x1 : V) (st : St) : s34 [x0, x1] st = f34 x0 x1 st := by
  have h : afn Try.prog g34mu g34T big (areg Try.prog g34mu g34T) 34 [x0, x1] st = g34X (g34C []) g34kr (fun t => [x0, x1].getD t (.tup [])) st := by kernel_rfl
  rw [s34, sealF_eq]
  exact h.trans (g34er _ st)
/-! sinew/sinewref13.Route -/
def g19mu : Nat → Bool := fun _ => false
noncomputable def g19T : Tbl := tget [(20, s20), (22, s22), (34, s34)]
theorem g19t : SimT Try.prog g19T := simT_cons sim20 ( simT_cons sim22 ( simT_cons sim34 (simT_nil)))
noncomputable def s19 : Fn := sealF (fun args st => fg (afn Try.prog g19mu g19T big (areg Try.prog g19mu g19T) 19 args st) st)
theorem sim19 : Sim Try.prog 19 s19 := (afn_sim g19t (fun m => areg_sound g19t hmix m) 19 (by kernel_rfl)).fg.sealed
noncomputable def g19C (p : List Nat) : Code := sub (match Try.f19.body with | some c => c | none => .skip) p
noncomputable def g19X (c : Code) (K : Kon) : Env → St → Res := aexec Try.prog g19mu g19T big 98 (areg Try.prog g19mu g19T 98) c K
noncomputable def g19kr : Kon := aresK Try.prog Try.f19.results.toList
theorem g19reg {c : Code} {K : Kon} {G : Env → St → Res} {id : Nat} {ops : Array Oper} {l1 l2 : List Nat} (hc : c = .region id ops false) (hl : List.range ops.size = l1 ++ l2) (h : (fun env st => aops Try.prog g19mu g19T 98 ops l2 env st (K .normal)) = G) : g19X c K = fun env st => aops Try.prog g19mu g19T 98 ops l1 env st G := reg_cut hc hl h
theorem g19seq {c x y : Code} {K : Kon} {G : Env → St → Res} (hc : c = .seq x y) (hy : g19X y K = G) : g19X c K = g19X x (kSeq G K) := seq_cut hc hy
theorem g19blk {c x : Code} {K : Kon} {i : Nat} (hc : c = .block i x) : g19X c K = g19X x (kBlk i K) := blk_cut hc
theorem g19loop {c x : Code} {K : Kon} (hc : c = .loop x) : g19X c K = aloop (g19X x) K big := loop_cut hc
theorem g19cond {c x y : Code} {K : Kon} {v : Operand} {F G : Env → St → Res} (hc : c = .cond v x y) (hx : g19X x K = F) (hy : g19X y K = G) : g19X c K = condF v F G := cond_cut hc hx hy
noncomputable def g19k0 : Kon := kSeq (g19X (g19C [1, 1, 1, 1, 1, 1]) (g19kr)) (g19kr)
noncomputable def g19k1 : Kon := kBlk 2 (g19k0)
noncomputable def g19k2 (L11111010 : V → V → V → V → V → V → St → Res) : Kon := kSeq (fun env st => L11111010 (env 0) (env 1) (env 2) (env 8) (env 11) (env 12) st) (g19k1)
noncomputable def g19k3 (L11111010 : V → V → V → V → V → V → St → Res) : Kon := kSeq (g19X (g19C [1, 1, 1, 1, 1, 0, 1, 0, 0, 1, 1]) (g19k2 L11111010)) (g19k2 L11111010)
noncomputable def g19k4 (L11111010 : V → V → V → V → V → V → St → Res) : Kon := kBlk 3 (g19k3 L11111010)
noncomputable def g19k5 (L11111010 : V → V → V → V → V → V → St → Res) : Kon := kSeq (g19X (g19C [1, 1, 1, 1, 1, 0, 1, 0, 0, 1, 0, 0, 1, 1, 1]) (g19k4 L11111010)) (g19k4 L11111010)
noncomputable def g19k6 (L11111010 : V → V → V → V → V → V → St → Res) : Kon := kBlk 4 (g19k5 L11111010)
noncomputable def g19b11111010010011010 (L11111010 : V → V → V → V → V → V → St → Res) : Nat → V → V → V → V → V → V → V → V → V → St → Res
| 0, _, _, _, _, _, _, _, _, _, _ => none
| n + 1, x0, x1, x2, x8, x11, x12, x13, x14, x15, st =>
 A.lenL x1 fun a1 =>
 A.bin .lss x15 a1 fun a2 =>
 A.cond a2
 (A.guard x14 true
 (A.iaddr 1 x1 x15 fun a3 =>
 A.load false 1 a3 st fun a4 _ =>
 A.iaddr 1 x13 a4 fun a5 =>
 A.load false 1 a5 st fun a6 _ =>
 A.iaddr 1 x2 x15 fun a7 =>
 A.load false 1 a7 st fun a8 _ =>
 A.iaddr 1 x1 x15 fun a9 =>
 A.load false 1 a9 st fun a10 _ =>
 A.iaddr 1 x0 a10 fun a11 =>
 A.load false 1 a11 st fun a12 _ =>
 A.noP (A.ret (s22 [a8.er1, a12.er1] st) kid) fun a13 z14 =>
 A.chk (ldv false 1 a5 z14) a6
 (A.chk (ldv false 1 a3 z14) a4
 (A.eql 2 false a6 a13 fun a15 =>
 A.bin .add x15 (.int .i64 1) fun a16 =>
 (g19b11111010010011010 L11111010 n) x0 x1 x2 x8 x11 x12 x13 a15 a16 z14)))
 (A.bin .add x15 (.int .i64 1) fun a17 =>
 (g19b11111010010011010 L11111010 n) x0 x1 x2 x8 x11 x12 x13 (.bool false) a17 st))
 (A.cond x14
 (A.bslice 1 (.int .i64 0) 1 [(0, x12)] fun a18 =>
 A.app 1 x11 (elemsOf 5 1 a18 st) st fun a19 z20 =>
 A.bin .add x12 (.int .i64 1) fun a21 =>
 L11111010 x0 x1 x2 x8 a19 a21 z20)
 (A.bin .add x12 (.int .i64 1) fun a22 =>
 L11111010 x0 x1 x2 x8 x11 a22 st))
theorem g19n11111010010011010 : g19C [1, 1, 1, 1, 1, 0, 1, 0, 0, 1, 0, 0, 1, 1, 0, 1, 0] = .loop (g19C [1, 1, 1, 1, 1, 0, 1, 0, 0, 1, 0, 0, 1, 1, 0, 1, 0, 0]) := by kernel_rfl
noncomputable def g19k7 (L11111010 : V → V → V → V → V → V → St → Res) (L11111010010011010 : V → V → V → V → V → V → V → V → V → St → Res) : Kon := kSeq (fun env st => L11111010010011010 (env 0) (env 1) (env 2) (env 8) (env 11) (env 12) (env 13) (env 14) (env 15) st) (g19k6 L11111010)
theorem g19e11111010010011010 (L11111010 : V → V → V → V → V → V → St → Res) : g19X (g19C [1, 1, 1, 1, 1, 0, 1, 0, 0, 1, 0, 0, 1, 1, 0, 1, 0]) (g19k6 L11111010) = fun env st => g19b11111010010011010 L11111010 big (env 0) (env 1) (env 2) (env 8) (env 11) (env 12) (env 13) (env 14) (env 15) st := by
  have key : ∀ n, aloop (g19X (g19C [1, 1, 1, 1, 1, 0, 1, 0, 0, 1, 0, 0, 1, 1, 0, 1, 0, 0])) (g19k6 L11111010) n = fun env st => g19b11111010010011010 L11111010 n (env 0) (env 1) (env 2) (env 8) (env 11) (env 12) (env 13) (env 14) (env 15) st := by
    intro n
    induction n with
    | zero => rfl
    | succ n ih =>
      have h : aloop (g19X (g19C [1, 1, 1, 1, 1, 0, 1, 0, 0, 1, 0, 0, 1, 1, 0, 1, 0, 0])) (g19k6 L11111010) (n + 1) = g19X (g19C [1, 1, 1, 1, 1, 0, 1, 0, 0, 1, 0, 0, 1, 1, 0, 1, 0, 0]) (kSeq (aloop (g19X (g19C [1, 1, 1, 1, 1, 0, 1, 0, 0, 1, 0, 0, 1, 1, 0, 1, 0, 0])) (g19k6 L11111010) n) (g19k6 L11111010)) := rfl
      rw [h, ih]
      refine Eq.trans (Eq.refl _) ?_
      funext env st
      kernel_rfl
  exact (g19loop g19n11111010010011010).trans (key big)
noncomputable def g19b11111010 : Nat → V → V → V → V → V → V → St → Res
| 0, _, _, _, _, _, _, _ => none
| n + 1, x0, x1, x2, x8, x11, x12, st =>
 A.bin .lss x12 x8 fun a1 =>
 A.cond a1
 (A.ret (s34 [x0.er1, x12.er1] st) fun a2 z3 =>
 g19b11111010010011010 (g19b11111010 n) big x0 x1 x2 x8 x11 x12 a2 (.bool true) (.int .i64 0) z3)
 (some (.ret (.tup [x11.er1, ((.int .i64 0) : V).er1]), st))
theorem g19n11111010 : g19C [1, 1, 1, 1, 1, 0, 1, 0] = .loop (g19C [1, 1, 1, 1, 1, 0, 1, 0, 0]) := by kernel_rfl
theorem g19n111110100 : g19C [1, 1, 1, 1, 1, 0, 1, 0, 0] = .seq (g19C [1, 1, 1, 1, 1, 0, 1, 0, 0, 0]) (g19C [1, 1, 1, 1, 1, 0, 1, 0, 0, 1]) := by kernel_rfl
theorem g19n1111101001 : g19C [1, 1, 1, 1, 1, 0, 1, 0, 0, 1] = .seq (g19C [1, 1, 1, 1, 1, 0, 1, 0, 0, 1, 0]) (g19C [1, 1, 1, 1, 1, 0, 1, 0, 0, 1, 1]) := by kernel_rfl
theorem g19n11111010010 : g19C [1, 1, 1, 1, 1, 0, 1, 0, 0, 1, 0] = .block 3 (g19C [1, 1, 1, 1, 1, 0, 1, 0, 0, 1, 0, 0]) := by kernel_rfl
theorem g19n111110100100 : g19C [1, 1, 1, 1, 1, 0, 1, 0, 0, 1, 0, 0] = .seq (g19C [1, 1, 1, 1, 1, 0, 1, 0, 0, 1, 0, 0, 0]) (g19C [1, 1, 1, 1, 1, 0, 1, 0, 0, 1, 0, 0, 1]) := by kernel_rfl
theorem g19n1111101001001 : g19C [1, 1, 1, 1, 1, 0, 1, 0, 0, 1, 0, 0, 1] = .seq (g19C [1, 1, 1, 1, 1, 0, 1, 0, 0, 1, 0, 0, 1, 0]) (g19C [1, 1, 1, 1, 1, 0, 1, 0, 0, 1, 0, 0, 1, 1]) := by kernel_rfl
theorem g19n11111010010011 : g19C [1, 1, 1, 1, 1, 0, 1, 0, 0, 1, 0, 0, 1, 1] = .seq (g19C [1, 1, 1, 1, 1, 0, 1, 0, 0, 1, 0, 0, 1, 1, 0]) (g19C [1, 1, 1, 1, 1, 0, 1, 0, 0, 1, 0, 0, 1, 1, 1]) := by kernel_rfl
theorem g19n111110100100110 : g19C [1, 1, 1, 1, 1, 0, 1, 0, 0, 1, 0, 0, 1, 1, 0] = .seq (g19C [1, 1, 1, 1, 1, 0, 1, 0, 0, 1, 0, 0, 1, 1, 0, 0]) (g19C [1, 1, 1, 1, 1, 0, 1, 0, 0, 1, 0, 0, 1, 1, 0, 1]) := by kernel_rfl
theorem g19n1111101001001101 : g19C [1, 1, 1, 1, 1, 0, 1, 0, 0, 1, 0, 0, 1, 1, 0, 1] = .block 4 (g19C [1, 1, 1, 1, 1, 0, 1, 0, 0, 1, 0, 0, 1, 1, 0, 1, 0]) := by kernel_rfl
theorem g19e11111010 : g19X (g19C [1, 1, 1, 1, 1, 0, 1, 0]) (g19k1) = fun env st => g19b11111010 big (env 0) (env 1) (env 2) (env 8) (env 11) (env 12) st := by
  have key : ∀ n, aloop (g19X (g19C [1, 1, 1, 1, 1, 0, 1, 0, 0])) (g19k1) n = fun env st => g19b11111010 n (env 0) (env 1) (env 2) (env 8) (env 11) (env 12) st := by
    intro n
    induction n with
    | zero => rfl
    | succ n ih =>
      have h : aloop (g19X (g19C [1, 1, 1, 1, 1, 0, 1, 0, 0])) (g19k1) (n + 1) = g19X (g19C [1, 1, 1, 1, 1, 0, 1, 0, 0]) (kSeq (aloop (g19X (g19C [1, 1, 1, 1, 1, 0, 1, 0, 0])) (g19k1) n) (g19k1)) := rfl
      rw [h, ih]
      refine Eq.trans (g19seq g19n111110100 ((g19seq g19n1111101001 rfl).trans ((g19blk g19n11111010010).trans (g19seq g19n111110100100 (g19seq g19n1111101001001 ((g19seq g19n11111010010011 rfl).trans (g19seq g19n111110100100110 ((g19blk g19n1111101001001101).trans (g19e11111010010011010 (g19b11111010 n)))))))))) ?_
      funext env st
      kernel_rfl
  exact (g19loop g19n11111010).trans (key big)
noncomputable def g19b1111 (x0 : V) (x1 : V) (x2 : V) (x8 : V) (st : St) : Res :=
 g19b11111010 big x0 x1 x2 x8 (.lst [] 1) (.int .i64 0) st
theorem g19n1111 : g19C [1, 1, 1, 1] = .seq (g19C [1, 1, 1, 1, 0]) (g19C [1, 1, 1, 1, 1]) := by kernel_rfl
theorem g19n11111 : g19C [1, 1, 1, 1, 1] = .seq (g19C [1, 1, 1, 1, 1, 0]) (g19C [1, 1, 1, 1, 1, 1]) := by kernel_rfl
theorem g19n111110 : g19C [1, 1, 1, 1, 1, 0] = .seq (g19C [1, 1, 1, 1, 1, 0, 0]) (g19C [1, 1, 1, 1, 1, 0, 1]) := by kernel_rfl
theorem g19n1111101 : g19C [1, 1, 1, 1, 1, 0, 1] = .block 2 (g19C [1, 1, 1, 1, 1, 0, 1, 0]) := by kernel_rfl
theorem g19e1111 : g19X (g19C [1, 1, 1, 1]) (g19kr) = fun env st => g19b1111 (env 0) (env 1) (env 2) (env 8) st := by
  refine Eq.trans (g19seq g19n1111 ((g19seq g19n11111 rfl).trans (g19seq g19n111110 ((g19blk g19n1111101).trans (g19e11111010))))) ?_
  funext env st
  kernel_rfl
noncomputable def g19k8 : Kon := kSeq (fun env st => g19b1111 (env 0) (env 1) (env 2) (env 8) st) (g19kr)
noncomputable def g19k9 : Kon := kBlk 0 (g19k8)
noncomputable def g19b111010 : Nat → V → V → V → V → V → St → Res
| 0, _, _, _, _, _, _ => none
| n + 1, x0, x1, x2, x8, x10, st =>
 A.lenL x1 fun a1 =>
 A.bin .lss x10 a1 fun a2 =>
 A.cond a2
 (A.iaddr 1 x1 x10 fun a3 =>
 A.load false 1 a3 st fun a4 z5 =>
 A.bin .lss a4 (.int .i64 0) fun a6 =>
 A.guard a6 false
 (A.iaddr 1 x1 x10 fun a7 =>
 A.load false 1 a7 z5 fun a8 z9 =>
 A.lenL x0 fun a10 =>
 A.bin .geq a8 a10 fun a11 =>
 A.cond a11
 (some (.ret (.tup [((.lst [] 1) : V).er1, ((.int .i64 1) : V).er1]), z9))
 (A.bin .add x10 (.int .i64 1) fun a12 =>
 (g19b111010 n) x0 x1 x2 x8 a12 z9))
 (some (.ret (.tup [((.lst [] 1) : V).er1, ((.int .i64 1) : V).er1]), z5)))
 (g19b1111 x0 x1 x2 x8 st)
theorem g19n111010 : g19C [1, 1, 1, 0, 1, 0] = .loop (g19C [1, 1, 1, 0, 1, 0, 0]) := by kernel_rfl
noncomputable def g19k10 (L111010 : V → V → V → V → V → St → Res) : Kon := kSeq (fun env st => L111010 (env 0) (env 1) (env 2) (env 8) (env 10) st) (g19k9)
theorem g19e111010 : g19X (g19C [1, 1, 1, 0, 1, 0]) (g19k9) = fun env st => g19b111010 big (env 0) (env 1) (env 2) (env 8) (env 10) st := by
  have key : ∀ n, aloop (g19X (g19C [1, 1, 1, 0, 1, 0, 0])) (g19k9) n = fun env st => g19b111010 n (env 0) (env 1) (env 2) (env 8) (env 10) st := by
    intro n
    induction n with
    | zero => rfl
    | succ n ih =>
      have h : aloop (g19X (g19C [1, 1, 1, 0, 1, 0, 0])) (g19k9) (n + 1) = g19X (g19C [1, 1, 1, 0, 1, 0, 0]) (kSeq (aloop (g19X (g19C [1, 1, 1, 0, 1, 0, 0])) (g19k9) n) (g19k9)) := rfl
      rw [h, ih]
      refine Eq.trans (Eq.refl _) ?_
      funext env st
      kernel_rfl
  exact (g19loop g19n111010).trans (key big)
noncomputable def g19b111 (x0 : V) (x1 : V) (x2 : V) (x8 : V) (st : St) : Res :=
 g19b111010 big x0 x1 x2 x8 (.int .i64 0) st
theorem g19n111 : g19C [1, 1, 1] = .seq (g19C [1, 1, 1, 0]) (g19C [1, 1, 1, 1]) := by kernel_rfl
theorem g19n1110 : g19C [1, 1, 1, 0] = .seq (g19C [1, 1, 1, 0, 0]) (g19C [1, 1, 1, 0, 1]) := by kernel_rfl
theorem g19n11101 : g19C [1, 1, 1, 0, 1] = .block 0 (g19C [1, 1, 1, 0, 1, 0]) := by kernel_rfl
theorem g19e111 : g19X (g19C [1, 1, 1]) (g19kr) = fun env st => g19b111 (env 0) (env 1) (env 2) (env 8) st := by
  refine Eq.trans ((g19seq g19n111 (g19e1111)).trans (g19seq g19n1110 ((g19blk g19n11101).trans (g19e111010)))) ?_
  funext env st
  kernel_rfl
noncomputable def f19 (x0 : V) (x1 : V) (x2 : V) (st : St) : Res :=
 A.ret (s20 [x0.er1] st) fun a1 z2 =>
 A.ext a1 0 fun a3 =>
 A.ext a1 1 fun a4 =>
 A.eql 2 true a4 (.int .i64 0) fun a5 =>
 A.guard a5 false
 (A.lenL x1 fun a6 =>
 A.lenL x2 fun a7 =>
 A.eql 2 true a6 a7 fun a8 =>
 A.guard a8 false
 (A.lenL x1 fun a9 =>
 A.bin .gtr a9 (.int .i64 16) fun a10 =>
 A.cond a10
 (some (.ret (.tup [((.lst [] 1) : V).er1, ((.int .i64 1) : V).er1]), z2))
 (g19b111 x0 x1 x2 a3 z2))
 (some (.ret (.tup [((.lst [] 1) : V).er1, ((.int .i64 1) : V).er1]), z2)))
 (some (.ret (.tup [((.lst [] 1) : V).er1, ((.int .i64 1) : V).er1]), z2))
theorem g19nr : g19C [] = .seq (g19C [0]) (g19C [1]) := by kernel_rfl
theorem g19n1 : g19C [1] = .seq (g19C [1, 0]) (g19C [1, 1]) := by kernel_rfl
theorem g19n11 : g19C [1, 1] = .seq (g19C [1, 1, 0]) (g19C [1, 1, 1]) := by kernel_rfl
theorem g19er (env : Env) (st : St) : g19X (g19C []) g19kr env st = f19 (env 0) (env 1) (env 2) st := by
  rw [(g19seq g19nr (g19seq g19n1 (g19seq g19n11 (g19e111))))]
  kernel_rfl
theorem s19_eq (x0 : V) (x1 : V) (x2 : V) (st : St) : s19 [x0, x1, x2] st = fg (f19 x0 x1 x2 st) st := by
  have h : afn Try.prog g19mu g19T big (areg Try.prog g19mu g19T) 19 [x0, x1, x2] st = g19X (g19C []) g19kr (fun t => [x0, x1, x2].getD t (.tup [])) st := by kernel_rfl
  rw [s19, sealF_eq]
  show fg _ st = fg _ st
  refine congrArg (fun r => fg r st) ?_
  exact h.trans (g19er _ st)
/-! sinew/sinewlaw13.ShareRoutes -/
def g5mu : Nat → Bool := fun _ => false
noncomputable def g5T : Tbl := tget [(11, s11), (14, s14), (16, s16), (18, s18), (19, s19), (20, s20), (21, s21), (22, s22)]
theorem g5t : SimT Try.prog g5T := simT_cons sim11 ( simT_cons sim14 ( simT_cons sim16 ( simT_cons sim18 ( simT_cons sim19 ( simT_cons sim20 ( simT_cons sim21 ( simT_cons sim22 (simT_nil))))))))
noncomputable def s5 : Fn := sealF (afn Try.prog g5mu g5T big (areg Try.prog g5mu g5T) 5)
theorem sim5 : Sim Try.prog 5 s5 := (afn_sim g5t (fun m => areg_sound g5t hmix m) 5 (by kernel_rfl)).sealed
noncomputable def g5C (p : List Nat) : Code := sub (match Try.f5.body with | some c => c | none => .skip) p
noncomputable def g5X (c : Code) (K : Kon) : Env → St → Res := aexec Try.prog g5mu g5T big 109 (areg Try.prog g5mu g5T 109) c K
noncomputable def g5kr : Kon := aresK Try.prog Try.f5.results.toList
theorem g5reg {c : Code} {K : Kon} {G : Env → St → Res} {id : Nat} {ops : Array Oper} {l1 l2 : List Nat} (hc : c = .region id ops false) (hl : List.range ops.size = l1 ++ l2) (h : (fun env st => aops Try.prog g5mu g5T 109 ops l2 env st (K .normal)) = G) : g5X c K = fun env st => aops Try.prog g5mu g5T 109 ops l1 env st G := reg_cut hc hl h
theorem g5seq {c x y : Code} {K : Kon} {G : Env → St → Res} (hc : c = .seq x y) (hy : g5X y K = G) : g5X c K = g5X x (kSeq G K) := seq_cut hc hy
theorem g5blk {c x : Code} {K : Kon} {i : Nat} (hc : c = .block i x) : g5X c K = g5X x (kBlk i K) := blk_cut hc
theorem g5loop {c x : Code} {K : Kon} (hc : c = .loop x) : g5X c K = aloop (g5X x) K big := loop_cut hc
theorem g5cond {c x y : Code} {K : Kon} {v : Operand} {F G : Env → St → Res} (hc : c = .cond v x y) (hx : g5X x K = F) (hy : g5X y K = G) : g5X c K = condF v F G := cond_cut hc hx hy
noncomputable def g5k0 : Kon := kSeq (g5X (g5C [1, 1, 1, 1, 1, 1, 1, 1]) (g5kr)) (g5kr)
noncomputable def g5k1 : Kon := kBlk 2 (g5k0)
noncomputable def g5k2 (L1111111010 : V → V → V → St → Res) : Kon := kSeq (fun env st => L1111111010 (env 0) (env 2) (env 16) st) (g5k1)
noncomputable def g5b111111101001 (L1111111010 : V → V → V → St → Res) (x0 : V) (x2 : V) (x16 : V) (st : St) : Res :=
 A.iaddr 1 x2 x16 fun a1 =>
 A.load false 1 a1 st fun a2 _ =>
 A.iaddr 1 x0 x16 fun a3 =>
 A.load false 1 a3 st fun a4 _ =>
 A.noP (A.ret (s21 [a2.er1, a4.er1] st) kid) fun a5 z6 =>
 A.iaddr 1 x2 x16 fun a7 =>
 A.load false 1 a7 z6 fun a8 _ =>
 A.chk (ldv false 1 a7 st) a8
 (A.iaddr 1 x0 x16 fun a9 =>
 A.load false 1 a9 z6 fun a10 _ =>
 A.chk (ldv false 1 a9 st) a10
 (A.noP (A.ret (s22 [a8.er1, a10.er1] z6) kid) fun a11 z12 =>
 A.eql 2 true a5 a11 fun a13 =>
 A.cond a13
 (some (.ret ((.bool false) : V).er1, z12))
 (A.bin .add x16 (.int .i64 1) fun a14 =>
 L1111111010 x0 x2 a14 z12)))
theorem g5e111111101001 (L1111111010 : V → V → V → St → Res) : g5X (g5C [1, 1, 1, 1, 1, 1, 1, 0, 1, 0, 0, 1]) (g5k2 L1111111010) = fun env st => g5b111111101001 L1111111010 (env 0) (env 2) (env 16) st := by
  refine Eq.trans (Eq.refl (g5X (g5C [1, 1, 1, 1, 1, 1, 1, 0, 1, 0, 0, 1]) (g5k2 L1111111010))) ?_
  funext env st
  kernel_rfl
noncomputable def g5b1111111010 : Nat → V → V → V → St → Res
| 0, _, _, _, _ => none
| n + 1, x0, x2, x16, st =>
 A.lenL x2 fun a1 =>
 A.bin .lss x16 a1 fun a2 =>
 A.guard a2 true
 (A.lenL x0 fun a3 =>
 A.bin .lss x16 a3 fun a4 =>
 A.cond a4
 (g5b111111101001 (g5b1111111010 n) x0 x2 x16 st)
 (A.ret (s11 [] st) fun a5 z6 =>
 some (.ret a5.er1, z6)))
 (A.ret (s11 [] st) fun a7 z8 =>
 some (.ret a7.er1, z8))
theorem g5n1111111010 : g5C [1, 1, 1, 1, 1, 1, 1, 0, 1, 0] = .loop (g5C [1, 1, 1, 1, 1, 1, 1, 0, 1, 0, 0]) := by kernel_rfl
theorem g5n11111110100 : g5C [1, 1, 1, 1, 1, 1, 1, 0, 1, 0, 0] = .seq (g5C [1, 1, 1, 1, 1, 1, 1, 0, 1, 0, 0, 0]) (g5C [1, 1, 1, 1, 1, 1, 1, 0, 1, 0, 0, 1]) := by kernel_rfl
theorem g5e1111111010 : g5X (g5C [1, 1, 1, 1, 1, 1, 1, 0, 1, 0]) (g5k1) = fun env st => g5b1111111010 big (env 0) (env 2) (env 16) st := by
  have key : ∀ n, aloop (g5X (g5C [1, 1, 1, 1, 1, 1, 1, 0, 1, 0, 0])) (g5k1) n = fun env st => g5b1111111010 n (env 0) (env 2) (env 16) st := by
    intro n
    induction n with
    | zero => rfl
    | succ n ih =>
      have h : aloop (g5X (g5C [1, 1, 1, 1, 1, 1, 1, 0, 1, 0, 0])) (g5k1) (n + 1) = g5X (g5C [1, 1, 1, 1, 1, 1, 1, 0, 1, 0, 0]) (kSeq (aloop (g5X (g5C [1, 1, 1, 1, 1, 1, 1, 0, 1, 0, 0])) (g5k1) n) (g5k1)) := rfl
      rw [h, ih]
      refine Eq.trans (g5seq g5n11111110100 (g5e111111101001 (g5b1111111010 n))) ?_
      funext env st
      kernel_rfl
  exact (g5loop g5n1111111010).trans (key big)
noncomputable def g5b111111101 (x0 : V) (x2 : V) (x16 : V) (st : St) : Res :=
 g5b1111111010 big x0 x2 x16 st
theorem g5n111111101 : g5C [1, 1, 1, 1, 1, 1, 1, 0, 1] = .block 2 (g5C [1, 1, 1, 1, 1, 1, 1, 0, 1, 0]) := by kernel_rfl
theorem g5e111111101 : g5X (g5C [1, 1, 1, 1, 1, 1, 1, 0, 1]) (g5k0) = fun env st => g5b111111101 (env 0) (env 2) (env 16) st := by
  refine Eq.trans ((g5blk g5n111111101).trans (g5e1111111010)) ?_
  funext env st
  kernel_rfl
noncomputable def g5b1111111 (x0 : V) (x2 : V) (st : St) : Res :=
 g5b111111101 x0 x2 (.int .i64 0) st
theorem g5n1111111 : g5C [1, 1, 1, 1, 1, 1, 1] = .seq (g5C [1, 1, 1, 1, 1, 1, 1, 0]) (g5C [1, 1, 1, 1, 1, 1, 1, 1]) := by kernel_rfl
theorem g5n11111110 : g5C [1, 1, 1, 1, 1, 1, 1, 0] = .seq (g5C [1, 1, 1, 1, 1, 1, 1, 0, 0]) (g5C [1, 1, 1, 1, 1, 1, 1, 0, 1]) := by kernel_rfl
theorem g5e1111111 : g5X (g5C [1, 1, 1, 1, 1, 1, 1]) (g5kr) = fun env st => g5b1111111 (env 0) (env 2) st := by
  refine Eq.trans ((g5seq g5n1111111 rfl).trans (g5seq g5n11111110 (g5e111111101))) ?_
  funext env st
  kernel_rfl
noncomputable def g5k3 : Kon := kSeq (fun env st => g5b1111111 (env 0) (env 2) st) (g5kr)
noncomputable def g5k4 : Kon := kSeq (g5X (g5C [1, 1, 1, 1, 1, 1, 0, 1]) (g5k3)) (g5k3)
noncomputable def g5b11111100_10 (x0 : V) (x2 : V) (x12 : V) (x13 : V) (x14 : V) (x15 : V) (x67 : V) (st : St) : Res :=
 A.guard x67 false
 (A.eql 2 true x12 x14 fun a1 =>
 A.guard a1 false
 (A.eql 2 true x13 x15 fun a2 =>
 A.cond a2
 (some (.ret ((.bool false) : V).er1, st))
 (g5b1111111 x0 x2 st))
 (some (.ret ((.bool false) : V).er1, st)))
 (some (.ret ((.bool false) : V).er1, st))
theorem g5e11111100_10 : (fun env st => aops Try.prog g5mu g5T 109 (rops (g5C [1, 1, 1, 1, 1, 1, 0, 0])) [10, 11, 12, 13, 14, 15, 16, 17, 18] env st ((g5k4) .normal)) = fun env st => g5b11111100_10 (env 0) (env 2) (env 12) (env 13) (env 14) (env 15) (env 67) st := by
  refine Eq.trans (Eq.refl _) ?_
  funext env st
  kernel_rfl
noncomputable def g5b111111 (x0 : V) (x2 : V) (x8 : V) (x9 : V) (x10 : V) (x11 : V) (x12 : V) (x13 : V) (x14 : V) (x15 : V) (st : St) : Res :=
 A.ret (s14 [x8.er1, x10.er1] st) fun a1 z2 =>
 A.un .not a1 fun a3 =>
 A.guard a3 false
 (A.eql 2 true x9 x11 fun a4 =>
 g5b11111100_10 x0 x2 x12 x13 x14 x15 a4 z2)
 (g5b11111100_10 x0 x2 x12 x13 x14 x15 (.bool true) z2)
theorem g5n111111 : g5C [1, 1, 1, 1, 1, 1] = .seq (g5C [1, 1, 1, 1, 1, 1, 0]) (g5C [1, 1, 1, 1, 1, 1, 1]) := by kernel_rfl
theorem g5n1111110 : g5C [1, 1, 1, 1, 1, 1, 0] = .seq (g5C [1, 1, 1, 1, 1, 1, 0, 0]) (g5C [1, 1, 1, 1, 1, 1, 0, 1]) := by kernel_rfl
theorem g5rg11111100 : g5C [1, 1, 1, 1, 1, 1, 0, 0] = .region 10 (rops (g5C [1, 1, 1, 1, 1, 1, 0, 0])) false := by kernel_rfl
theorem g5rg11111100l : List.range (rops (g5C [1, 1, 1, 1, 1, 1, 0, 0])).size = [0, 1, 2, 3, 4, 5, 6, 7, 8, 9] ++ [10, 11, 12, 13, 14, 15, 16, 17, 18] := by kernel_rfl
theorem g5e111111 : g5X (g5C [1, 1, 1, 1, 1, 1]) (g5kr) = fun env st => g5b111111 (env 0) (env 2) (env 8) (env 9) (env 10) (env 11) (env 12) (env 13) (env 14) (env 15) st := by
  refine Eq.trans ((g5seq g5n111111 (g5e1111111)).trans ((g5seq g5n1111110 rfl).trans (g5reg g5rg11111100 g5rg11111100l (g5e11111100_10)))) ?_
  funext env st
  kernel_rfl
noncomputable def g5b1111 (x0 : V) (x2 : V) (x8 : V) (x9 : V) (x10 : V) (x11 : V) (st : St) : Res :=
 A.ret (s16 [x0.er1] st) fun a1 z2 =>
 A.ext a1 0 fun a3 =>
 A.ext a1 1 fun a4 =>
 A.ret (s20 [x0.er1] z2) fun a5 z6 =>
 A.ext a5 0 fun a7 =>
 A.ext a5 1 fun a8 =>
 g5b111111 x0 x2 x8 x9 x10 x11 a3 a4 a7 a8 z6
theorem g5n1111 : g5C [1, 1, 1, 1] = .seq (g5C [1, 1, 1, 1, 0]) (g5C [1, 1, 1, 1, 1]) := by kernel_rfl
theorem g5n11111 : g5C [1, 1, 1, 1, 1] = .seq (g5C [1, 1, 1, 1, 1, 0]) (g5C [1, 1, 1, 1, 1, 1]) := by kernel_rfl
theorem g5e1111 : g5X (g5C [1, 1, 1, 1]) (g5kr) = fun env st => g5b1111 (env 0) (env 2) (env 8) (env 9) (env 10) (env 11) st := by
  refine Eq.trans (g5seq g5n1111 (g5seq g5n11111 (g5e111111))) ?_
  funext env st
  kernel_rfl
noncomputable def g5b11 (x0 : V) (x1 : V) (x2 : V) (st : St) : Res :=
 A.ret (s18 [x0.er1, x1.er1, x2.er1] st) fun a1 z2 =>
 A.ext a1 0 fun a3 =>
 A.ext a1 1 fun a4 =>
 A.ret (s19 [x0.er1, x1.er1, x2.er1] z2) fun a5 z6 =>
 A.ext a5 0 fun a7 =>
 A.ext a5 1 fun a8 =>
 g5b1111 x0 x2 a3 a4 a7 a8 z6
theorem g5n11 : g5C [1, 1] = .seq (g5C [1, 1, 0]) (g5C [1, 1, 1]) := by kernel_rfl
theorem g5n111 : g5C [1, 1, 1] = .seq (g5C [1, 1, 1, 0]) (g5C [1, 1, 1, 1]) := by kernel_rfl
theorem g5e11 : g5X (g5C [1, 1]) (g5kr) = fun env st => g5b11 (env 0) (env 1) (env 2) st := by
  refine Eq.trans (g5seq g5n11 (g5seq g5n111 (g5e1111))) ?_
  funext env st
  kernel_rfl
noncomputable def g5k5 : Kon := kSeq (fun env st => g5b11 (env 0) (env 1) (env 2) st) (g5kr)
noncomputable def g5k6 : Kon := kBlk 0 (g5k5)
noncomputable def g5b1010 : Nat → V → V → V → V → St → Res
| 0, _, _, _, _, _ => none
| n + 1, x0, x1, x2, x7, st =>
 A.lenL x2 fun a1 =>
 A.bin .lss x7 a1 fun a2 =>
 A.cond a2
 (A.iaddr 1 x2 x7 fun a3 =>
 A.load false 1 a3 st fun a4 z5 =>
 A.lenS a4 fun a6 =>
 A.bin .gtr a6 (.int .i64 4096) fun a7 =>
 A.guard a7 false
 (A.bin .gtr x7 (.int .i64 40) fun a8 =>
 A.cond a8
 (A.ret (s11 [] z5) fun a9 z10 =>
 some (.ret a9.er1, z10))
 (A.bin .add x7 (.int .i64 1) fun a11 =>
 (g5b1010 n) x0 x1 x2 a11 z5))
 (A.ret (s11 [] z5) fun a12 z13 =>
 some (.ret a12.er1, z13)))
 (g5b11 x0 x1 x2 st)
theorem g5n1010 : g5C [1, 0, 1, 0] = .loop (g5C [1, 0, 1, 0, 0]) := by kernel_rfl
noncomputable def g5k7 (L1010 : V → V → V → V → St → Res) : Kon := kSeq (fun env st => L1010 (env 0) (env 1) (env 2) (env 7) st) (g5k6)
theorem g5e1010 : g5X (g5C [1, 0, 1, 0]) (g5k6) = fun env st => g5b1010 big (env 0) (env 1) (env 2) (env 7) st := by
  have key : ∀ n, aloop (g5X (g5C [1, 0, 1, 0, 0])) (g5k6) n = fun env st => g5b1010 n (env 0) (env 1) (env 2) (env 7) st := by
    intro n
    induction n with
    | zero => rfl
    | succ n ih =>
      have h : aloop (g5X (g5C [1, 0, 1, 0, 0])) (g5k6) (n + 1) = g5X (g5C [1, 0, 1, 0, 0]) (kSeq (aloop (g5X (g5C [1, 0, 1, 0, 0])) (g5k6) n) (g5k6)) := rfl
      rw [h, ih]
      refine Eq.trans (Eq.refl _) ?_
      funext env st
      kernel_rfl
  exact (g5loop g5n1010).trans (key big)
noncomputable def f5 (x0 : V) (x1 : V) (x2 : V) (st : St) : Res :=
 g5b1010 big x0 x1 x2 (.int .i64 0) st
theorem g5nr : g5C [] = .seq (g5C [0]) (g5C [1]) := by kernel_rfl
theorem g5n1 : g5C [1] = .seq (g5C [1, 0]) (g5C [1, 1]) := by kernel_rfl
theorem g5n10 : g5C [1, 0] = .seq (g5C [1, 0, 0]) (g5C [1, 0, 1]) := by kernel_rfl
theorem g5n101 : g5C [1, 0, 1] = .block 0 (g5C [1, 0, 1, 0]) := by kernel_rfl
theorem g5er (env : Env) (st : St) : g5X (g5C []) g5kr env st = f5 (env 0) (env 1) (env 2) st := by
  rw [(g5seq g5nr ((g5seq g5n1 (g5e11)).trans (g5seq g5n10 ((g5blk g5n101).trans (g5e1010)))))]
  kernel_rfl
theorem s5_eq (x0 : V) (x1 : V) (x2 : V) (st : St) : s5 [x0, x1, x2] st = f5 x0 x1 x2 st := by
  have h : afn Try.prog g5mu g5T big (areg Try.prog g5mu g5T) 5 [x0, x1, x2] st = g5X (g5C []) g5kr (fun t => [x0, x1, x2].getD t (.tup [])) st := by kernel_rfl
  rw [s5, sealF_eq]
  exact h.trans (g5er _ st)
/-! sinew/sinewlaw13.ShareMeets -/
def g6mu : Nat → Bool := fun _ => false
noncomputable def g6T : Tbl := tget [(11, s11), (16, s16), (18, s18)]
theorem g6t : SimT Try.prog g6T := simT_cons sim11 ( simT_cons sim16 ( simT_cons sim18 (simT_nil)))
noncomputable def s6 : Fn := sealF (afn Try.prog g6mu g6T big (areg Try.prog g6mu g6T) 6)
theorem sim6 : Sim Try.prog 6 s6 := (afn_sim g6t (fun m => areg_sound g6t hmix m) 6 (by kernel_rfl)).sealed
noncomputable def g6C (p : List Nat) : Code := sub (match Try.f6.body with | some c => c | none => .skip) p
noncomputable def g6X (c : Code) (K : Kon) : Env → St → Res := aexec Try.prog g6mu g6T big 166 (areg Try.prog g6mu g6T 166) c K
noncomputable def g6kr : Kon := aresK Try.prog Try.f6.results.toList
theorem g6reg {c : Code} {K : Kon} {G : Env → St → Res} {id : Nat} {ops : Array Oper} {l1 l2 : List Nat} (hc : c = .region id ops false) (hl : List.range ops.size = l1 ++ l2) (h : (fun env st => aops Try.prog g6mu g6T 166 ops l2 env st (K .normal)) = G) : g6X c K = fun env st => aops Try.prog g6mu g6T 166 ops l1 env st G := reg_cut hc hl h
theorem g6seq {c x y : Code} {K : Kon} {G : Env → St → Res} (hc : c = .seq x y) (hy : g6X y K = G) : g6X c K = g6X x (kSeq G K) := seq_cut hc hy
theorem g6blk {c x : Code} {K : Kon} {i : Nat} (hc : c = .block i x) : g6X c K = g6X x (kBlk i K) := blk_cut hc
theorem g6loop {c x : Code} {K : Kon} (hc : c = .loop x) : g6X c K = aloop (g6X x) K big := loop_cut hc
theorem g6cond {c x y : Code} {K : Kon} {v : Operand} {F G : Env → St → Res} (hc : c = .cond v x y) (hx : g6X x K = F) (hy : g6X y K = G) : g6X c K = condF v F G := cond_cut hc hx hy
noncomputable def g6k0 : Kon := kSeq (g6X (g6C [1, 1, 1, 1, 1, 1, 1, 1, 1, 1, 1, 1, 1, 1, 1]) (g6kr)) (g6kr)
noncomputable def g6b111111111111110_9 (x20 : V) (x160 : V) (st : St) : Res :=
 A.guard x160 true
 (A.guard x20 true
 (A.ret (s11 [] st) fun a1 z2 =>
 some (.ret a1.er1, z2))
 (some (.ret ((.bool false) : V).er1, st)))
 (some (.ret ((.bool false) : V).er1, st))
theorem g6e111111111111110_9 : (fun env st => aops Try.prog g6mu g6T 166 (rops (g6C [1, 1, 1, 1, 1, 1, 1, 1, 1, 1, 1, 1, 1, 1, 0])) [9, 10, 11, 12, 13, 14] env st ((g6k0) .normal)) = fun env st => g6b111111111111110_9 (env 20) (env 160) st := by
  refine Eq.trans (Eq.refl _) ?_
  funext env st
  kernel_rfl
noncomputable def g6b11111111111111 (x17 : V) (x18 : V) (x19 : V) (x20 : V) (st : St) : Res :=
 A.eql 2 false x19 (.int .i64 0) fun a1 =>
 A.guard a1 true
 (A.lenL x18 fun a2 =>
 A.eql 2 false a2 x17 fun a3 =>
 g6b111111111111110_9 x20 a3 st)
 (g6b111111111111110_9 x20 (.bool false) st)
theorem g6n11111111111111 : g6C [1, 1, 1, 1, 1, 1, 1, 1, 1, 1, 1, 1, 1, 1] = .seq (g6C [1, 1, 1, 1, 1, 1, 1, 1, 1, 1, 1, 1, 1, 1, 0]) (g6C [1, 1, 1, 1, 1, 1, 1, 1, 1, 1, 1, 1, 1, 1, 1]) := by kernel_rfl
theorem g6rg111111111111110 : g6C [1, 1, 1, 1, 1, 1, 1, 1, 1, 1, 1, 1, 1, 1, 0] = .region 25 (rops (g6C [1, 1, 1, 1, 1, 1, 1, 1, 1, 1, 1, 1, 1, 1, 0])) false := by kernel_rfl
theorem g6rg111111111111110l : List.range (rops (g6C [1, 1, 1, 1, 1, 1, 1, 1, 1, 1, 1, 1, 1, 1, 0])).size = [0, 1, 2, 3, 4, 5, 6, 7, 8] ++ [9, 10, 11, 12, 13, 14] := by kernel_rfl
theorem g6e11111111111111 : g6X (g6C [1, 1, 1, 1, 1, 1, 1, 1, 1, 1, 1, 1, 1, 1]) (g6kr) = fun env st => g6b11111111111111 (env 17) (env 18) (env 19) (env 20) st := by
  refine Eq.trans ((g6seq g6n11111111111111 rfl).trans (g6reg g6rg111111111111110 g6rg111111111111110l (g6e111111111111110_9))) ?_
  funext env st
  kernel_rfl
noncomputable def g6k1 : Kon := kSeq (fun env st => g6b11111111111111 (env 17) (env 18) (env 19) (env 20) st) (g6kr)
noncomputable def g6k2 : Kon := kBlk 2 (g6k1)
noncomputable def g6b1111111111111010 : Nat → V → V → V → V → V → V → St → Res
| 0, _, _, _, _, _, _, _ => none
| n + 1, x11, x17, x18, x19, x20, x21, st =>
 A.lenL x18 fun a1 =>
 A.bin .lss x21 a1 fun a2 =>
 A.cond a2
 (A.guard x20 false
 (A.iaddr 1 x18 x21 fun a3 =>
 A.load false 1 a3 st fun a4 _ =>
 A.iaddr 1 x11 (.int .i64 0) fun a5 =>
 A.load false 1 a5 st fun a6 _ =>
 A.eql 2 false a4 a6 fun a7 =>
 A.bin .add x21 (.int .i64 1) fun a8 =>
 (g6b1111111111111010 n) x11 x17 x18 x19 a7 a8 st)
 (A.bin .add x21 (.int .i64 1) fun a9 =>
 (g6b1111111111111010 n) x11 x17 x18 x19 (.bool true) a9 st))
 (g6b11111111111111 x17 x18 x19 x20 st)
theorem g6n1111111111111010 : g6C [1, 1, 1, 1, 1, 1, 1, 1, 1, 1, 1, 1, 1, 0, 1, 0] = .loop (g6C [1, 1, 1, 1, 1, 1, 1, 1, 1, 1, 1, 1, 1, 0, 1, 0, 0]) := by kernel_rfl
noncomputable def g6k3 (L1111111111111010 : V → V → V → V → V → V → St → Res) : Kon := kSeq (fun env st => L1111111111111010 (env 11) (env 17) (env 18) (env 19) (env 20) (env 21) st) (g6k2)
theorem g6e1111111111111010 : g6X (g6C [1, 1, 1, 1, 1, 1, 1, 1, 1, 1, 1, 1, 1, 0, 1, 0]) (g6k2) = fun env st => g6b1111111111111010 big (env 11) (env 17) (env 18) (env 19) (env 20) (env 21) st := by
  have key : ∀ n, aloop (g6X (g6C [1, 1, 1, 1, 1, 1, 1, 1, 1, 1, 1, 1, 1, 0, 1, 0, 0])) (g6k2) n = fun env st => g6b1111111111111010 n (env 11) (env 17) (env 18) (env 19) (env 20) (env 21) st := by
    intro n
    induction n with
    | zero => rfl
    | succ n ih =>
      have h : aloop (g6X (g6C [1, 1, 1, 1, 1, 1, 1, 1, 1, 1, 1, 1, 1, 0, 1, 0, 0])) (g6k2) (n + 1) = g6X (g6C [1, 1, 1, 1, 1, 1, 1, 1, 1, 1, 1, 1, 1, 0, 1, 0, 0]) (kSeq (aloop (g6X (g6C [1, 1, 1, 1, 1, 1, 1, 1, 1, 1, 1, 1, 1, 0, 1, 0, 0])) (g6k2) n) (g6k2)) := rfl
      rw [h, ih]
      refine Eq.trans (Eq.refl _) ?_
      funext env st
      kernel_rfl
  exact (g6loop g6n1111111111111010).trans (key big)
noncomputable def g6b111111111111101 (x11 : V) (x17 : V) (x18 : V) (x19 : V) (x20 : V) (x21 : V) (st : St) : Res :=
 g6b1111111111111010 big x11 x17 x18 x19 x20 x21 st
theorem g6n111111111111101 : g6C [1, 1, 1, 1, 1, 1, 1, 1, 1, 1, 1, 1, 1, 0, 1] = .block 2 (g6C [1, 1, 1, 1, 1, 1, 1, 1, 1, 1, 1, 1, 1, 0, 1, 0]) := by kernel_rfl
theorem g6e111111111111101 : g6X (g6C [1, 1, 1, 1, 1, 1, 1, 1, 1, 1, 1, 1, 1, 0, 1]) (g6k1) = fun env st => g6b111111111111101 (env 11) (env 17) (env 18) (env 19) (env 20) (env 21) st := by
  refine Eq.trans ((g6blk g6n111111111111101).trans (g6e1111111111111010)) ?_
  funext env st
  kernel_rfl
noncomputable def g6b11111111111 (x0 : V) (x11 : V) (x15 : V) (x16 : V) (x17 : V) (st : St) : Res :=
 A.ret (s18 [x0.er1, x15.er1, x16.er1] st) fun a1 z2 =>
 A.ext a1 0 fun a3 =>
 A.ext a1 1 fun a4 =>
 g6b111111111111101 x11 x17 a3 a4 (.bool false) (.int .i64 0) z2
theorem g6n11111111111 : g6C [1, 1, 1, 1, 1, 1, 1, 1, 1, 1, 1] = .seq (g6C [1, 1, 1, 1, 1, 1, 1, 1, 1, 1, 1, 0]) (g6C [1, 1, 1, 1, 1, 1, 1, 1, 1, 1, 1, 1]) := by kernel_rfl
theorem g6n111111111111 : g6C [1, 1, 1, 1, 1, 1, 1, 1, 1, 1, 1, 1] = .seq (g6C [1, 1, 1, 1, 1, 1, 1, 1, 1, 1, 1, 1, 0]) (g6C [1, 1, 1, 1, 1, 1, 1, 1, 1, 1, 1, 1, 1]) := by kernel_rfl
theorem g6n1111111111111 : g6C [1, 1, 1, 1, 1, 1, 1, 1, 1, 1, 1, 1, 1] = .seq (g6C [1, 1, 1, 1, 1, 1, 1, 1, 1, 1, 1, 1, 1, 0]) (g6C [1, 1, 1, 1, 1, 1, 1, 1, 1, 1, 1, 1, 1, 1]) := by kernel_rfl
theorem g6n11111111111110 : g6C [1, 1, 1, 1, 1, 1, 1, 1, 1, 1, 1, 1, 1, 0] = .seq (g6C [1, 1, 1, 1, 1, 1, 1, 1, 1, 1, 1, 1, 1, 0, 0]) (g6C [1, 1, 1, 1, 1, 1, 1, 1, 1, 1, 1, 1, 1, 0, 1]) := by kernel_rfl
theorem g6e11111111111 : g6X (g6C [1, 1, 1, 1, 1, 1, 1, 1, 1, 1, 1]) (g6kr) = fun env st => g6b11111111111 (env 0) (env 11) (env 15) (env 16) (env 17) st := by
  refine Eq.trans (g6seq g6n11111111111 (g6seq g6n111111111111 ((g6seq g6n1111111111111 (g6e11111111111111)).trans (g6seq g6n11111111111110 (g6e111111111111101))))) ?_
  funext env st
  kernel_rfl
noncomputable def g6b111111111 (x0 : V) (x7 : V) (x11 : V) (x13 : V) (x14 : V) (x15 : V) (x16 : V) (st : St) : Res :=
 A.iaddr 1 x0 x13 fun a1 =>
 A.load false 1 a1 st fun a2 z3 =>
 A.bin .quo x7 a2 fun a4 =>
 A.eql 2 true x13 x14 fun a5 =>
 A.cond a5
 (A.iaddr 1 x0 x14 fun a6 =>
 A.load false 1 a6 z3 fun a7 z8 =>
 A.bin .quo a4 a7 fun a9 =>
 g6b11111111111 x0 x11 x15 x16 a9 z8)
 (g6b11111111111 x0 x11 x15 x16 a4 z3)
theorem g6n111111111 : g6C [1, 1, 1, 1, 1, 1, 1, 1, 1] = .seq (g6C [1, 1, 1, 1, 1, 1, 1, 1, 1, 0]) (g6C [1, 1, 1, 1, 1, 1, 1, 1, 1, 1]) := by kernel_rfl
theorem g6n1111111111 : g6C [1, 1, 1, 1, 1, 1, 1, 1, 1, 1] = .seq (g6C [1, 1, 1, 1, 1, 1, 1, 1, 1, 1, 0]) (g6C [1, 1, 1, 1, 1, 1, 1, 1, 1, 1, 1]) := by kernel_rfl
theorem g6e111111111 : g6X (g6C [1, 1, 1, 1, 1, 1, 1, 1, 1]) (g6kr) = fun env st => g6b111111111 (env 0) (env 7) (env 11) (env 13) (env 14) (env 15) (env 16) st := by
  refine Eq.trans (g6seq g6n111111111 (g6seq g6n1111111111 (g6e11111111111))) ?_
  funext env st
  kernel_rfl
noncomputable def g6b11111111 (x0 : V) (x1 : V) (x7 : V) (x11 : V) (x13 : V) (x14 : V) (st : St) : Res :=
 A.bslice 1 (.int .i64 0) 2 [(0, x13), (1, x14)] fun a1 =>
 A.iaddr 1 x1 x13 fun a2 =>
 A.load false 1 a2 st fun a3 _ =>
 A.iaddr 1 x1 x14 fun a4 =>
 A.load false 1 a4 st fun a5 _ =>
 A.bslice 1 (.str []) 2 [(0, a3), (1, a5)] fun a6 =>
 g6b111111111 x0 x7 x11 x13 x14 a1 a6 st
theorem g6n11111111 : g6C [1, 1, 1, 1, 1, 1, 1, 1] = .seq (g6C [1, 1, 1, 1, 1, 1, 1, 1, 0]) (g6C [1, 1, 1, 1, 1, 1, 1, 1, 1]) := by kernel_rfl
theorem g6e11111111 : g6X (g6C [1, 1, 1, 1, 1, 1, 1, 1]) (g6kr) = fun env st => g6b11111111 (env 0) (env 1) (env 7) (env 11) (env 13) (env 14) st := by
  refine Eq.trans (g6seq g6n11111111 (g6e111111111)) ?_
  funext env st
  kernel_rfl
noncomputable def g6b1111111 (x0 : V) (x1 : V) (x5 : V) (x7 : V) (x11 : V) (st : St) : Res :=
 A.iaddrA 2 1 x5 (.int .i64 0) fun a1 =>
 A.load false 1 a1 st fun a2 _ =>
 A.bin .and a2 (.int .i64 65535) fun a3 =>
 A.lenL x0 fun a4 =>
 A.bin .rem a3 a4 fun a5 =>
 A.iaddrA 2 1 x5 (.int .i64 1) fun a6 =>
 A.load false 1 a6 st fun a7 _ =>
 A.bin .and a7 (.int .i64 65535) fun a8 =>
 A.lenL x0 fun a9 =>
 A.bin .rem a8 a9 fun a10 =>
 g6b11111111 x0 x1 x7 x11 a5 a10 st
theorem g6n1111111 : g6C [1, 1, 1, 1, 1, 1, 1] = .seq (g6C [1, 1, 1, 1, 1, 1, 1, 0]) (g6C [1, 1, 1, 1, 1, 1, 1, 1]) := by kernel_rfl
theorem g6e1111111 : g6X (g6C [1, 1, 1, 1, 1, 1, 1]) (g6kr) = fun env st => g6b1111111 (env 0) (env 1) (env 5) (env 7) (env 11) st := by
  refine Eq.trans (g6seq g6n1111111 (g6e11111111)) ?_
  funext env st
  kernel_rfl
noncomputable def g6k4 : Kon := kSeq (fun env st => g6b1111111 (env 0) (env 1) (env 5) (env 7) (env 11) st) (g6kr)
noncomputable def g6k5 : Kon := kSeq (g6X (g6C [1, 1, 1, 1, 1, 1, 0, 1]) (g6k4)) (g6k4)
noncomputable def g6b11111100_14 (x0 : V) (x1 : V) (x5 : V) (x7 : V) (x11 : V) (x82 : V) (st : St) : Res :=
 A.guard x82 false
 (A.iaddr 1 x11 (.int .i64 0) fun a1 =>
 A.load false 1 a1 st fun a2 z3 =>
 A.bin .geq a2 x7 fun a4 =>
 A.cond a4
 (some (.ret ((.bool false) : V).er1, z3))
 (g6b1111111 x0 x1 x5 x7 x11 z3))
 (some (.ret ((.bool false) : V).er1, st))
theorem g6e11111100_14 : (fun env st => aops Try.prog g6mu g6T 166 (rops (g6C [1, 1, 1, 1, 1, 1, 0, 0])) [14, 15, 16, 17, 18, 19] env st ((g6k5) .normal)) = fun env st => g6b11111100_14 (env 0) (env 1) (env 5) (env 7) (env 11) (env 82) st := by
  refine Eq.trans (Eq.refl _) ?_
  funext env st
  kernel_rfl
noncomputable def g6b11111100_8 (x0 : V) (x1 : V) (x5 : V) (x7 : V) (x11 : V) (x76 : V) (st : St) : Res :=
 A.guard x76 false
 (A.iaddr 1 x11 (.int .i64 0) fun a1 =>
 A.load false 1 a1 st fun a2 z3 =>
 A.bin .lss a2 (.int .i64 0) fun a4 =>
 g6b11111100_14 x0 x1 x5 x7 x11 a4 z3)
 (g6b11111100_14 x0 x1 x5 x7 x11 (.bool true) st)
theorem g6e11111100_8 : (fun env st => aops Try.prog g6mu g6T 166 (rops (g6C [1, 1, 1, 1, 1, 1, 0, 0])) [8, 9, 10, 11, 12, 13, 14, 15, 16, 17, 18, 19] env st ((g6k5) .normal)) = fun env st => g6b11111100_8 (env 0) (env 1) (env 5) (env 7) (env 11) (env 76) st := by
  refine Eq.trans (ops_cut (l1 := [8, 9, 10, 11, 12, 13]) (l2 := [14, 15, 16, 17, 18, 19]) (g6e11111100_14)) ?_
  funext env st
  kernel_rfl
noncomputable def g6b111111 (x0 : V) (x1 : V) (x5 : V) (x7 : V) (x11 : V) (x12 : V) (st : St) : Res :=
 A.eql 2 true x12 (.int .i64 0) fun a1 =>
 A.guard a1 false
 (A.lenL x11 fun a2 =>
 A.eql 2 true a2 (.int .i64 1) fun a3 =>
 g6b11111100_8 x0 x1 x5 x7 x11 a3 st)
 (g6b11111100_8 x0 x1 x5 x7 x11 (.bool true) st)
theorem g6n111111 : g6C [1, 1, 1, 1, 1, 1] = .seq (g6C [1, 1, 1, 1, 1, 1, 0]) (g6C [1, 1, 1, 1, 1, 1, 1]) := by kernel_rfl
theorem g6n1111110 : g6C [1, 1, 1, 1, 1, 1, 0] = .seq (g6C [1, 1, 1, 1, 1, 1, 0, 0]) (g6C [1, 1, 1, 1, 1, 1, 0, 1]) := by kernel_rfl
theorem g6rg11111100 : g6C [1, 1, 1, 1, 1, 1, 0, 0] = .region 12 (rops (g6C [1, 1, 1, 1, 1, 1, 0, 0])) false := by kernel_rfl
theorem g6rg11111100l : List.range (rops (g6C [1, 1, 1, 1, 1, 1, 0, 0])).size = [0, 1, 2, 3, 4, 5, 6, 7] ++ [8, 9, 10, 11, 12, 13, 14, 15, 16, 17, 18, 19] := by kernel_rfl
theorem g6e111111 : g6X (g6C [1, 1, 1, 1, 1, 1]) (g6kr) = fun env st => g6b111111 (env 0) (env 1) (env 5) (env 7) (env 11) (env 12) st := by
  refine Eq.trans ((g6seq g6n111111 (g6e1111111)).trans ((g6seq g6n1111110 rfl).trans (g6reg g6rg11111100 g6rg11111100l (g6e11111100_8)))) ?_
  funext env st
  kernel_rfl
noncomputable def g6b11111 (x0 : V) (x1 : V) (x5 : V) (x7 : V) (x9 : V) (st : St) : Res :=
 A.lenL x0 fun a1 =>
 A.slice 1 x1 none (some a1) none fun a2 =>
 A.ret (s18 [x0.er1, x9.er1, a2.er1] st) fun a3 z4 =>
 A.ext a3 0 fun a5 =>
 A.ext a3 1 fun a6 =>
 g6b111111 x0 x1 x5 x7 a5 a6 z4
theorem g6n11111 : g6C [1, 1, 1, 1, 1] = .seq (g6C [1, 1, 1, 1, 1, 0]) (g6C [1, 1, 1, 1, 1, 1]) := by kernel_rfl
theorem g6e11111 : g6X (g6C [1, 1, 1, 1, 1]) (g6kr) = fun env st => g6b11111 (env 0) (env 1) (env 5) (env 7) (env 9) st := by
  refine Eq.trans (g6seq g6n11111 (g6e111111)) ?_
  funext env st
  kernel_rfl
noncomputable def g6k6 : Kon := kSeq (fun env st => g6b11111 (env 0) (env 1) (env 5) (env 7) (env 9) st) (g6kr)
noncomputable def g6k7 : Kon := kBlk 0 (g6k6)
noncomputable def g6k8 (L1111010 : V → V → V → V → V → V → St → Res) : Kon := kSeq (fun env st => L1111010 (env 0) (env 1) (env 5) (env 7) (env 9) (env 10) st) (g6k7)
noncomputable def g6k9 (L1111010 : V → V → V → V → V → V → St → Res) : Kon := kSeq (g6X (g6C [1, 1, 1, 1, 0, 1, 0, 0, 1, 1]) (g6k8 L1111010)) (g6k8 L1111010)
noncomputable def g6k10 (L1111010 : V → V → V → V → V → V → St → Res) : Kon := kBlk 1 (g6k9 L1111010)
noncomputable def g6b111101001001 (L1111010 : V → V → V → V → V → V → St → Res) (x0 : V) (x1 : V) (x5 : V) (x7 : V) (x9 : V) (x10 : V) (st : St) : Res :=
 A.bslice 1 (.int .i64 0) 1 [(0, x10)] fun a1 =>
 A.app 1 x9 (elemsOf 5 1 a1 st) st fun a2 z3 =>
 A.bin .add x10 (.int .i64 1) fun a4 =>
 L1111010 x0 x1 x5 x7 a2 a4 z3
theorem g6e111101001001 (L1111010 : V → V → V → V → V → V → St → Res) : g6X (g6C [1, 1, 1, 1, 0, 1, 0, 0, 1, 0, 0, 1]) (g6k10 L1111010) = fun env st => g6b111101001001 L1111010 (env 0) (env 1) (env 5) (env 7) (env 9) (env 10) st := by
  refine Eq.trans (Eq.refl (g6X (g6C [1, 1, 1, 1, 0, 1, 0, 0, 1, 0, 0, 1]) (g6k10 L1111010))) ?_
  funext env st
  kernel_rfl
noncomputable def g6b1111010 : Nat → V → V → V → V → V → V → St → Res
| 0, _, _, _, _, _, _, _ => none
| n + 1, x0, x1, x5, x7, x9, x10, st =>
 A.lenL x0 fun a1 =>
 A.bin .lss x10 a1 fun a2 =>
 A.cond a2
 (A.iaddr 1 x1 x10 fun a3 =>
 A.load false 1 a3 st fun a4 z5 =>
 A.lenS a4 fun a6 =>
 A.bin .gtr a6 (.int .i64 4096) fun a7 =>
 A.cond a7
 (A.ret (s11 [] z5) fun a8 z9 =>
 some (.ret a8.er1, z9))
 (g6b111101001001 (g6b1111010 n) x0 x1 x5 x7 x9 x10 z5))
 (g6b11111 x0 x1 x5 x7 x9 st)
theorem g6n1111010 : g6C [1, 1, 1, 1, 0, 1, 0] = .loop (g6C [1, 1, 1, 1, 0, 1, 0, 0]) := by kernel_rfl
theorem g6n11110100 : g6C [1, 1, 1, 1, 0, 1, 0, 0] = .seq (g6C [1, 1, 1, 1, 0, 1, 0, 0, 0]) (g6C [1, 1, 1, 1, 0, 1, 0, 0, 1]) := by kernel_rfl
theorem g6n111101001 : g6C [1, 1, 1, 1, 0, 1, 0, 0, 1] = .seq (g6C [1, 1, 1, 1, 0, 1, 0, 0, 1, 0]) (g6C [1, 1, 1, 1, 0, 1, 0, 0, 1, 1]) := by kernel_rfl
theorem g6n1111010010 : g6C [1, 1, 1, 1, 0, 1, 0, 0, 1, 0] = .block 1 (g6C [1, 1, 1, 1, 0, 1, 0, 0, 1, 0, 0]) := by kernel_rfl
theorem g6n11110100100 : g6C [1, 1, 1, 1, 0, 1, 0, 0, 1, 0, 0] = .seq (g6C [1, 1, 1, 1, 0, 1, 0, 0, 1, 0, 0, 0]) (g6C [1, 1, 1, 1, 0, 1, 0, 0, 1, 0, 0, 1]) := by kernel_rfl
theorem g6e1111010 : g6X (g6C [1, 1, 1, 1, 0, 1, 0]) (g6k7) = fun env st => g6b1111010 big (env 0) (env 1) (env 5) (env 7) (env 9) (env 10) st := by
  have key : ∀ n, aloop (g6X (g6C [1, 1, 1, 1, 0, 1, 0, 0])) (g6k7) n = fun env st => g6b1111010 n (env 0) (env 1) (env 5) (env 7) (env 9) (env 10) st := by
    intro n
    induction n with
    | zero => rfl
    | succ n ih =>
      have h : aloop (g6X (g6C [1, 1, 1, 1, 0, 1, 0, 0])) (g6k7) (n + 1) = g6X (g6C [1, 1, 1, 1, 0, 1, 0, 0]) (kSeq (aloop (g6X (g6C [1, 1, 1, 1, 0, 1, 0, 0])) (g6k7) n) (g6k7)) := rfl
      rw [h, ih]
      refine Eq.trans (g6seq g6n11110100 ((g6seq g6n111101001 rfl).trans ((g6blk g6n1111010010).trans (g6seq g6n11110100100 (g6e111101001001 (g6b1111010 n)))))) ?_
      funext env st
      kernel_rfl
  exact (g6loop g6n1111010).trans (key big)
noncomputable def g6b111 (x0 : V) (x1 : V) (x5 : V) (x7 : V) (st : St) : Res :=
 g6b1111010 big x0 x1 x5 x7 (.lst [] 1) (.int .i64 0) st
theorem g6n111 : g6C [1, 1, 1] = .seq (g6C [1, 1, 1, 0]) (g6C [1, 1, 1, 1]) := by kernel_rfl
theorem g6n1111 : g6C [1, 1, 1, 1] = .seq (g6C [1, 1, 1, 1, 0]) (g6C [1, 1, 1, 1, 1]) := by kernel_rfl
theorem g6n11110 : g6C [1, 1, 1, 1, 0] = .seq (g6C [1, 1, 1, 1, 0, 0]) (g6C [1, 1, 1, 1, 0, 1]) := by kernel_rfl
theorem g6n111101 : g6C [1, 1, 1, 1, 0, 1] = .block 0 (g6C [1, 1, 1, 1, 0, 1, 0]) := by kernel_rfl
theorem g6e111 : g6X (g6C [1, 1, 1]) (g6kr) = fun env st => g6b111 (env 0) (env 1) (env 5) (env 7) st := by
  refine Eq.trans (g6seq g6n111 ((g6seq g6n1111 (g6e11111)).trans (g6seq g6n11110 ((g6blk g6n111101).trans (g6e1111010))))) ?_
  funext env st
  kernel_rfl
noncomputable def f6 (x0 : V) (x1 : V) (x2 : V) (st : St) : Res :=
 A.box x2 st fun a1 z2 =>
 A.ret (s16 [x0.er1] z2) fun a3 z4 =>
 A.ext a3 0 fun a5 =>
 A.ext a3 1 fun a6 =>
 A.eql 2 true a6 (.int .i64 0) fun a7 =>
 A.guard a7 false
 (A.lenL x0 fun a8 =>
 A.eql 2 false a8 (.int .i64 0) fun a9 =>
 A.guard a9 false
 (A.lenL x1 fun a10 =>
 A.lenL x0 fun a11 =>
 A.bin .lss a10 a11 fun a12 =>
 A.cond a12
 (A.ret (s11 [] z4) fun a13 z14 =>
 some (.ret a13.er1, z14))
 (g6b111 x0 x1 a1 a5 z4))
 (A.ret (s11 [] z4) fun a15 z16 =>
 some (.ret a15.er1, z16)))
 (A.ret (s11 [] z4) fun a17 z18 =>
 some (.ret a17.er1, z18))
theorem g6nr : g6C [] = .seq (g6C [0]) (g6C [1]) := by kernel_rfl
theorem g6n1 : g6C [1] = .seq (g6C [1, 0]) (g6C [1, 1]) := by kernel_rfl
theorem g6n11 : g6C [1, 1] = .seq (g6C [1, 1, 0]) (g6C [1, 1, 1]) := by kernel_rfl
theorem g6er (env : Env) (st : St) : g6X (g6C []) g6kr env st = f6 (env 0) (env 1) (env 2) st := by
  rw [(g6seq g6nr (g6seq g6n1 (g6seq g6n11 (g6e111))))]
  kernel_rfl
theorem s6_eq (x0 : V) (x1 : V) (x2 : V) (st : St) : s6 [x0, x1, x2] st = f6 x0 x1 x2 st := by
  have h : afn Try.prog g6mu g6T big (areg Try.prog g6mu g6T) 6 [x0, x1, x2] st = g6X (g6C []) g6kr (fun t => [x0, x1, x2].getD t (.tup [])) st := by kernel_rfl
  rw [s6, sealF_eq]
  exact h.trans (g6er _ st)
/-! sinew/sinewlaw13.SharePart -/
def g7mu : Nat → Bool := fun _ => false
noncomputable def g7T : Tbl := tget [(11, s11), (21, s21)]
theorem g7t : SimT Try.prog g7T := simT_cons sim11 ( simT_cons sim21 (simT_nil))
noncomputable def s7 : Fn := sealF (afn Try.prog g7mu g7T big (areg Try.prog g7mu g7T) 7)
theorem sim7 : Sim Try.prog 7 s7 := (afn_sim g7t (fun m => areg_sound g7t hmix m) 7 (by kernel_rfl)).sealed
noncomputable def g7C (p : List Nat) : Code := sub (match Try.f7.body with | some c => c | none => .skip) p
noncomputable def g7X (c : Code) (K : Kon) : Env → St → Res := aexec Try.prog g7mu g7T big 50 (areg Try.prog g7mu g7T 50) c K
noncomputable def g7kr : Kon := aresK Try.prog Try.f7.results.toList
theorem g7reg {c : Code} {K : Kon} {G : Env → St → Res} {id : Nat} {ops : Array Oper} {l1 l2 : List Nat} (hc : c = .region id ops false) (hl : List.range ops.size = l1 ++ l2) (h : (fun env st => aops Try.prog g7mu g7T 50 ops l2 env st (K .normal)) = G) : g7X c K = fun env st => aops Try.prog g7mu g7T 50 ops l1 env st G := reg_cut hc hl h
theorem g7seq {c x y : Code} {K : Kon} {G : Env → St → Res} (hc : c = .seq x y) (hy : g7X y K = G) : g7X c K = g7X x (kSeq G K) := seq_cut hc hy
theorem g7blk {c x : Code} {K : Kon} {i : Nat} (hc : c = .block i x) : g7X c K = g7X x (kBlk i K) := blk_cut hc
theorem g7loop {c x : Code} {K : Kon} (hc : c = .loop x) : g7X c K = aloop (g7X x) K big := loop_cut hc
theorem g7cond {c x y : Code} {K : Kon} {v : Operand} {F G : Env → St → Res} (hc : c = .cond v x y) (hx : g7X x K = F) (hy : g7X y K = G) : g7X c K = condF v F G := cond_cut hc hx hy
noncomputable def g7k0 : Kon := kSeq (g7X (g7C [1, 1, 1, 1, 1]) (g7kr)) (g7kr)
noncomputable def g7b11110_31 (x47 : V) (st : St) : Res :=
 A.guard x47 true
 (A.ret (s11 [] st) fun a1 z2 =>
 some (.ret a1.er1, z2))
 (some (.ret ((.bool false) : V).er1, st))
theorem g7e11110_31 : (fun env st => aops Try.prog g7mu g7T 50 (rops (g7C [1, 1, 1, 1, 0])) [31, 32, 33] env st ((g7k0) .normal)) = fun env st => g7b11110_31 (env 47) st := by
  refine Eq.trans (Eq.refl _) ?_
  funext env st
  kernel_rfl
noncomputable def g7b11110_18 (x0 : V) (x34 : V) (st : St) : Res :=
 A.guard x34 true
 (A.ret (s21 [x0.er1, ((.int .i64 0) : V).er1] st) fun a1 z2 =>
 A.eql 2 false a1 (.int .i64 0) fun a3 =>
 A.guard a3 true
 (A.ret (s21 [x0.er1, ((.int .i64 64) : V).er1] z2) fun a4 z5 =>
 A.bin .rem a4 (.int .i64 2) fun a6 =>
 A.ret (s21 [x0.er1, ((.int .i64 2) : V).er1] z5) fun a7 z8 =>
 A.eql 2 false a6 a7 fun a9 =>
 g7b11110_31 a9 z8)
 (g7b11110_31 (.bool false) z2))
 (g7b11110_31 (.bool false) st)
theorem g7e11110_18 : (fun env st => aops Try.prog g7mu g7T 50 (rops (g7C [1, 1, 1, 1, 0])) [18, 19, 20, 21, 22, 23, 24, 25, 26, 27, 28, 29, 30, 31, 32, 33] env st ((g7k0) .normal)) = fun env st => g7b11110_18 (env 0) (env 34) st := by
  refine Eq.trans (ops_cut (l1 := [18, 19, 20, 21, 22, 23, 24, 25, 26, 27, 28, 29, 30]) (l2 := [31, 32, 33]) (g7e11110_31)) ?_
  funext env st
  kernel_rfl
noncomputable def g7b11110_8 (x0 : V) (x24 : V) (st : St) : Res :=
 A.guard x24 true
 (A.ret (s21 [x0.er1, ((.int .i64 1) : V).er1] st) fun a1 z2 =>
 A.eql 2 false a1 (.int .i64 0) fun a3 =>
 A.guard a3 true
 (A.ret (s21 [x0.er1, ((.int .i64 65) : V).er1] z2) fun a4 z5 =>
 A.eql 2 false a4 (.int .i64 0) fun a6 =>
 g7b11110_18 x0 a6 z5)
 (g7b11110_18 x0 (.bool false) z2))
 (g7b11110_18 x0 (.bool false) st)
theorem g7e11110_8 : (fun env st => aops Try.prog g7mu g7T 50 (rops (g7C [1, 1, 1, 1, 0])) [8, 9, 10, 11, 12, 13, 14, 15, 16, 17, 18, 19, 20, 21, 22, 23, 24, 25, 26, 27, 28, 29, 30, 31, 32, 33] env st ((g7k0) .normal)) = fun env st => g7b11110_8 (env 0) (env 24) st := by
  refine Eq.trans (ops_cut (l1 := [8, 9, 10, 11, 12, 13, 14, 15, 16, 17]) (l2 := [18, 19, 20, 21, 22, 23, 24, 25, 26, 27, 28, 29, 30, 31, 32, 33]) (g7e11110_18)) ?_
  funext env st
  kernel_rfl
noncomputable def g7b1111 (x0 : V) (x5 : V) (x6 : V) (st : St) : Res :=
 A.bin .geq x6 (.int .i64 0) fun a1 =>
 A.guard a1 true
 (A.bin .lss x6 x5 fun a2 =>
 g7b11110_8 x0 a2 st)
 (g7b11110_8 x0 (.bool false) st)
theorem g7n1111 : g7C [1, 1, 1, 1] = .seq (g7C [1, 1, 1, 1, 0]) (g7C [1, 1, 1, 1, 1]) := by kernel_rfl
theorem g7rg11110 : g7C [1, 1, 1, 1, 0] = .region 5 (rops (g7C [1, 1, 1, 1, 0])) false := by kernel_rfl
theorem g7rg11110l : List.range (rops (g7C [1, 1, 1, 1, 0])).size = [0, 1, 2, 3, 4, 5, 6, 7] ++ [8, 9, 10, 11, 12, 13, 14, 15, 16, 17, 18, 19, 20, 21, 22, 23, 24, 25, 26, 27, 28, 29, 30, 31, 32, 33] := by kernel_rfl
theorem g7e1111 : g7X (g7C [1, 1, 1, 1]) (g7kr) = fun env st => g7b1111 (env 0) (env 5) (env 6) st := by
  refine Eq.trans ((g7seq g7n1111 rfl).trans (g7reg g7rg11110 g7rg11110l (g7e11110_8))) ?_
  funext env st
  kernel_rfl
noncomputable def f7 (x0 : V) (x1 : V) (st : St) : Res :=
 A.lenS x0 fun a1 =>
 A.bin .gtr a1 (.int .i64 4096) fun a2 =>
 A.cond a2
 (A.ret (s11 [] st) fun a3 z4 =>
 some (.ret a3.er1, z4))
 (A.bin .and x1 (.int .i64 63) fun a5 =>
 A.bin .add (.int .i64 1) a5 fun a6 =>
 A.ret (s21 [x0.er1, a6.er1] st) fun a7 z8 =>
 g7b1111 x0 a6 a7 z8)
theorem g7nr : g7C [] = .seq (g7C [0]) (g7C [1]) := by kernel_rfl
theorem g7n1 : g7C [1] = .seq (g7C [1, 0]) (g7C [1, 1]) := by kernel_rfl
theorem g7n11 : g7C [1, 1] = .seq (g7C [1, 1, 0]) (g7C [1, 1, 1]) := by kernel_rfl
theorem g7n111 : g7C [1, 1, 1] = .seq (g7C [1, 1, 1, 0]) (g7C [1, 1, 1, 1]) := by kernel_rfl
theorem g7er (env : Env) (st : St) : g7X (g7C []) g7kr env st = f7 (env 0) (env 1) st := by
  rw [(g7seq g7nr (g7seq g7n1 (g7seq g7n11 (g7seq g7n111 (g7e1111)))))]
  kernel_rfl
theorem s7_eq (x0 : V) (x1 : V) (st : St) : s7 [x0, x1] st = f7 x0 x1 st := by
  have h : afn Try.prog g7mu g7T big (areg Try.prog g7mu g7T) 7 [x0, x1] st = g7X (g7C []) g7kr (fun t => [x0, x1].getD t (.tup [])) st := by kernel_rfl
  rw [s7, sealF_eq]
  exact h.trans (g7er _ st)
/-! sinew/sinewlaw13.ShareCell -/
def g8mu : Nat → Bool := fun _ => false
noncomputable def g8T : Tbl := tget [(11, s11), (16, s16), (18, s18), (21, s21)]
theorem g8t : SimT Try.prog g8T := simT_cons sim11 ( simT_cons sim16 ( simT_cons sim18 ( simT_cons sim21 (simT_nil))))
noncomputable def s8 : Fn := sealF (afn Try.prog g8mu g8T big (areg Try.prog g8mu g8T) 8)
theorem sim8 : Sim Try.prog 8 s8 := (afn_sim g8t (fun m => areg_sound g8t hmix m) 8 (by kernel_rfl)).sealed
noncomputable def g8C (p : List Nat) : Code := sub (match Try.f8.body with | some c => c | none => .skip) p
noncomputable def g8X (c : Code) (K : Kon) : Env → St → Res := aexec Try.prog g8mu g8T big 87 (areg Try.prog g8mu g8T 87) c K
noncomputable def g8kr : Kon := aresK Try.prog Try.f8.results.toList
theorem g8reg {c : Code} {K : Kon} {G : Env → St → Res} {id : Nat} {ops : Array Oper} {l1 l2 : List Nat} (hc : c = .region id ops false) (hl : List.range ops.size = l1 ++ l2) (h : (fun env st => aops Try.prog g8mu g8T 87 ops l2 env st (K .normal)) = G) : g8X c K = fun env st => aops Try.prog g8mu g8T 87 ops l1 env st G := reg_cut hc hl h
theorem g8seq {c x y : Code} {K : Kon} {G : Env → St → Res} (hc : c = .seq x y) (hy : g8X y K = G) : g8X c K = g8X x (kSeq G K) := seq_cut hc hy
theorem g8blk {c x : Code} {K : Kon} {i : Nat} (hc : c = .block i x) : g8X c K = g8X x (kBlk i K) := blk_cut hc
theorem g8loop {c x : Code} {K : Kon} (hc : c = .loop x) : g8X c K = aloop (g8X x) K big := loop_cut hc
theorem g8cond {c x y : Code} {K : Kon} {v : Operand} {F G : Env → St → Res} (hc : c = .cond v x y) (hx : g8X x K = F) (hy : g8X y K = G) : g8X c K = condF v F G := cond_cut hc hx hy
noncomputable def g8k0 : Kon := kSeq (g8X (g8C [1, 1, 1, 1, 1, 1, 1, 1]) (g8kr)) (g8kr)
noncomputable def g8b11111110_15 (x84 : V) (st : St) : Res :=
 A.guard x84 true
 (A.ret (s11 [] st) fun a1 z2 =>
 some (.ret a1.er1, z2))
 (some (.ret ((.bool false) : V).er1, st))
theorem g8e11111110_15 : (fun env st => aops Try.prog g8mu g8T 87 (rops (g8C [1, 1, 1, 1, 1, 1, 1, 0])) [15, 16, 17] env st ((g8k0) .normal)) = fun env st => g8b11111110_15 (env 84) st := by
  refine Eq.trans (Eq.refl _) ?_
  funext env st
  kernel_rfl
noncomputable def g8b11111110_8 (x8 : V) (x10 : V) (x77 : V) (st : St) : Res :=
 A.guard x77 true
 (A.iaddr 1 x10 (.int .i64 0) fun a1 =>
 A.load false 1 a1 st fun a2 z3 =>
 A.eql 2 false a2 x8 fun a4 =>
 g8b11111110_15 a4 z3)
 (g8b11111110_15 (.bool false) st)
theorem g8e11111110_8 : (fun env st => aops Try.prog g8mu g8T 87 (rops (g8C [1, 1, 1, 1, 1, 1, 1, 0])) [8, 9, 10, 11, 12, 13, 14, 15, 16, 17] env st ((g8k0) .normal)) = fun env st => g8b11111110_8 (env 8) (env 10) (env 77) st := by
  refine Eq.trans (ops_cut (l1 := [8, 9, 10, 11, 12, 13, 14]) (l2 := [15, 16, 17]) (g8e11111110_15)) ?_
  funext env st
  kernel_rfl
noncomputable def g8b1111111 (x8 : V) (x10 : V) (x11 : V) (st : St) : Res :=
 A.eql 2 false x11 (.int .i64 0) fun a1 =>
 A.guard a1 true
 (A.lenL x10 fun a2 =>
 A.eql 2 false a2 (.int .i64 1) fun a3 =>
 g8b11111110_8 x8 x10 a3 st)
 (g8b11111110_8 x8 x10 (.bool false) st)
theorem g8n1111111 : g8C [1, 1, 1, 1, 1, 1, 1] = .seq (g8C [1, 1, 1, 1, 1, 1, 1, 0]) (g8C [1, 1, 1, 1, 1, 1, 1, 1]) := by kernel_rfl
theorem g8rg11111110 : g8C [1, 1, 1, 1, 1, 1, 1, 0] = .region 14 (rops (g8C [1, 1, 1, 1, 1, 1, 1, 0])) false := by kernel_rfl
theorem g8rg11111110l : List.range (rops (g8C [1, 1, 1, 1, 1, 1, 1, 0])).size = [0, 1, 2, 3, 4, 5, 6, 7] ++ [8, 9, 10, 11, 12, 13, 14, 15, 16, 17] := by kernel_rfl
theorem g8e1111111 : g8X (g8C [1, 1, 1, 1, 1, 1, 1]) (g8kr) = fun env st => g8b1111111 (env 8) (env 10) (env 11) st := by
  refine Eq.trans ((g8seq g8n1111111 rfl).trans (g8reg g8rg11111110 g8rg11111110l (g8e11111110_8))) ?_
  funext env st
  kernel_rfl
noncomputable def g8b111111 (x0 : V) (x1 : V) (x7 : V) (x8 : V) (st : St) : Res :=
 A.lenL x0 fun a1 =>
 A.slice 1 x1 none (some a1) none fun a2 =>
 A.ret (s18 [x0.er1, x7.er1, a2.er1] st) fun a3 z4 =>
 A.ext a3 0 fun a5 =>
 A.ext a3 1 fun a6 =>
 g8b1111111 x8 a5 a6 z4
theorem g8n111111 : g8C [1, 1, 1, 1, 1, 1] = .seq (g8C [1, 1, 1, 1, 1, 1, 0]) (g8C [1, 1, 1, 1, 1, 1, 1]) := by kernel_rfl
theorem g8e111111 : g8X (g8C [1, 1, 1, 1, 1, 1]) (g8kr) = fun env st => g8b111111 (env 0) (env 1) (env 7) (env 8) st := by
  refine Eq.trans (g8seq g8n111111 (g8e1111111)) ?_
  funext env st
  kernel_rfl
noncomputable def g8k1 : Kon := kSeq (fun env st => g8b111111 (env 0) (env 1) (env 7) (env 8) st) (g8kr)
noncomputable def g8k2 : Kon := kBlk 0 (g8k1)
noncomputable def g8k3 (L11111010 : V → V → V → V → V → St → Res) : Kon := kSeq (fun env st => L11111010 (env 0) (env 1) (env 7) (env 8) (env 9) st) (g8k2)
noncomputable def g8k4 (L11111010 : V → V → V → V → V → St → Res) : Kon := kSeq (g8X (g8C [1, 1, 1, 1, 1, 0, 1, 0, 0, 1, 1]) (g8k3 L11111010)) (g8k3 L11111010)
noncomputable def g8k5 (L11111010 : V → V → V → V → V → St → Res) : Kon := kBlk 1 (g8k4 L11111010)
noncomputable def g8b1111101001001 (L11111010 : V → V → V → V → V → St → Res) (x0 : V) (x1 : V) (x7 : V) (x8 : V) (x9 : V) (st : St) : Res :=
 A.bslice 1 (.int .i64 0) 1 [(0, x9)] fun a1 =>
 A.app 1 x7 (elemsOf 5 1 a1 st) st fun a2 z3 =>
 A.iaddr 1 x0 x9 fun a4 =>
 A.load false 1 a4 z3 fun a5 _ =>
 A.bin .mul x8 a5 fun a6 =>
 A.iaddr 1 x1 x9 fun a7 =>
 A.load false 1 a7 z3 fun a8 _ =>
 A.iaddr 1 x0 x9 fun a9 =>
 A.load false 1 a9 z3 fun a10 _ =>
 A.noP (A.ret (s21 [a8.er1, a10.er1] z3) kid) fun a11 z12 =>
 A.chk (ldv false 1 a4 z12) a5
 (A.bin .add a6 a11 fun a13 =>
 A.bin .add x9 (.int .i64 1) fun a14 =>
 L11111010 x0 x1 a2 a13 a14 z12)
theorem g8e1111101001001 (L11111010 : V → V → V → V → V → St → Res) : g8X (g8C [1, 1, 1, 1, 1, 0, 1, 0, 0, 1, 0, 0, 1]) (g8k5 L11111010) = fun env st => g8b1111101001001 L11111010 (env 0) (env 1) (env 7) (env 8) (env 9) st := by
  refine Eq.trans (Eq.refl (g8X (g8C [1, 1, 1, 1, 1, 0, 1, 0, 0, 1, 0, 0, 1]) (g8k5 L11111010))) ?_
  funext env st
  kernel_rfl
noncomputable def g8b11111010 : Nat → V → V → V → V → V → St → Res
| 0, _, _, _, _, _, _ => none
| n + 1, x0, x1, x7, x8, x9, st =>
 A.lenL x0 fun a1 =>
 A.bin .lss x9 a1 fun a2 =>
 A.cond a2
 (A.iaddr 1 x1 x9 fun a3 =>
 A.load false 1 a3 st fun a4 z5 =>
 A.lenS a4 fun a6 =>
 A.bin .gtr a6 (.int .i64 4096) fun a7 =>
 A.cond a7
 (A.ret (s11 [] z5) fun a8 z9 =>
 some (.ret a8.er1, z9))
 (g8b1111101001001 (g8b11111010 n) x0 x1 x7 x8 x9 z5))
 (g8b111111 x0 x1 x7 x8 st)
theorem g8n11111010 : g8C [1, 1, 1, 1, 1, 0, 1, 0] = .loop (g8C [1, 1, 1, 1, 1, 0, 1, 0, 0]) := by kernel_rfl
theorem g8n111110100 : g8C [1, 1, 1, 1, 1, 0, 1, 0, 0] = .seq (g8C [1, 1, 1, 1, 1, 0, 1, 0, 0, 0]) (g8C [1, 1, 1, 1, 1, 0, 1, 0, 0, 1]) := by kernel_rfl
theorem g8n1111101001 : g8C [1, 1, 1, 1, 1, 0, 1, 0, 0, 1] = .seq (g8C [1, 1, 1, 1, 1, 0, 1, 0, 0, 1, 0]) (g8C [1, 1, 1, 1, 1, 0, 1, 0, 0, 1, 1]) := by kernel_rfl
theorem g8n11111010010 : g8C [1, 1, 1, 1, 1, 0, 1, 0, 0, 1, 0] = .block 1 (g8C [1, 1, 1, 1, 1, 0, 1, 0, 0, 1, 0, 0]) := by kernel_rfl
theorem g8n111110100100 : g8C [1, 1, 1, 1, 1, 0, 1, 0, 0, 1, 0, 0] = .seq (g8C [1, 1, 1, 1, 1, 0, 1, 0, 0, 1, 0, 0, 0]) (g8C [1, 1, 1, 1, 1, 0, 1, 0, 0, 1, 0, 0, 1]) := by kernel_rfl
theorem g8e11111010 : g8X (g8C [1, 1, 1, 1, 1, 0, 1, 0]) (g8k2) = fun env st => g8b11111010 big (env 0) (env 1) (env 7) (env 8) (env 9) st := by
  have key : ∀ n, aloop (g8X (g8C [1, 1, 1, 1, 1, 0, 1, 0, 0])) (g8k2) n = fun env st => g8b11111010 n (env 0) (env 1) (env 7) (env 8) (env 9) st := by
    intro n
    induction n with
    | zero => rfl
    | succ n ih =>
      have h : aloop (g8X (g8C [1, 1, 1, 1, 1, 0, 1, 0, 0])) (g8k2) (n + 1) = g8X (g8C [1, 1, 1, 1, 1, 0, 1, 0, 0]) (kSeq (aloop (g8X (g8C [1, 1, 1, 1, 1, 0, 1, 0, 0])) (g8k2) n) (g8k2)) := rfl
      rw [h, ih]
      refine Eq.trans (g8seq g8n111110100 ((g8seq g8n1111101001 rfl).trans ((g8blk g8n11111010010).trans (g8seq g8n111110100100 (g8e1111101001001 (g8b11111010 n)))))) ?_
      funext env st
      kernel_rfl
  exact (g8loop g8n11111010).trans (key big)
noncomputable def g8b111 (x0 : V) (x1 : V) (st : St) : Res :=
 g8b11111010 big x0 x1 (.lst [] 1) (.int .i64 0) (.int .i64 0) st
theorem g8n111 : g8C [1, 1, 1] = .seq (g8C [1, 1, 1, 0]) (g8C [1, 1, 1, 1]) := by kernel_rfl
theorem g8n1111 : g8C [1, 1, 1, 1] = .seq (g8C [1, 1, 1, 1, 0]) (g8C [1, 1, 1, 1, 1]) := by kernel_rfl
theorem g8n11111 : g8C [1, 1, 1, 1, 1] = .seq (g8C [1, 1, 1, 1, 1, 0]) (g8C [1, 1, 1, 1, 1, 1]) := by kernel_rfl
theorem g8n111110 : g8C [1, 1, 1, 1, 1, 0] = .seq (g8C [1, 1, 1, 1, 1, 0, 0]) (g8C [1, 1, 1, 1, 1, 0, 1]) := by kernel_rfl
theorem g8n1111101 : g8C [1, 1, 1, 1, 1, 0, 1] = .block 0 (g8C [1, 1, 1, 1, 1, 0, 1, 0]) := by kernel_rfl
theorem g8e111 : g8X (g8C [1, 1, 1]) (g8kr) = fun env st => g8b111 (env 0) (env 1) st := by
  refine Eq.trans (g8seq g8n111 (g8seq g8n1111 ((g8seq g8n11111 (g8e111111)).trans (g8seq g8n111110 ((g8blk g8n1111101).trans (g8e11111010)))))) ?_
  funext env st
  kernel_rfl
noncomputable def f8 (x0 : V) (x1 : V) (st : St) : Res :=
 A.ret (s16 [x0.er1] st) fun a1 z2 =>
 A.ext a1 0 fun a3 =>
 A.ext a1 1 fun a4 =>
 A.eql 2 true a4 (.int .i64 0) fun a5 =>
 A.guard a5 false
 (A.lenL x1 fun a6 =>
 A.lenL x0 fun a7 =>
 A.bin .lss a6 a7 fun a8 =>
 A.cond a8
 (A.ret (s11 [] z2) fun a9 z10 =>
 some (.ret a9.er1, z10))
 (g8b111 x0 x1 z2))
 (A.ret (s11 [] z2) fun a11 z12 =>
 some (.ret a11.er1, z12))
theorem g8nr : g8C [] = .seq (g8C [0]) (g8C [1]) := by kernel_rfl
theorem g8n1 : g8C [1] = .seq (g8C [1, 0]) (g8C [1, 1]) := by kernel_rfl
theorem g8n11 : g8C [1, 1] = .seq (g8C [1, 1, 0]) (g8C [1, 1, 1]) := by kernel_rfl
theorem g8er (env : Env) (st : St) : g8X (g8C []) g8kr env st = f8 (env 0) (env 1) st := by
  rw [(g8seq g8nr (g8seq g8n1 (g8seq g8n11 (g8e111))))]
  kernel_rfl
theorem s8_eq (x0 : V) (x1 : V) (st : St) : s8 [x0, x1] st = f8 x0 x1 st := by
  have h : afn Try.prog g8mu g8T big (areg Try.prog g8mu g8T) 8 [x0, x1] st = g8X (g8C []) g8kr (fun t => [x0, x1].getD t (.tup [])) st := by kernel_rfl
  rw [s8, sealF_eq]
  exact h.trans (g8er _ st)
/-! sinew/sinewlaw13.ShareMore -/
def g9mu : Nat → Bool := fun _ => false
noncomputable def g9T : Tbl := tget [(10, s10), (11, s11), (12, s12), (14, s14), (17, s17)]
theorem g9t : SimT Try.prog g9T := simT_cons sim10 ( simT_cons sim11 ( simT_cons sim12 ( simT_cons sim14 ( simT_cons sim17 (simT_nil)))))
noncomputable def s9 : Fn := sealF (afn Try.prog g9mu g9T big (areg Try.prog g9mu g9T) 9)
theorem sim9 : Sim Try.prog 9 s9 := (afn_sim g9t (fun m => areg_sound g9t hmix m) 9 (by kernel_rfl)).sealed
noncomputable def g9C (p : List Nat) : Code := sub (match Try.f9.body with | some c => c | none => .skip) p
noncomputable def g9X (c : Code) (K : Kon) : Env → St → Res := aexec Try.prog g9mu g9T big 120 (areg Try.prog g9mu g9T 120) c K
noncomputable def g9kr : Kon := aresK Try.prog Try.f9.results.toList
theorem g9reg {c : Code} {K : Kon} {G : Env → St → Res} {id : Nat} {ops : Array Oper} {l1 l2 : List Nat} (hc : c = .region id ops false) (hl : List.range ops.size = l1 ++ l2) (h : (fun env st => aops Try.prog g9mu g9T 120 ops l2 env st (K .normal)) = G) : g9X c K = fun env st => aops Try.prog g9mu g9T 120 ops l1 env st G := reg_cut hc hl h
theorem g9seq {c x y : Code} {K : Kon} {G : Env → St → Res} (hc : c = .seq x y) (hy : g9X y K = G) : g9X c K = g9X x (kSeq G K) := seq_cut hc hy
theorem g9blk {c x : Code} {K : Kon} {i : Nat} (hc : c = .block i x) : g9X c K = g9X x (kBlk i K) := blk_cut hc
theorem g9loop {c x : Code} {K : Kon} (hc : c = .loop x) : g9X c K = aloop (g9X x) K big := loop_cut hc
theorem g9cond {c x y : Code} {K : Kon} {v : Operand} {F G : Env → St → Res} (hc : c = .cond v x y) (hx : g9X x K = F) (hy : g9X y K = G) : g9X c K = condF v F G := cond_cut hc hx hy
noncomputable def g9k0 : Kon := kSeq (g9X (g9C [1, 1, 1, 1, 1, 1, 1, 1, 1]) (g9kr)) (g9kr)
noncomputable def g9b111111110_36 (x117 : V) (st : St) : Res :=
 A.guard x117 true
 (A.ret (s11 [] st) fun a1 z2 =>
 some (.ret a1.er1, z2))
 (some (.ret ((.bool false) : V).er1, st))
theorem g9e111111110_36 : (fun env st => aops Try.prog g9mu g9T 120 (rops (g9C [1, 1, 1, 1, 1, 1, 1, 1, 0])) [36, 37, 38] env st ((g9k0) .normal)) = fun env st => g9b111111110_36 (env 117) st := by
  refine Eq.trans (Eq.refl _) ?_
  funext env st
  kernel_rfl
noncomputable def g9b111111110_25 (x1 : V) (x2 : V) (x11 : V) (x15 : V) (x106 : V) (st : St) : Res :=
 A.guard x106 true
 (A.ret (s17 [x11.er1, x1.er1, x2.er1] st) fun a1 z2 =>
 A.ret (s17 [x15.er1, x1.er1, x2.er1] z2) fun a3 z4 =>
 A.bin .leq a1 a3 fun a5 =>
 g9b111111110_36 a5 z4)
 (g9b111111110_36 (.bool false) st)
theorem g9e111111110_25 : (fun env st => aops Try.prog g9mu g9T 120 (rops (g9C [1, 1, 1, 1, 1, 1, 1, 1, 0])) [25, 26, 27, 28, 29, 30, 31, 32, 33, 34, 35, 36, 37, 38] env st ((g9k0) .normal)) = fun env st => g9b111111110_25 (env 1) (env 2) (env 11) (env 15) (env 106) st := by
  refine Eq.trans (ops_cut (l1 := [25, 26, 27, 28, 29, 30, 31, 32, 33, 34, 35]) (l2 := [36, 37, 38]) (g9e111111110_36)) ?_
  funext env st
  kernel_rfl
noncomputable def g9b111111110_9 (x1 : V) (x2 : V) (x11 : V) (x13 : V) (x15 : V) (x90 : V) (st : St) : Res :=
 A.guard x90 true
 (A.bslice 1 (.int .i64 0) 4 [(0, (.int .i64 1)), (1, (.int .i64 1)), (2, (.int .i64 1)), (3, (.int .i64 1))] fun a1 =>
 A.ret (s14 [x15.er1, a1.er1] st) fun a2 z3 =>
 A.guard a2 true
 (A.ret (s17 [x13.er1, x1.er1, x2.er1] z3) fun a4 z5 =>
 A.ret (s17 [x11.er1, x1.er1, x2.er1] z5) fun a6 z7 =>
 A.bin .leq a4 a6 fun a8 =>
 g9b111111110_25 x1 x2 x11 x15 a8 z7)
 (g9b111111110_25 x1 x2 x11 x15 (.bool false) z3))
 (g9b111111110_25 x1 x2 x11 x15 (.bool false) st)
theorem g9e111111110_9 : (fun env st => aops Try.prog g9mu g9T 120 (rops (g9C [1, 1, 1, 1, 1, 1, 1, 1, 0])) [9, 10, 11, 12, 13, 14, 15, 16, 17, 18, 19, 20, 21, 22, 23, 24, 25, 26, 27, 28, 29, 30, 31, 32, 33, 34, 35, 36, 37, 38] env st ((g9k0) .normal)) = fun env st => g9b111111110_9 (env 1) (env 2) (env 11) (env 13) (env 15) (env 90) st := by
  refine Eq.trans (ops_cut (l1 := [9, 10, 11, 12, 13, 14, 15, 16, 17, 18, 19, 20, 21, 22, 23, 24]) (l2 := [25, 26, 27, 28, 29, 30, 31, 32, 33, 34, 35, 36, 37, 38]) (g9e111111110_25)) ?_
  funext env st
  kernel_rfl
noncomputable def g9b11111111 (x1 : V) (x2 : V) (x11 : V) (x13 : V) (x15 : V) (st : St) : Res :=
 A.lenL x11 fun a1 =>
 A.eql 2 false a1 (.int .i64 4) fun a2 =>
 A.guard a2 true
 (A.lenL x13 fun a3 =>
 A.eql 2 false a3 (.int .i64 4) fun a4 =>
 g9b111111110_9 x1 x2 x11 x13 x15 a4 st)
 (g9b111111110_9 x1 x2 x11 x13 x15 (.bool false) st)
theorem g9n11111111 : g9C [1, 1, 1, 1, 1, 1, 1, 1] = .seq (g9C [1, 1, 1, 1, 1, 1, 1, 1, 0]) (g9C [1, 1, 1, 1, 1, 1, 1, 1, 1]) := by kernel_rfl
theorem g9rg111111110 : g9C [1, 1, 1, 1, 1, 1, 1, 1, 0] = .region 10 (rops (g9C [1, 1, 1, 1, 1, 1, 1, 1, 0])) false := by kernel_rfl
theorem g9rg111111110l : List.range (rops (g9C [1, 1, 1, 1, 1, 1, 1, 1, 0])).size = [0, 1, 2, 3, 4, 5, 6, 7, 8] ++ [9, 10, 11, 12, 13, 14, 15, 16, 17, 18, 19, 20, 21, 22, 23, 24, 25, 26, 27, 28, 29, 30, 31, 32, 33, 34, 35, 36, 37, 38] := by kernel_rfl
theorem g9e11111111 : g9X (g9C [1, 1, 1, 1, 1, 1, 1, 1]) (g9kr) = fun env st => g9b11111111 (env 1) (env 2) (env 11) (env 13) (env 15) st := by
  refine Eq.trans ((g9seq g9n11111111 rfl).trans (g9reg g9rg111111110 g9rg111111110l (g9e111111110_9))) ?_
  funext env st
  kernel_rfl
noncomputable def g9k1 : Kon := kSeq (fun env st => g9b11111111 (env 1) (env 2) (env 11) (env 13) (env 15) st) (g9kr)
noncomputable def g9k2 : Kon := kSeq (g9X (g9C [1, 1, 1, 1, 1, 1, 1, 0, 1, 0, 1]) (g9k1)) (g9k1)
noncomputable def g9b11111110100_9 (x12 : V) (x75 : V) (st : St) : Res :=
 A.guard x75 true
 (A.eql 2 false x12 (.int .i64 1) fun a1 =>
 A.guard a1 true
 (A.ret (s11 [] st) fun a2 z3 =>
 some (.ret a2.er1, z3))
 (some (.ret ((.bool false) : V).er1, st)))
 (some (.ret ((.bool false) : V).er1, st))
theorem g9e11111110100_9 : (fun env st => aops Try.prog g9mu g9T 120 (rops (g9C [1, 1, 1, 1, 1, 1, 1, 0, 1, 0, 0])) [9, 10, 11, 12, 13, 14, 15] env st ((g9k2) .normal)) = fun env st => g9b11111110100_9 (env 12) (env 75) st := by
  refine Eq.trans (Eq.refl _) ?_
  funext env st
  kernel_rfl
noncomputable def g9b111111101 (x1 : V) (x2 : V) (x11 : V) (x12 : V) (x13 : V) (x14 : V) (x15 : V) (x16 : V) (x66 : V) (st : St) : Res :=
 A.cond x66
 (A.eql 2 false x12 x14 fun a1 =>
 A.guard a1 true
 (A.eql 2 false x14 x16 fun a2 =>
 g9b11111110100_9 x12 a2 st)
 (g9b11111110100_9 x12 (.bool false) st))
 (g9b11111111 x1 x2 x11 x13 x15 st)
theorem g9n111111101 : g9C [1, 1, 1, 1, 1, 1, 1, 0, 1] = .cond (.tmp 66) (g9C [1, 1, 1, 1, 1, 1, 1, 0, 1, 0]) (g9C [1, 1, 1, 1, 1, 1, 1, 0, 1, 1]) := by kernel_rfl
theorem g9n1111111010 : g9C [1, 1, 1, 1, 1, 1, 1, 0, 1, 0] = .seq (g9C [1, 1, 1, 1, 1, 1, 1, 0, 1, 0, 0]) (g9C [1, 1, 1, 1, 1, 1, 1, 0, 1, 0, 1]) := by kernel_rfl
theorem g9rg11111110100 : g9C [1, 1, 1, 1, 1, 1, 1, 0, 1, 0, 0] = .region 9 (rops (g9C [1, 1, 1, 1, 1, 1, 1, 0, 1, 0, 0])) false := by kernel_rfl
theorem g9rg11111110100l : List.range (rops (g9C [1, 1, 1, 1, 1, 1, 1, 0, 1, 0, 0])).size = [0, 1, 2, 3, 4, 5, 6, 7, 8] ++ [9, 10, 11, 12, 13, 14, 15] := by kernel_rfl
theorem g9e111111101 : g9X (g9C [1, 1, 1, 1, 1, 1, 1, 0, 1]) (g9k1) = fun env st => g9b111111101 (env 1) (env 2) (env 11) (env 12) (env 13) (env 14) (env 15) (env 16) (env 66) st := by
  refine Eq.trans (g9cond g9n111111101 ((g9seq g9n1111111010 rfl).trans (g9reg g9rg11111110100 g9rg11111110100l (g9e11111110100_9))) rfl) ?_
  funext env st
  kernel_rfl
noncomputable def g9b1111111 (x1 : V) (x2 : V) (x11 : V) (x12 : V) (x13 : V) (x14 : V) (x15 : V) (x16 : V) (st : St) : Res :=
 A.eql 2 true x12 (.int .i64 0) fun a1 =>
 A.guard a1 false
 (A.eql 2 true x14 (.int .i64 0) fun a2 =>
 A.guard a2 false
 (A.eql 2 true x16 (.int .i64 0) fun a3 =>
 g9b111111101 x1 x2 x11 x12 x13 x14 x15 x16 a3 st)
 (g9b111111101 x1 x2 x11 x12 x13 x14 x15 x16 (.bool true) st))
 (g9b111111101 x1 x2 x11 x12 x13 x14 x15 x16 (.bool true) st)
theorem g9n1111111 : g9C [1, 1, 1, 1, 1, 1, 1] = .seq (g9C [1, 1, 1, 1, 1, 1, 1, 0]) (g9C [1, 1, 1, 1, 1, 1, 1, 1]) := by kernel_rfl
theorem g9n11111110 : g9C [1, 1, 1, 1, 1, 1, 1, 0] = .seq (g9C [1, 1, 1, 1, 1, 1, 1, 0, 0]) (g9C [1, 1, 1, 1, 1, 1, 1, 0, 1]) := by kernel_rfl
theorem g9e1111111 : g9X (g9C [1, 1, 1, 1, 1, 1, 1]) (g9kr) = fun env st => g9b1111111 (env 1) (env 2) (env 11) (env 12) (env 13) (env 14) (env 15) (env 16) st := by
  refine Eq.trans ((g9seq g9n1111111 (g9e11111111)).trans (g9seq g9n11111110 (g9e111111101))) ?_
  funext env st
  kernel_rfl
noncomputable def g9b11111 (x1 : V) (x2 : V) (x10 : V) (x11 : V) (x12 : V) (st : St) : Res :=
 A.ret (s12 [x10.er1, ((.int .i64 4) : V).er1, x1.er1, x2.er1] st) fun a1 z2 =>
 A.ext a1 0 fun a3 =>
 A.ext a1 1 fun a4 =>
 A.ret (s12 [((.int .i64 1) : V).er1, ((.int .i64 4) : V).er1, x1.er1, x2.er1] z2) fun a5 z6 =>
 A.ext a5 0 fun a7 =>
 A.ext a5 1 fun a8 =>
 g9b1111111 x1 x2 x11 x12 a3 a4 a7 a8 z6
theorem g9n11111 : g9C [1, 1, 1, 1, 1] = .seq (g9C [1, 1, 1, 1, 1, 0]) (g9C [1, 1, 1, 1, 1, 1]) := by kernel_rfl
theorem g9n111111 : g9C [1, 1, 1, 1, 1, 1] = .seq (g9C [1, 1, 1, 1, 1, 1, 0]) (g9C [1, 1, 1, 1, 1, 1, 1]) := by kernel_rfl
theorem g9e11111 : g9X (g9C [1, 1, 1, 1, 1]) (g9kr) = fun env st => g9b11111 (env 1) (env 2) (env 10) (env 11) (env 12) st := by
  refine Eq.trans (g9seq g9n11111 (g9seq g9n111111 (g9e1111111))) ?_
  funext env st
  kernel_rfl
noncomputable def g9b111 (x1 : V) (x2 : V) (x7 : V) (x8 : V) (st : St) : Res :=
 A.min x7 x8 fun a1 =>
 A.max x7 x8 fun a2 =>
 A.ret (s12 [a1.er1, ((.int .i64 4) : V).er1, x1.er1, x2.er1] st) fun a3 z4 =>
 A.ext a3 0 fun a5 =>
 A.ext a3 1 fun a6 =>
 g9b11111 x1 x2 a2 a5 a6 z4
theorem g9n111 : g9C [1, 1, 1] = .seq (g9C [1, 1, 1, 0]) (g9C [1, 1, 1, 1]) := by kernel_rfl
theorem g9n1111 : g9C [1, 1, 1, 1] = .seq (g9C [1, 1, 1, 1, 0]) (g9C [1, 1, 1, 1, 1]) := by kernel_rfl
theorem g9e111 : g9X (g9C [1, 1, 1]) (g9kr) = fun env st => g9b111 (env 1) (env 2) (env 7) (env 8) st := by
  refine Eq.trans (g9seq g9n111 (g9seq g9n1111 (g9e11111))) ?_
  funext env st
  kernel_rfl
noncomputable def f9 (x0 : V) (x1 : V) (x2 : V) (st : St) : Res :=
 A.box x0 st fun a1 z2 =>
 A.ret (s10 [x1.er1] z2) fun a3 z4 =>
 A.un .not a3 fun a5 =>
 A.cond a5
 (A.ret (s11 [] z4) fun a6 z7 =>
 some (.ret a6.er1, z7))
 (A.iaddrA 2 1 a1 (.int .i64 0) fun a8 =>
 A.load false 1 a8 z4 fun a9 _ =>
 A.bin .and a9 (.int .i64 65535) fun a10 =>
 A.bin .rem a10 (.int .i64 24) fun a11 =>
 A.bin .add (.int .i64 1) a11 fun a12 =>
 A.iaddrA 2 1 a1 (.int .i64 1) fun a13 =>
 A.load false 1 a13 z4 fun a14 _ =>
 A.bin .and a14 (.int .i64 65535) fun a15 =>
 A.bin .rem a15 (.int .i64 24) fun a16 =>
 A.bin .add (.int .i64 1) a16 fun a17 =>
 g9b111 x1 x2 a12 a17 z4)
theorem g9nr : g9C [] = .seq (g9C [0]) (g9C [1]) := by kernel_rfl
theorem g9n1 : g9C [1] = .seq (g9C [1, 0]) (g9C [1, 1]) := by kernel_rfl
theorem g9n11 : g9C [1, 1] = .seq (g9C [1, 1, 0]) (g9C [1, 1, 1]) := by kernel_rfl
theorem g9er (env : Env) (st : St) : g9X (g9C []) g9kr env st = f9 (env 0) (env 1) (env 2) st := by
  rw [(g9seq g9nr (g9seq g9n1 (g9seq g9n11 (g9e111))))]
  kernel_rfl
theorem s9_eq (x0 : V) (x1 : V) (x2 : V) (st : St) : s9 [x0, x1, x2] st = f9 x0 x1 x2 st := by
  have h : afn Try.prog g9mu g9T big (areg Try.prog g9mu g9T) 9 [x0, x1, x2] st = g9X (g9C []) g9kr (fun t => [x0, x1, x2].getD t (.tup [])) st := by kernel_rfl
  rw [s9, sealF_eq]
  exact h.trans (g9er _ st)
end Go.Ab
