import Derived.Test.YtimidokohhiacaaAbQuiet
import Derived.Test.YtimidokohhiacaaAbN09a
import Derived.Test.YtimidokohhiacaaAbPair
namespace Go.Ab
open Go.Proofs
set_option linter.unusedVariables false
set_option maxRecDepth 100000
/-! sinew/sinewref08.part -/
def g84mu : Nat → Bool := fun _ => false
noncomputable def g84T : Tbl := tget []
theorem g84t : SimT Try.prog g84T := simT_nil
noncomputable def s84 : Fn := sealF (afn Try.prog g84mu g84T big (areg Try.prog g84mu g84T) 84)
theorem sim84 : Sim Try.prog 84 s84 := (afn_sim g84t (fun m => areg_sound g84t hmix m) 84 (by kernel_rfl)).sealed
noncomputable def g84C (p : List Nat) : Code := sub (match Try.f84.body with | some c => c | none => .skip) p
noncomputable def g84X (c : Code) (K : Kon) : Env → St → Res := aexec Try.prog g84mu g84T big 25 (areg Try.prog g84mu g84T 25) c K
noncomputable def g84kr : Kon := aresK Try.prog Try.f84.results.toList
theorem g84reg {c : Code} {K : Kon} {G : Env → St → Res} {id : Nat} {ops : Array Oper} {l1 l2 : List Nat} (hc : c = .region id ops false) (hl : List.range ops.size = l1 ++ l2) (h : (fun env st => aops Try.prog g84mu g84T 25 ops l2 env st (K .normal)) = G) : g84X c K = fun env st => aops Try.prog g84mu g84T 25 ops l1 env st G := reg_cut hc hl h
theorem g84seq {c x y : Code} {K : Kon} {G : Env → St → Res} (hc : c = .seq x y) (hy : g84X y K = G) : g84X c K = g84X x (kSeq G K) := seq_cut hc hy
theorem g84blk {c x : Code} {K : Kon} {i : Nat} (hc : c = .block i x) : g84X c K = g84X x (kBlk i K) := blk_cut hc
theorem g84loop {c x : Code} {K : Kon} (hc : c = .loop x) : g84X c K = aloop (g84X x) K big := loop_cut hc
theorem g84cond {c x y : Code} {K : Kon} {v : Operand} {F G : Env → St → Res} (hc : c = .cond v x y) (hx : g84X x K = F) (hy : g84X y K = G) : g84X c K = condF v F G := cond_cut hc hx hy
noncomputable def g84k0 : Kon := kSeq (g84X (g84C [1, 1]) (g84kr)) (g84kr)
noncomputable def g84b10_15 (x0 : V) (x17 : V) (st : St) : Res :=
 A.guard x17 false
 (A.eql 2 false x0 (.int .u8 45) fun a1 =>
 A.guard a1 false
 (A.eql 2 false x0 (.int .u8 58) fun a2 =>
 some (.ret a2.er1, st))
 (some (.ret ((.bool true) : V).er1, st)))
 (some (.ret ((.bool true) : V).er1, st))
theorem g84e10_15 : (fun env st => aops Try.prog g84mu g84T 25 (rops (g84C [1, 0])) [15, 16, 17, 18, 19, 20, 21, 22] env st ((g84k0) .normal)) = fun env st => g84b10_15 (env 0) (env 17) st := by
  refine Eq.trans (Eq.refl _) ?_
  funext env st
  kernel_rfl
noncomputable def g84b10_7 (x0 : V) (x9 : V) (st : St) : Res :=
 A.guard x9 false
 (A.bin .geq x0 (.int .u8 48) fun a1 =>
 A.guardT a1 true
 (A.bin .leq x0 (.int .u8 57) fun a2 =>
 g84b10_15 x0 a2 st)
 (g84b10_15 x0 (.bool false) st)
 (A.guardT a1 true
 (A.bin .leq (.tup []) (.int .u8 57) fun a3 =>
 g84b10_15 x0 a3 st)
 (g84b10_15 x0 (.bool false) st)
 (A.pick a1 (.tup []) (.bool false) fun a4 =>
 g84b10_15 x0 a4 st)))
 (g84b10_15 x0 (.bool true) st)
theorem g84e10_7 : (fun env st => aops Try.prog g84mu g84T 25 (rops (g84C [1, 0])) [7, 8, 9, 10, 11, 12, 13, 14, 15, 16, 17, 18, 19, 20, 21, 22] env st ((g84k0) .normal)) = fun env st => g84b10_7 (env 0) (env 9) st := by
  refine Eq.trans (ops_cut (l1 := [7, 8, 9, 10, 11, 12, 13, 14]) (l2 := [15, 16, 17, 18, 19, 20, 21, 22]) (g84e10_15)) ?_
  funext env st
  kernel_rfl
noncomputable def f84 (x0 : V) (st : St) : Res :=
 A.bin .geq x0 (.int .u8 97) fun a1 =>
 A.guard a1 true
 (A.bin .leq x0 (.int .u8 122) fun a2 =>
 g84b10_7 x0 a2 st)
 (g84b10_7 x0 (.bool false) st)
theorem g84nr : g84C [] = .seq (g84C [0]) (g84C [1]) := by kernel_rfl
theorem g84n1 : g84C [1] = .seq (g84C [1, 0]) (g84C [1, 1]) := by kernel_rfl
theorem g84rg10 : g84C [1, 0] = .region 1 (rops (g84C [1, 0])) false := by kernel_rfl
theorem g84rg10l : List.range (rops (g84C [1, 0])).size = [0, 1, 2, 3, 4, 5, 6] ++ [7, 8, 9, 10, 11, 12, 13, 14, 15, 16, 17, 18, 19, 20, 21, 22] := by kernel_rfl
theorem g84er (env : Env) (st : St) : g84X (g84C []) g84kr env st = f84 (env 0) st := by
  rw [(g84seq g84nr ((g84seq g84n1 rfl).trans (g84reg g84rg10 g84rg10l (g84e10_7))))]
  kernel_rfl
theorem s84_eq (x0 : V) (st : St) : s84 [x0] st = f84 x0 st := by
  have h : afn Try.prog g84mu g84T big (areg Try.prog g84mu g84T) 84 [x0] st = g84X (g84C []) g84kr (fun t => [x0].getD t (.tup [])) st := by kernel_rfl
  rw [s84, sealF_eq]
  exact h.trans (g84er _ st)
/-! sinew/sinewref08.run -/
def g54mu : Nat → Bool := fun _ => false
noncomputable def g54T : Tbl := tget [(84, s84)]
theorem g54t : SimT Try.prog g54T := simT_cons sim84 (simT_nil)
noncomputable def s54 : Fn := sealF (afn Try.prog g54mu g54T big (areg Try.prog g54mu g54T) 54)
theorem sim54 : Sim Try.prog 54 s54 := (afn_sim g54t (fun m => areg_sound g54t hmix m) 54 (by kernel_rfl)).sealed
noncomputable def g54C (p : List Nat) : Code := sub (match Try.f54.body with | some c => c | none => .skip) p
noncomputable def g54X (c : Code) (K : Kon) : Env → St → Res := aexec Try.prog g54mu g54T big 23 (areg Try.prog g54mu g54T 23) c K
noncomputable def g54kr : Kon := aresK Try.prog Try.f54.results.toList
theorem g54reg {c : Code} {K : Kon} {G : Env → St → Res} {id : Nat} {ops : Array Oper} {l1 l2 : List Nat} (hc : c = .region id ops false) (hl : List.range ops.size = l1 ++ l2) (h : (fun env st => aops Try.prog g54mu g54T 23 ops l2 env st (K .normal)) = G) : g54X c K = fun env st => aops Try.prog g54mu g54T 23 ops l1 env st G := reg_cut hc hl h
theorem g54seq {c x y : Code} {K : Kon} {G : Env → St → Res} (hc : c = .seq x y) (hy : g54X y K = G) : g54X c K = g54X x (kSeq G K) := seq_cut hc hy
theorem g54blk {c x : Code} {K : Kon} {i : Nat} (hc : c = .block i x) : g54X c K = g54X x (kBlk i K) := blk_cut hc
theorem g54loop {c x : Code} {K : Kon} (hc : c = .loop x) : g54X c K = aloop (g54X x) K big := loop_cut hc
theorem g54cond {c x y : Code} {K : Kon} {v : Operand} {F G : Env → St → Res} (hc : c = .cond v x y) (hx : g54X x K = F) (hy : g54X y K = G) : g54X c K = condF v F G := cond_cut hc hx hy
noncomputable def g54k0 : Kon := kSeq (g54X (g54C [1, 1, 1]) (g54kr)) (g54kr)
noncomputable def g54k1 : Kon := kBlk 0 (g54k0)
noncomputable def g54b1100 : Nat → V → V → V → St → Res
| 0, _, _, _, _ => none
| n + 1, x0, x1, x5, st =>
 A.bin .add x1 x5 fun a1 =>
 A.lenS x0 fun a2 =>
 A.bin .lss a1 a2 fun a3 =>
 A.guard a3 true
 (A.bin .add x1 x5 fun a4 =>
 A.idxS x0 a4 fun a5 =>
 A.ret (s84 [a5.er1] st) fun a6 z7 =>
 A.cond a6
 (A.bin .add x5 (.int .i64 1) fun a8 =>
 (g54b1100 n) x0 x1 a8 z7)
 (some (.ret x5.er1, z7)))
 (some (.ret x5.er1, st))
theorem g54n1100 : g54C [1, 1, 0, 0] = .loop (g54C [1, 1, 0, 0, 0]) := by kernel_rfl
noncomputable def g54k2 (L1100 : V → V → V → St → Res) : Kon := kSeq (fun env st => L1100 (env 0) (env 1) (env 5) st) (g54k1)
theorem g54e1100 : g54X (g54C [1, 1, 0, 0]) (g54k1) = fun env st => g54b1100 big (env 0) (env 1) (env 5) st := by
  have key : ∀ n, aloop (g54X (g54C [1, 1, 0, 0, 0])) (g54k1) n = fun env st => g54b1100 n (env 0) (env 1) (env 5) st := by
    intro n
    induction n with
    | zero => rfl
    | succ n ih =>
      have h : aloop (g54X (g54C [1, 1, 0, 0, 0])) (g54k1) (n + 1) = g54X (g54C [1, 1, 0, 0, 0]) (kSeq (aloop (g54X (g54C [1, 1, 0, 0, 0])) (g54k1) n) (g54k1)) := rfl
      rw [h, ih]
      refine Eq.trans (Eq.refl _) ?_
      funext env st
      kernel_rfl
  exact (g54loop g54n1100).trans (key big)
noncomputable def f54 (x0 : V) (x1 : V) (st : St) : Res :=
 g54b1100 big x0 x1 (.int .i64 0) st
theorem g54nr : g54C [] = .seq (g54C [0]) (g54C [1]) := by kernel_rfl
theorem g54n1 : g54C [1] = .seq (g54C [1, 0]) (g54C [1, 1]) := by kernel_rfl
theorem g54n11 : g54C [1, 1] = .seq (g54C [1, 1, 0]) (g54C [1, 1, 1]) := by kernel_rfl
theorem g54n110 : g54C [1, 1, 0] = .block 0 (g54C [1, 1, 0, 0]) := by kernel_rfl
theorem g54er (env : Env) (st : St) : g54X (g54C []) g54kr env st = f54 (env 0) (env 1) st := by
  rw [(g54seq g54nr (g54seq g54n1 ((g54seq g54n11 rfl).trans ((g54blk g54n110).trans (g54e1100)))))]
  kernel_rfl
theorem s54_eq (x0 : V) (x1 : V) (st : St) : s54 [x0, x1] st = f54 x0 x1 st := by
  have h : afn Try.prog g54mu g54T big (areg Try.prog g54mu g54T) 54 [x0, x1] st = g54X (g54C []) g54kr (fun t => [x0, x1].getD t (.tup [])) st := by kernel_rfl
  rw [s54, sealF_eq]
  exact h.trans (g54er _ st)
/-! sinew/sinewref08.mark -/
def g55mu : Nat → Bool := fun _ => false
noncomputable def g55T : Tbl := tget []
theorem g55t : SimT Try.prog g55T := simT_nil
noncomputable def s55 : Fn := sealF (afn Try.prog g55mu g55T big (areg Try.prog g55mu g55T) 55)
theorem sim55 : Sim Try.prog 55 s55 := (afn_sim g55t (fun m => areg_sound g55t hmix m) 55 (by kernel_rfl)).sealed
noncomputable def g55C (p : List Nat) : Code := sub (match Try.f55.body with | some c => c | none => .skip) p
noncomputable def g55X (c : Code) (K : Kon) : Env → St → Res := aexec Try.prog g55mu g55T big 41 (areg Try.prog g55mu g55T 41) c K
noncomputable def g55kr : Kon := aresK Try.prog Try.f55.results.toList
theorem g55reg {c : Code} {K : Kon} {G : Env → St → Res} {id : Nat} {ops : Array Oper} {l1 l2 : List Nat} (hc : c = .region id ops false) (hl : List.range ops.size = l1 ++ l2) (h : (fun env st => aops Try.prog g55mu g55T 41 ops l2 env st (K .normal)) = G) : g55X c K = fun env st => aops Try.prog g55mu g55T 41 ops l1 env st G := reg_cut hc hl h
theorem g55seq {c x y : Code} {K : Kon} {G : Env → St → Res} (hc : c = .seq x y) (hy : g55X y K = G) : g55X c K = g55X x (kSeq G K) := seq_cut hc hy
theorem g55blk {c x : Code} {K : Kon} {i : Nat} (hc : c = .block i x) : g55X c K = g55X x (kBlk i K) := blk_cut hc
theorem g55loop {c x : Code} {K : Kon} (hc : c = .loop x) : g55X c K = aloop (g55X x) K big := loop_cut hc
theorem g55cond {c x y : Code} {K : Kon} {v : Operand} {F G : Env → St → Res} (hc : c = .cond v x y) (hx : g55X x K = F) (hy : g55X y K = G) : g55X c K = condF v F G := cond_cut hc hx hy
noncomputable def g55k0 : Kon := kSeq (g55X (g55C [1, 1]) (g55kr)) (g55kr)
noncomputable def g55b10_31 (x0 : V) (x33 : V) (st : St) : Res :=
 A.guard x33 false
 (A.eql 2 false x0 (.int .u8 43) fun a1 =>
 A.guard a1 false
 (A.eql 2 false x0 (.int .u8 63) fun a2 =>
 some (.ret a2.er1, st))
 (some (.ret ((.bool true) : V).er1, st)))
 (some (.ret ((.bool true) : V).er1, st))
theorem g55e10_31 : (fun env st => aops Try.prog g55mu g55T 41 (rops (g55C [1, 0])) [31, 32, 33, 34, 35, 36, 37, 38] env st ((g55k0) .normal)) = fun env st => g55b10_31 (env 0) (env 33) st := by
  refine Eq.trans (Eq.refl _) ?_
  funext env st
  kernel_rfl
noncomputable def g55b10_23 (x0 : V) (x25 : V) (st : St) : Res :=
 A.guard x25 false
 (A.eql 2 false x0 (.int .u8 124) fun a1 =>
 A.guard a1 false
 (A.eql 2 false x0 (.int .u8 42) fun a2 =>
 g55b10_31 x0 a2 st)
 (g55b10_31 x0 (.bool true) st))
 (g55b10_31 x0 (.bool true) st)
theorem g55e10_23 : (fun env st => aops Try.prog g55mu g55T 41 (rops (g55C [1, 0])) [23, 24, 25, 26, 27, 28, 29, 30, 31, 32, 33, 34, 35, 36, 37, 38] env st ((g55k0) .normal)) = fun env st => g55b10_23 (env 0) (env 25) st := by
  refine Eq.trans (ops_cut (l1 := [23, 24, 25, 26, 27, 28, 29, 30]) (l2 := [31, 32, 33, 34, 35, 36, 37, 38]) (g55e10_31)) ?_
  funext env st
  kernel_rfl
noncomputable def g55b10_15 (x0 : V) (x17 : V) (st : St) : Res :=
 A.guard x17 false
 (A.eql 2 false x0 (.int .u8 46) fun a1 =>
 A.guard a1 false
 (A.eql 2 false x0 (.int .u8 47) fun a2 =>
 g55b10_23 x0 a2 st)
 (g55b10_23 x0 (.bool true) st))
 (g55b10_23 x0 (.bool true) st)
theorem g55e10_15 : (fun env st => aops Try.prog g55mu g55T 41 (rops (g55C [1, 0])) [15, 16, 17, 18, 19, 20, 21, 22, 23, 24, 25, 26, 27, 28, 29, 30, 31, 32, 33, 34, 35, 36, 37, 38] env st ((g55k0) .normal)) = fun env st => g55b10_15 (env 0) (env 17) st := by
  refine Eq.trans (ops_cut (l1 := [15, 16, 17, 18, 19, 20, 21, 22]) (l2 := [23, 24, 25, 26, 27, 28, 29, 30, 31, 32, 33, 34, 35, 36, 37, 38]) (g55e10_23)) ?_
  funext env st
  kernel_rfl
noncomputable def g55b10_7 (x0 : V) (x9 : V) (st : St) : Res :=
 A.guard x9 false
 (A.eql 2 false x0 (.int .u8 40) fun a1 =>
 A.guard a1 false
 (A.eql 2 false x0 (.int .u8 41) fun a2 =>
 g55b10_15 x0 a2 st)
 (g55b10_15 x0 (.bool true) st))
 (g55b10_15 x0 (.bool true) st)
theorem g55e10_7 : (fun env st => aops Try.prog g55mu g55T 41 (rops (g55C [1, 0])) [7, 8, 9, 10, 11, 12, 13, 14, 15, 16, 17, 18, 19, 20, 21, 22, 23, 24, 25, 26, 27, 28, 29, 30, 31, 32, 33, 34, 35, 36, 37, 38] env st ((g55k0) .normal)) = fun env st => g55b10_7 (env 0) (env 9) st := by
  refine Eq.trans (ops_cut (l1 := [7, 8, 9, 10, 11, 12, 13, 14]) (l2 := [15, 16, 17, 18, 19, 20, 21, 22, 23, 24, 25, 26, 27, 28, 29, 30, 31, 32, 33, 34, 35, 36, 37, 38]) (g55e10_15)) ?_
  funext env st
  kernel_rfl
noncomputable def f55 (x0 : V) (st : St) : Res :=
 A.eql 2 false x0 (.int .u8 123) fun a1 =>
 A.guard a1 false
 (A.eql 2 false x0 (.int .u8 125) fun a2 =>
 g55b10_7 x0 a2 st)
 (g55b10_7 x0 (.bool true) st)
theorem g55nr : g55C [] = .seq (g55C [0]) (g55C [1]) := by kernel_rfl
theorem g55n1 : g55C [1] = .seq (g55C [1, 0]) (g55C [1, 1]) := by kernel_rfl
theorem g55rg10 : g55C [1, 0] = .region 1 (rops (g55C [1, 0])) false := by kernel_rfl
theorem g55rg10l : List.range (rops (g55C [1, 0])).size = [0, 1, 2, 3, 4, 5, 6] ++ [7, 8, 9, 10, 11, 12, 13, 14, 15, 16, 17, 18, 19, 20, 21, 22, 23, 24, 25, 26, 27, 28, 29, 30, 31, 32, 33, 34, 35, 36, 37, 38] := by kernel_rfl
theorem g55er (env : Env) (st : St) : g55X (g55C []) g55kr env st = f55 (env 0) st := by
  rw [(g55seq g55nr ((g55seq g55n1 rfl).trans (g55reg g55rg10 g55rg10l (g55e10_7))))]
  kernel_rfl
theorem s55_eq (x0 : V) (st : St) : s55 [x0] st = f55 x0 st := by
  have h : afn Try.prog g55mu g55T big (areg Try.prog g55mu g55T) 55 [x0] st = g55X (g55C []) g55kr (fun t => [x0].getD t (.tup [])) st := by kernel_rfl
  rw [s55, sealF_eq]
  exact h.trans (g55er _ st)
/-! sinew/sinewref08.Signs -/
def g27mu : Nat → Bool := fun _ => false
noncomputable def g27T : Tbl := tget [(54, s54), (55, s55)]
theorem g27t : SimT Try.prog g27T := simT_cons sim54 ( simT_cons sim55 (simT_nil))
noncomputable def s27 : Fn := sealF (fun args st => fg (afn Try.prog g27mu g27T big (areg Try.prog g27mu g27T) 27 args st) st)
theorem sim27 : Sim Try.prog 27 s27 := (afn_sim g27t (fun m => areg_sound g27t hmix m) 27 (by kernel_rfl)).fg.sealed
noncomputable def g27C (p : List Nat) : Code := sub (match Try.f27.body with | some c => c | none => .skip) p
noncomputable def g27X (c : Code) (K : Kon) : Env → St → Res := aexec Try.prog g27mu g27T big 97 (areg Try.prog g27mu g27T 97) c K
noncomputable def g27kr : Kon := aresK Try.prog Try.f27.results.toList
theorem g27reg {c : Code} {K : Kon} {G : Env → St → Res} {id : Nat} {ops : Array Oper} {l1 l2 : List Nat} (hc : c = .region id ops false) (hl : List.range ops.size = l1 ++ l2) (h : (fun env st => aops Try.prog g27mu g27T 97 ops l2 env st (K .normal)) = G) : g27X c K = fun env st => aops Try.prog g27mu g27T 97 ops l1 env st G := reg_cut hc hl h
theorem g27seq {c x y : Code} {K : Kon} {G : Env → St → Res} (hc : c = .seq x y) (hy : g27X y K = G) : g27X c K = g27X x (kSeq G K) := seq_cut hc hy
theorem g27blk {c x : Code} {K : Kon} {i : Nat} (hc : c = .block i x) : g27X c K = g27X x (kBlk i K) := blk_cut hc
theorem g27loop {c x : Code} {K : Kon} (hc : c = .loop x) : g27X c K = aloop (g27X x) K big := loop_cut hc
theorem g27cond {c x y : Code} {K : Kon} {v : Operand} {F G : Env → St → Res} (hc : c = .cond v x y) (hx : g27X x K = F) (hy : g27X y K = G) : g27X c K = condF v F G := cond_cut hc hx hy
noncomputable def g27k0 : Kon := kSeq (g27X (g27C [1, 1, 1, 1]) (g27kr)) (g27kr)
noncomputable def g27k1 : Kon := kBlk 0 (g27k0)
noncomputable def g27k2 (Lz3e : V → V → V → St → Res) : Kon := kSeq (fun env st => Lz3e (env 0) (env 5) (env 6) st) (g27k1)
noncomputable def g27k3 (Lz3e : V → V → V → St → Res) : Kon := kBlk 1 (g27k2 Lz3e)
noncomputable def g27bz1ccf (Lz3e : V → V → V → St → Res) (x0 : V) (x5 : V) (x6 : V) (x8 : V) (st : St) : Res :=
 A.faddr 1 x8 fun a1 =>
 A.load false 1 a1 st fun a2 z3 =>
 A.lenS a2 fun a4 =>
 A.bin .add x6 a4 fun a5 =>
 A.faddr 0 x8 fun a6 =>
 A.load false 1 a6 z3 fun a7 z8 =>
 A.eql 2 false a7 (.int .i64 2) fun a9 =>
 A.cond a9
 (A.bin .add a5 (.int .i64 1) fun a10 =>
 Lz3e x0 x5 a10 z8)
 (Lz3e x0 x5 a5 z8)
theorem g27ez1ccf (Lz3e : V → V → V → St → Res) : g27X (g27C [1, 1, 1, 0, 1, 0, 0, 1, 0, 1, 1, 1, 1, 1, 1]) (g27k3 Lz3e) = fun env st => g27bz1ccf Lz3e (env 0) (env 5) (env 6) (env 8) st := by
  refine Eq.trans (Eq.refl (g27X (g27C [1, 1, 1, 0, 1, 0, 0, 1, 0, 1, 1, 1, 1, 1, 1]) (g27k3 Lz3e))) ?_
  funext env st
  kernel_rfl
noncomputable def g27bzc33 (Lz3e : V → V → V → St → Res) (x0 : V) (x5 : V) (x6 : V) (x8 : V) (st : St) : Res :=
 A.faddr 1 x8 fun a1 =>
 A.load false 1 a1 st fun a2 z3 =>
 A.lenS a2 fun a4 =>
 A.bin .gtr a4 (.int .i64 16) fun a5 =>
 A.cond a5
 (some (.ret (.tup [((.lst [] 1) : V).er1, x6.er1, ((.int .i64 80) : V).er1]), z3))
 (A.load true 3 x8 z3 fun a6 z7 =>
 A.bslice 3 (.agg [(.int .i64 0), (.str []), (.int .i64 0)]) 1 [(0, a6)] fun a8 =>
 A.app 3 x5 (elemsOf 5 3 a8 z7) z7 fun a9 z10 =>
 g27bz1ccf Lz3e x0 a9 x6 x8 z10)
theorem g27nzc33 : g27C [1, 1, 1, 0, 1, 0, 0, 1, 0, 1, 1, 1, 1] = .seq (g27C [1, 1, 1, 0, 1, 0, 0, 1, 0, 1, 1, 1, 1, 0]) (g27C [1, 1, 1, 0, 1, 0, 0, 1, 0, 1, 1, 1, 1, 1]) := by kernel_rfl
theorem g27nzo67 : g27C [1, 1, 1, 0, 1, 0, 0, 1, 0, 1, 1, 1, 1, 1] = .seq (g27C [1, 1, 1, 0, 1, 0, 0, 1, 0, 1, 1, 1, 1, 1, 0]) (g27C [1, 1, 1, 0, 1, 0, 0, 1, 0, 1, 1, 1, 1, 1, 1]) := by kernel_rfl
theorem g27ezc33 (Lz3e : V → V → V → St → Res) : g27X (g27C [1, 1, 1, 0, 1, 0, 0, 1, 0, 1, 1, 1, 1]) (g27k3 Lz3e) = fun env st => g27bzc33 Lz3e (env 0) (env 5) (env 6) (env 8) st := by
  refine Eq.trans (g27seq g27nzc33 (g27seq g27nzo67 (g27ez1ccf Lz3e))) ?_
  funext env st
  kernel_rfl
noncomputable def g27k4 (Lz3e : V → V → V → St → Res) : Kon := kSeq (fun env st => g27bzc33 Lz3e (env 0) (env 5) (env 6) (env 8) st) (g27k3 Lz3e)
noncomputable def g27bzaqqn (Lz3e : V → V → V → St → Res) (x0 : V) (x5 : V) (x6 : V) (x7 : V) (x8 : V) (x10 : V) (x62 : V) (st : St) : Res :=
 A.cond x62
 (A.faddr 0 x8 fun a1 =>
 A.store 1 a1 (.int .i64 2) st fun z2 =>
 A.bin .add x6 (.int .i64 1) fun a3 =>
 A.bin .add x6 (.int .i64 1) fun a4 =>
 A.bin .add a4 x10 fun a5 =>
 A.sliceS x0 (some a3) (some a5) fun a6 =>
 A.faddr 1 x8 fun a7 =>
 A.store 1 a7 a6 z2 fun z8 =>
 g27bzc33 Lz3e x0 x5 x6 x8 z8)
 (A.ret (s55 [x7.er1] st) fun a9 z10 =>
 A.un .not a9 fun a11 =>
 A.cond a11
 (some (.ret (.tup [((.lst [] 1) : V).er1, x6.er1, ((.int .i64 80) : V).er1]), z10))
 (g27bzc33 Lz3e x0 x5 x6 x8 z10))
theorem g27ezaqqn (Lz3e : V → V → V → St → Res) : g27X (g27C [1, 1, 1, 0, 1, 0, 0, 1, 0, 1, 1, 1, 0, 1, 1, 1, 1, 1]) (g27k4 Lz3e) = fun env st => g27bzaqqn Lz3e (env 0) (env 5) (env 6) (env 7) (env 8) (env 10) (env 62) st := by
  refine Eq.trans (Eq.refl (g27X (g27C [1, 1, 1, 0, 1, 0, 0, 1, 0, 1, 1, 1, 0, 1, 1, 1, 1, 1]) (g27k4 Lz3e))) ?_
  funext env st
  kernel_rfl
noncomputable def g27bzo65 (Lz3e : V → V → V → St → Res) (x0 : V) (x5 : V) (x6 : V) (x7 : V) (x8 : V) (x9 : V) (st : St) : Res :=
 A.bin .gtr x9 (.int .i64 0) fun a1 =>
 A.cond a1
 (A.faddr 0 x8 fun a2 =>
 A.store 1 a2 (.int .i64 1) st fun z3 =>
 A.bin .add x6 x9 fun a4 =>
 A.sliceS x0 (some x6) (some a4) fun a5 =>
 A.faddr 1 x8 fun a6 =>
 A.store 1 a6 a5 z3 fun z7 =>
 g27bzc33 Lz3e x0 x5 x6 x8 z7)
 (A.bin .add x6 (.int .i64 1) fun a8 =>
 A.ret (s54 [x0.er1, a8.er1] st) fun a9 z10 =>
 A.eql 2 false x7 (.int .u8 63) fun a11 =>
 A.guard a11 true
 (A.bin .gtr a9 (.int .i64 0) fun a12 =>
 g27bzaqqn Lz3e x0 x5 x6 x7 x8 a9 a12 z10)
 (g27bzaqqn Lz3e x0 x5 x6 x7 x8 a9 (.bool false) z10))
theorem g27nzo65 : g27C [1, 1, 1, 0, 1, 0, 0, 1, 0, 1, 1, 1, 0, 1] = .seq (g27C [1, 1, 1, 0, 1, 0, 0, 1, 0, 1, 1, 1, 0, 1, 0]) (g27C [1, 1, 1, 0, 1, 0, 0, 1, 0, 1, 1, 1, 0, 1, 1]) := by kernel_rfl
theorem g27nz1ccb : g27C [1, 1, 1, 0, 1, 0, 0, 1, 0, 1, 1, 1, 0, 1, 1] = .cond (.tmp 44) (g27C [1, 1, 1, 0, 1, 0, 0, 1, 0, 1, 1, 1, 0, 1, 1, 0]) (g27C [1, 1, 1, 0, 1, 0, 0, 1, 0, 1, 1, 1, 0, 1, 1, 1]) := by kernel_rfl
theorem g27nz2oon : g27C [1, 1, 1, 0, 1, 0, 0, 1, 0, 1, 1, 1, 0, 1, 1, 1] = .seq (g27C [1, 1, 1, 0, 1, 0, 0, 1, 0, 1, 1, 1, 0, 1, 1, 1, 0]) (g27C [1, 1, 1, 0, 1, 0, 0, 1, 0, 1, 1, 1, 0, 1, 1, 1, 1]) := by kernel_rfl
theorem g27nz5ddb : g27C [1, 1, 1, 0, 1, 0, 0, 1, 0, 1, 1, 1, 0, 1, 1, 1, 1] = .seq (g27C [1, 1, 1, 0, 1, 0, 0, 1, 0, 1, 1, 1, 0, 1, 1, 1, 1, 0]) (g27C [1, 1, 1, 0, 1, 0, 0, 1, 0, 1, 1, 1, 0, 1, 1, 1, 1, 1]) := by kernel_rfl
theorem g27ezo65 (Lz3e : V → V → V → St → Res) : g27X (g27C [1, 1, 1, 0, 1, 0, 0, 1, 0, 1, 1, 1, 0, 1]) (g27k4 Lz3e) = fun env st => g27bzo65 Lz3e (env 0) (env 5) (env 6) (env 7) (env 8) (env 9) st := by
  refine Eq.trans (g27seq g27nzo65 (g27cond g27nz1ccb rfl (g27seq g27nz2oon (g27seq g27nz5ddb (g27ezaqqn Lz3e))))) ?_
  funext env st
  kernel_rfl
noncomputable def g27bz30r (Lz3e : V → V → V → St → Res) (x0 : V) (x5 : V) (x6 : V) (x7 : V) (st : St) : Res :=
 A.bin .add x6 (.int .i64 1) fun a1 =>
 A.sliceS x0 (some x6) (some a1) fun a2 =>
 A.build [(.int .i64 0), (.str []), (.int .i64 0)] [(0, 1, (.int .i64 3)), (1, 1, a2), (2, 1, x6)] fun a3 =>
 A.box (.agg [(.int .i64 0), (.str []), (.int .i64 0)]) st fun a4 z5 =>
 A.store 3 a4 a3 z5 fun z6 =>
 A.ret (s54 [x0.er1, x6.er1] z6) fun a7 z8 =>
 g27bzo65 Lz3e x0 x5 x6 x7 a4 a7 z8
theorem g27nz30r : g27C [1, 1, 1, 0, 1, 0, 0, 1, 0, 1, 1] = .seq (g27C [1, 1, 1, 0, 1, 0, 0, 1, 0, 1, 1, 0]) (g27C [1, 1, 1, 0, 1, 0, 0, 1, 0, 1, 1, 1]) := by kernel_rfl
theorem g27nz61j : g27C [1, 1, 1, 0, 1, 0, 0, 1, 0, 1, 1, 1] = .seq (g27C [1, 1, 1, 0, 1, 0, 0, 1, 0, 1, 1, 1, 0]) (g27C [1, 1, 1, 0, 1, 0, 0, 1, 0, 1, 1, 1, 1]) := by kernel_rfl
theorem g27nzc32 : g27C [1, 1, 1, 0, 1, 0, 0, 1, 0, 1, 1, 1, 0] = .seq (g27C [1, 1, 1, 0, 1, 0, 0, 1, 0, 1, 1, 1, 0, 0]) (g27C [1, 1, 1, 0, 1, 0, 0, 1, 0, 1, 1, 1, 0, 1]) := by kernel_rfl
theorem g27ez30r (Lz3e : V → V → V → St → Res) : g27X (g27C [1, 1, 1, 0, 1, 0, 0, 1, 0, 1, 1]) (g27k3 Lz3e) = fun env st => g27bz30r Lz3e (env 0) (env 5) (env 6) (env 7) st := by
  refine Eq.trans (g27seq g27nz30r ((g27seq g27nz61j (g27ezc33 Lz3e)).trans (g27seq g27nzc32 (g27ezo65 Lz3e)))) ?_
  funext env st
  kernel_rfl
noncomputable def g27bz3e : Nat → V → V → V → St → Res
| 0, _, _, _, _ => none
| n + 1, x0, x5, x6, st =>
 A.lenS x0 fun a1 =>
 A.bin .lss x6 a1 fun a2 =>
 A.cond a2
 (A.idxS x0 x6 fun a3 =>
 A.eql 2 false a3 (.int .u8 32) fun a4 =>
 A.guard a4 false
 (A.eql 2 false a3 (.int .u8 9) fun a5 =>
 A.guard a5 false
 (A.eql 2 false a3 (.int .u8 10) fun a6 =>
 A.cond a6
 (A.bin .add x6 (.int .i64 1) fun a7 =>
 (g27bz3e n) x0 x5 a7 st)
 (g27bz30r (g27bz3e n) x0 x5 x6 a3 st))
 (A.bin .add x6 (.int .i64 1) fun a8 =>
 (g27bz3e n) x0 x5 a8 st))
 (A.bin .add x6 (.int .i64 1) fun a9 =>
 (g27bz3e n) x0 x5 a9 st))
 (some (.ret (.tup [x5.er1, ((.int .i64 0) : V).er1, ((.int .i64 0) : V).er1]), st))
theorem g27nz3e : g27C [1, 1, 1, 0, 1, 0] = .loop (g27C [1, 1, 1, 0, 1, 0, 0]) := by kernel_rfl
theorem g27nz6s : g27C [1, 1, 1, 0, 1, 0, 0] = .seq (g27C [1, 1, 1, 0, 1, 0, 0, 0]) (g27C [1, 1, 1, 0, 1, 0, 0, 1]) := by kernel_rfl
theorem g27nzdl : g27C [1, 1, 1, 0, 1, 0, 0, 1] = .block 1 (g27C [1, 1, 1, 0, 1, 0, 0, 1, 0]) := by kernel_rfl
theorem g27nzr6 : g27C [1, 1, 1, 0, 1, 0, 0, 1, 0] = .seq (g27C [1, 1, 1, 0, 1, 0, 0, 1, 0, 0]) (g27C [1, 1, 1, 0, 1, 0, 0, 1, 0, 1]) := by kernel_rfl
theorem g27nz1id : g27C [1, 1, 1, 0, 1, 0, 0, 1, 0, 1] = .seq (g27C [1, 1, 1, 0, 1, 0, 0, 1, 0, 1, 0]) (g27C [1, 1, 1, 0, 1, 0, 0, 1, 0, 1, 1]) := by kernel_rfl
theorem g27ez3e : g27X (g27C [1, 1, 1, 0, 1, 0]) (g27k1) = fun env st => g27bz3e big (env 0) (env 5) (env 6) st := by
  have key : ∀ n, aloop (g27X (g27C [1, 1, 1, 0, 1, 0, 0])) (g27k1) n = fun env st => g27bz3e n (env 0) (env 5) (env 6) st := by
    intro n
    induction n with
    | zero => rfl
    | succ n ih =>
      have h : aloop (g27X (g27C [1, 1, 1, 0, 1, 0, 0])) (g27k1) (n + 1) = g27X (g27C [1, 1, 1, 0, 1, 0, 0]) (kSeq (aloop (g27X (g27C [1, 1, 1, 0, 1, 0, 0])) (g27k1) n) (g27k1)) := rfl
      rw [h, ih]
      refine Eq.trans (g27seq g27nz6s ((g27blk g27nzdl).trans (g27seq g27nzr6 (g27seq g27nz1id (g27ez30r (g27bz3e n)))))) ?_
      funext env st
      kernel_rfl
  exact (g27loop g27nz3e).trans (key big)
noncomputable def g27b11101 (x0 : V) (x5 : V) (x6 : V) (st : St) : Res :=
 g27bz3e big x0 x5 x6 st
theorem g27n11101 : g27C [1, 1, 1, 0, 1] = .block 0 (g27C [1, 1, 1, 0, 1, 0]) := by kernel_rfl
theorem g27e11101 : g27X (g27C [1, 1, 1, 0, 1]) (g27k0) = fun env st => g27b11101 (env 0) (env 5) (env 6) st := by
  refine Eq.trans ((g27blk g27n11101).trans (g27ez3e)) ?_
  funext env st
  kernel_rfl
noncomputable def f27 (x0 : V) (st : St) : Res :=
 A.lenS x0 fun a1 =>
 A.bin .gtr a1 (.int .i64 4096) fun a2 =>
 A.cond a2
 (some (.ret (.tup [((.lst [] 1) : V).er1, ((.int .i64 0) : V).er1, ((.int .i64 1) : V).er1]), st))
 (g27b11101 x0 (.lst [] 1) (.int .i64 0) st)
theorem g27nr : g27C [] = .seq (g27C [0]) (g27C [1]) := by kernel_rfl
theorem g27n1 : g27C [1] = .seq (g27C [1, 0]) (g27C [1, 1]) := by kernel_rfl
theorem g27n11 : g27C [1, 1] = .seq (g27C [1, 1, 0]) (g27C [1, 1, 1]) := by kernel_rfl
theorem g27n111 : g27C [1, 1, 1] = .seq (g27C [1, 1, 1, 0]) (g27C [1, 1, 1, 1]) := by kernel_rfl
theorem g27n1110 : g27C [1, 1, 1, 0] = .seq (g27C [1, 1, 1, 0, 0]) (g27C [1, 1, 1, 0, 1]) := by kernel_rfl
theorem g27er (env : Env) (st : St) : g27X (g27C []) g27kr env st = f27 (env 0) st := by
  rw [(g27seq g27nr (g27seq g27n1 (g27seq g27n11 ((g27seq g27n111 rfl).trans (g27seq g27n1110 (g27e11101))))))]
  kernel_rfl
theorem s27_eq (x0 : V) (st : St) : s27 [x0] st = fg (f27 x0 st) st := by
  have h : afn Try.prog g27mu g27T big (areg Try.prog g27mu g27T) 27 [x0] st = g27X (g27C []) g27kr (fun t => [x0].getD t (.tup [])) st := by kernel_rfl
  rw [s27, sealF_eq]
  show fg _ st = fg _ st
  refine congrArg (fun r => fg r st) ?_
  exact h.trans (g27er _ st)
/-! (*sinew/sinewref09.reader).now -/
def g56mu : Nat → Bool := fun _ => false
noncomputable def g56T : Tbl := tget []
theorem g56t : SimT Try.prog g56T := simT_nil
noncomputable def s56 : Fn := sealF (afn Try.prog g56mu g56T big (areg Try.prog g56mu g56T) 56)
theorem sim56 : Sim Try.prog 56 s56 := (afn_sim g56t (fun m => areg_sound g56t hmix m) 56 (by kernel_rfl)).sealed
noncomputable def g56C (p : List Nat) : Code := sub (match Try.f56.body with | some c => c | none => .skip) p
noncomputable def g56X (c : Code) (K : Kon) : Env → St → Res := aexec Try.prog g56mu g56T big 28 (areg Try.prog g56mu g56T 28) c K
noncomputable def g56kr : Kon := aresK Try.prog Try.f56.results.toList
theorem g56reg {c : Code} {K : Kon} {G : Env → St → Res} {id : Nat} {ops : Array Oper} {l1 l2 : List Nat} (hc : c = .region id ops false) (hl : List.range ops.size = l1 ++ l2) (h : (fun env st => aops Try.prog g56mu g56T 28 ops l2 env st (K .normal)) = G) : g56X c K = fun env st => aops Try.prog g56mu g56T 28 ops l1 env st G := reg_cut hc hl h
theorem g56seq {c x y : Code} {K : Kon} {G : Env → St → Res} (hc : c = .seq x y) (hy : g56X y K = G) : g56X c K = g56X x (kSeq G K) := seq_cut hc hy
theorem g56blk {c x : Code} {K : Kon} {i : Nat} (hc : c = .block i x) : g56X c K = g56X x (kBlk i K) := blk_cut hc
theorem g56loop {c x : Code} {K : Kon} (hc : c = .loop x) : g56X c K = aloop (g56X x) K big := loop_cut hc
theorem g56cond {c x y : Code} {K : Kon} {v : Operand} {F G : Env → St → Res} (hc : c = .cond v x y) (hx : g56X x K = F) (hy : g56X y K = G) : g56X c K = condF v F G := cond_cut hc hx hy
noncomputable def g56b11 (x0 : V) (x2 : V) (st : St) : Res :=
 A.nilc x0 fun a1 =>
 A.faddr 2 a1 fun a2 =>
 A.load false 1 a2 st fun a3 z4 =>
 A.build [(.int .i64 0), (.str []), (.int .i64 0)] [(2, 1, a3)] fun a5 =>
 A.store 3 x2 a5 z4 fun z6 =>
 A.res (rcell (A.load true 3 x2 z6 kid) (some [])) z6
theorem g56e11 : g56X (g56C [1, 1]) (g56kr) = fun env st => g56b11 (env 0) (env 2) st := by
  refine Eq.trans (Eq.refl (g56X (g56C [1, 1]) (g56kr))) ?_
  funext env st
  kernel_rfl
noncomputable def g56k0 : Kon := kSeq (fun env st => g56b11 (env 0) (env 2) st) (g56kr)
noncomputable def g56b101 (x0 : V) (x2 : V) (x12 : V) (st : St) : Res :=
 A.cond x12
 (A.nilc x0 fun a1 =>
 A.faddr 0 a1 fun a2 =>
 A.load false 1 a2 st fun a3 _ =>
 A.nilc x0 fun a4 =>
 A.faddr 1 a4 fun a5 =>
 A.load false 1 a5 st fun a6 _ =>
 A.iaddr 3 a3 a6 fun a7 =>
 A.load true 3 a7 st fun a8 _ =>
 A.ret (A.store 3 x2 a8 st fun s => kid (.tup []) s) fun a9 z10 =>
 A.res (rcell (A.load true 3 x2 z10 kid) (some [])) z10)
 (g56b11 x0 x2 st)
theorem g56e101 : g56X (g56C [1, 0, 1]) (g56k0) = fun env st => g56b101 (env 0) (env 2) (env 12) st := by
  refine Eq.trans (Eq.refl (g56X (g56C [1, 0, 1]) (g56k0))) ?_
  funext env st
  kernel_rfl
noncomputable def f56 (x0 : V) (st : St) : Res :=
 A.box (.agg [(.int .i64 0), (.str []), (.int .i64 0)]) st fun a1 z2 =>
 A.nilc x0 fun a3 =>
 A.faddr 1 a3 fun a4 =>
 A.load false 1 a4 z2 fun a5 _ =>
 A.nilc x0 fun a6 =>
 A.faddr 0 a6 fun a7 =>
 A.load false 1 a7 z2 fun a8 _ =>
 A.lenL a8 fun a9 =>
 A.bin .lss a5 a9 fun a10 =>
 g56b101 x0 a1 a10 z2
theorem g56nr : g56C [] = .seq (g56C [0]) (g56C [1]) := by kernel_rfl
theorem g56n1 : g56C [1] = .seq (g56C [1, 0]) (g56C [1, 1]) := by kernel_rfl
theorem g56n10 : g56C [1, 0] = .seq (g56C [1, 0, 0]) (g56C [1, 0, 1]) := by kernel_rfl
theorem g56er (env : Env) (st : St) : g56X (g56C []) g56kr env st = f56 (env 0) st := by
  rw [(g56seq g56nr ((g56seq g56n1 (g56e11)).trans (g56seq g56n10 (g56e101))))]
  kernel_rfl
theorem s56_eq (x0 : V) (st : St) : s56 [x0] st = f56 x0 st := by
  have h : afn Try.prog g56mu g56T big (areg Try.prog g56mu g56T) 56 [x0] st = g56X (g56C []) g56kr (fun t => [x0].getD t (.tup [])) st := by kernel_rfl
  rw [s56, sealF_eq]
  exact h.trans (g56er _ st)
/-! (*sinew/sinewref09.reader).fails -/
def g60mu : Nat → Bool := fun _ => false
noncomputable def g60T : Tbl := tget [(56, s56)]
theorem g60t : SimT Try.prog g60T := simT_cons sim56 (simT_nil)
noncomputable def s60 : Fn := sealF (afn Try.prog g60mu g60T big (areg Try.prog g60mu g60T) 60)
theorem sim60 : Sim Try.prog 60 s60 := (afn_sim g60t (fun m => areg_sound g60t hmix m) 60 (by kernel_rfl)).sealed
noncomputable def f60 (x0 : V) (st : St) : Res :=
 A.nilc x0 fun a1 =>
 A.faddr 3 a1 fun a2 =>
 A.load false 1 a2 st fun a3 z4 =>
 A.un .not a3 fun a5 =>
 A.cond a5
 (A.nilc x0 fun a6 =>
 A.faddr 3 a6 fun a7 =>
 A.store 1 a7 (.bool true) z4 fun z8 =>
 A.ret (s56 [x0.er1] z8) fun a9 z10 =>
 A.field false 1 2 a9 fun a11 =>
 A.nilc x0 fun a12 =>
 A.faddr 4 a12 fun a13 =>
 A.store 1 a13 a11 z10 fun z14 =>
 some (.ret (.tup []), z14))
 (some (.ret (.tup []), z4))
theorem s60_eq (x0 : V) (st : St) : s60 [x0] st = f60 x0 st := by
  rw [s60, sealF_eq]
  kernel_rfl
/-! (*sinew/sinewref09.reader).mark -/
def g59mu : Nat → Bool := fun _ => false
noncomputable def g59T : Tbl := tget [(56, s56)]
theorem g59t : SimT Try.prog g59T := simT_cons sim56 (simT_nil)
noncomputable def s59 : Fn := sealF (afn Try.prog g59mu g59T big (areg Try.prog g59mu g59T) 59)
theorem sim59 : Sim Try.prog 59 s59 := (afn_sim g59t (fun m => areg_sound g59t hmix m) 59 (by kernel_rfl)).sealed
noncomputable def g59C (p : List Nat) : Code := sub (match Try.f59.body with | some c => c | none => .skip) p
noncomputable def g59X (c : Code) (K : Kon) : Env → St → Res := aexec Try.prog g59mu g59T big 23 (areg Try.prog g59mu g59T 23) c K
noncomputable def g59kr : Kon := aresK Try.prog Try.f59.results.toList
theorem g59reg {c : Code} {K : Kon} {G : Env → St → Res} {id : Nat} {ops : Array Oper} {l1 l2 : List Nat} (hc : c = .region id ops false) (hl : List.range ops.size = l1 ++ l2) (h : (fun env st => aops Try.prog g59mu g59T 23 ops l2 env st (K .normal)) = G) : g59X c K = fun env st => aops Try.prog g59mu g59T 23 ops l1 env st G := reg_cut hc hl h
theorem g59seq {c x y : Code} {K : Kon} {G : Env → St → Res} (hc : c = .seq x y) (hy : g59X y K = G) : g59X c K = g59X x (kSeq G K) := seq_cut hc hy
theorem g59blk {c x : Code} {K : Kon} {i : Nat} (hc : c = .block i x) : g59X c K = g59X x (kBlk i K) := blk_cut hc
theorem g59loop {c x : Code} {K : Kon} (hc : c = .loop x) : g59X c K = aloop (g59X x) K big := loop_cut hc
theorem g59cond {c x y : Code} {K : Kon} {v : Operand} {F G : Env → St → Res} (hc : c = .cond v x y) (hx : g59X x K = F) (hy : g59X y K = G) : g59X c K = condF v F G := cond_cut hc hx hy
noncomputable def g59k0 : Kon := kSeq (g59X (g59C [1, 1]) (g59kr)) (g59kr)
noncomputable def g59b10_12 (x0 : V) (x1 : V) (x16 : V) (st : St) : Res :=
 A.guard x16 true
 (A.ret (s56 [x0.er1] st) fun a1 z2 =>
 A.field false 1 1 a1 fun a3 =>
 A.eql 3 false a3 x1 fun a4 =>
 some (.ret a4.er1, z2))
 (some (.ret ((.bool false) : V).er1, st))
theorem g59e10_12 : (fun env st => aops Try.prog g59mu g59T 23 (rops (g59C [1, 0])) [12, 13, 14, 15, 16, 17, 18] env st ((g59k0) .normal)) = fun env st => g59b10_12 (env 0) (env 1) (env 16) st := by
  refine Eq.trans (Eq.refl _) ?_
  funext env st
  kernel_rfl
noncomputable def g59b10_6 (x0 : V) (x1 : V) (x10 : V) (st : St) : Res :=
 A.guard x10 true
 (A.ret (s56 [x0.er1] st) fun a1 z2 =>
 A.field false 1 0 a1 fun a3 =>
 A.eql 2 false a3 (.int .i64 3) fun a4 =>
 g59b10_12 x0 x1 a4 z2)
 (g59b10_12 x0 x1 (.bool false) st)
theorem g59e10_6 : (fun env st => aops Try.prog g59mu g59T 23 (rops (g59C [1, 0])) [6, 7, 8, 9, 10, 11, 12, 13, 14, 15, 16, 17, 18] env st ((g59k0) .normal)) = fun env st => g59b10_6 (env 0) (env 1) (env 10) st := by
  refine Eq.trans (ops_cut (l1 := [6, 7, 8, 9, 10, 11]) (l2 := [12, 13, 14, 15, 16, 17, 18]) (g59e10_12)) ?_
  funext env st
  kernel_rfl
noncomputable def f59 (x0 : V) (x1 : V) (st : St) : Res :=
 A.nilc x0 fun a1 =>
 A.faddr 3 a1 fun a2 =>
 A.load false 1 a2 st fun a3 z4 =>
 A.un .not a3 fun a5 =>
 g59b10_6 x0 x1 a5 z4
theorem g59nr : g59C [] = .seq (g59C [0]) (g59C [1]) := by kernel_rfl
theorem g59n1 : g59C [1] = .seq (g59C [1, 0]) (g59C [1, 1]) := by kernel_rfl
theorem g59rg10 : g59C [1, 0] = .region 1 (rops (g59C [1, 0])) false := by kernel_rfl
theorem g59rg10l : List.range (rops (g59C [1, 0])).size = [0, 1, 2, 3, 4, 5] ++ [6, 7, 8, 9, 10, 11, 12, 13, 14, 15, 16, 17, 18] := by kernel_rfl
theorem g59er (env : Env) (st : St) : g59X (g59C []) g59kr env st = f59 (env 0) (env 1) st := by
  rw [(g59seq g59nr ((g59seq g59n1 rfl).trans (g59reg g59rg10 g59rg10l (g59e10_6))))]
  kernel_rfl
theorem s59_eq (x0 : V) (x1 : V) (st : St) : s59 [x0, x1] st = f59 x0 x1 st := by
  have h : afn Try.prog g59mu g59T big (areg Try.prog g59mu g59T) 59 [x0, x1] st = g59X (g59C []) g59kr (fun t => [x0, x1].getD t (.tup [])) st := by kernel_rfl
  rw [s59, sealF_eq]
  exact h.trans (g59er _ st)
/-! (*sinew/sinewref09.reader).takes -/
def g85mu : Nat → Bool := fun _ => false
noncomputable def g85T : Tbl := tget [(56, s56), (60, s60)]
theorem g85t : SimT Try.prog g85T := simT_cons sim56 ( simT_cons sim60 (simT_nil))
noncomputable def s85 : Fn := sealF (afn Try.prog g85mu g85T big (areg Try.prog g85mu g85T) 85)
theorem sim85 : Sim Try.prog 85 s85 := (afn_sim g85t (fun m => areg_sound g85t hmix m) 85 (by kernel_rfl)).sealed
noncomputable def g85C (p : List Nat) : Code := sub (match Try.f85.body with | some c => c | none => .skip) p
noncomputable def g85X (c : Code) (K : Kon) : Env → St → Res := aexec Try.prog g85mu g85T big 29 (areg Try.prog g85mu g85T 29) c K
noncomputable def g85kr : Kon := aresK Try.prog Try.f85.results.toList
theorem g85reg {c : Code} {K : Kon} {G : Env → St → Res} {id : Nat} {ops : Array Oper} {l1 l2 : List Nat} (hc : c = .region id ops false) (hl : List.range ops.size = l1 ++ l2) (h : (fun env st => aops Try.prog g85mu g85T 29 ops l2 env st (K .normal)) = G) : g85X c K = fun env st => aops Try.prog g85mu g85T 29 ops l1 env st G := reg_cut hc hl h
theorem g85seq {c x y : Code} {K : Kon} {G : Env → St → Res} (hc : c = .seq x y) (hy : g85X y K = G) : g85X c K = g85X x (kSeq G K) := seq_cut hc hy
theorem g85blk {c x : Code} {K : Kon} {i : Nat} (hc : c = .block i x) : g85X c K = g85X x (kBlk i K) := blk_cut hc
theorem g85loop {c x : Code} {K : Kon} (hc : c = .loop x) : g85X c K = aloop (g85X x) K big := loop_cut hc
theorem g85cond {c x y : Code} {K : Kon} {v : Operand} {F G : Env → St → Res} (hc : c = .cond v x y) (hx : g85X x K = F) (hy : g85X y K = G) : g85X c K = condF v F G := cond_cut hc hx hy
noncomputable def g85b111 (x0 : V) (x5 : V) (st : St) : Res :=
 A.nilc x0 fun a1 =>
 A.faddr 1 a1 fun a2 =>
 A.load false 1 a2 st fun a3 z4 =>
 A.bin .add a3 (.int .i64 1) fun a5 =>
 A.nilc x0 fun a6 =>
 A.faddr 1 a6 fun a7 =>
 A.store 1 a7 a5 z4 fun z8 =>
 A.faddr 1 x5 fun a9 =>
 A.load false 1 a9 z8 fun a10 z11 =>
 some (.ret a10.er1, z11)
theorem g85e111 : g85X (g85C [1, 1, 1]) (g85kr) = fun env st => g85b111 (env 0) (env 5) st := by
  refine Eq.trans (Eq.refl (g85X (g85C [1, 1, 1]) (g85kr))) ?_
  funext env st
  kernel_rfl
noncomputable def f85 (x0 : V) (x1 : V) (st : St) : Res :=
 A.ret (s56 [x0.er1] st) fun a1 z2 =>
 A.box (.agg [(.int .i64 0), (.str []), (.int .i64 0)]) z2 fun a3 z4 =>
 A.store 3 a3 a1 z4 fun z5 =>
 A.nilc x0 fun a6 =>
 A.faddr 3 a6 fun a7 =>
 A.load false 1 a7 z5 fun a8 z9 =>
 A.guard a8 false
 (A.faddr 0 a3 fun a10 =>
 A.load false 1 a10 z9 fun a11 z12 =>
 A.eql 2 true a11 x1 fun a13 =>
 A.cond a13
 (A.ret (s60 [x0.er1] z12) fun a14 z15 =>
 some (.ret ((.str []) : V).er1, z15))
 (g85b111 x0 a3 z12))
 (A.ret (s60 [x0.er1] z9) fun a16 z17 =>
 some (.ret ((.str []) : V).er1, z17))
theorem g85nr : g85C [] = .seq (g85C [0]) (g85C [1]) := by kernel_rfl
theorem g85n1 : g85C [1] = .seq (g85C [1, 0]) (g85C [1, 1]) := by kernel_rfl
theorem g85n11 : g85C [1, 1] = .seq (g85C [1, 1, 0]) (g85C [1, 1, 1]) := by kernel_rfl
theorem g85er (env : Env) (st : St) : g85X (g85C []) g85kr env st = f85 (env 0) (env 1) st := by
  rw [(g85seq g85nr (g85seq g85n1 (g85seq g85n11 (g85e111))))]
  kernel_rfl
theorem s85_eq (x0 : V) (x1 : V) (st : St) : s85 [x0, x1] st = f85 x0 x1 st := by
  have h : afn Try.prog g85mu g85T big (areg Try.prog g85mu g85T) 85 [x0, x1] st = g85X (g85C []) g85kr (fun t => [x0, x1].getD t (.tup [])) st := by kernel_rfl
  rw [s85, sealF_eq]
  exact h.trans (g85er _ st)
/-! (*sinew/sinewref09.reader).must -/
def g86mu : Nat → Bool := fun _ => false
noncomputable def g86T : Tbl := tget [(56, s56), (60, s60)]
theorem g86t : SimT Try.prog g86T := simT_cons sim56 ( simT_cons sim60 (simT_nil))
noncomputable def s86 : Fn := sealF (afn Try.prog g86mu g86T big (areg Try.prog g86mu g86T) 86)
theorem sim86 : Sim Try.prog 86 s86 := (afn_sim g86t (fun m => areg_sound g86t hmix m) 86 (by kernel_rfl)).sealed
noncomputable def g86C (p : List Nat) : Code := sub (match Try.f86.body with | some c => c | none => .skip) p
noncomputable def g86X (c : Code) (K : Kon) : Env → St → Res := aexec Try.prog g86mu g86T big 33 (areg Try.prog g86mu g86T 33) c K
noncomputable def g86kr : Kon := aresK Try.prog Try.f86.results.toList
theorem g86reg {c : Code} {K : Kon} {G : Env → St → Res} {id : Nat} {ops : Array Oper} {l1 l2 : List Nat} (hc : c = .region id ops false) (hl : List.range ops.size = l1 ++ l2) (h : (fun env st => aops Try.prog g86mu g86T 33 ops l2 env st (K .normal)) = G) : g86X c K = fun env st => aops Try.prog g86mu g86T 33 ops l1 env st G := reg_cut hc hl h
theorem g86seq {c x y : Code} {K : Kon} {G : Env → St → Res} (hc : c = .seq x y) (hy : g86X y K = G) : g86X c K = g86X x (kSeq G K) := seq_cut hc hy
theorem g86blk {c x : Code} {K : Kon} {i : Nat} (hc : c = .block i x) : g86X c K = g86X x (kBlk i K) := blk_cut hc
theorem g86loop {c x : Code} {K : Kon} (hc : c = .loop x) : g86X c K = aloop (g86X x) K big := loop_cut hc
theorem g86cond {c x y : Code} {K : Kon} {v : Operand} {F G : Env → St → Res} (hc : c = .cond v x y) (hx : g86X x K = F) (hy : g86X y K = G) : g86X c K = condF v F G := cond_cut hc hx hy
noncomputable def g86k0 : Kon := kSeq (g86X (g86C [1]) (g86kr)) (g86kr)
noncomputable def g86k1 : Kon := kSeq (g86X (g86C [0, 1]) (g86k0)) (g86k0)
noncomputable def g86b00_12 (x0 : V) (x2 : V) (x17 : V) (st : St) : Res :=
 A.guard x17 false
 (A.ret (s56 [x0.er1] st) fun a1 z2 =>
 A.field false 1 1 a1 fun a3 =>
 A.eql 3 true a3 x2 fun a4 =>
 A.cond a4
 (A.ret (s60 [x0.er1] z2) fun a5 z6 =>
 some (.ret (.tup []), z6))
 (A.nilc x0 fun a7 =>
 A.faddr 1 a7 fun a8 =>
 A.load false 1 a8 z2 fun a9 z10 =>
 A.bin .add a9 (.int .i64 1) fun a11 =>
 A.nilc x0 fun a12 =>
 A.faddr 1 a12 fun a13 =>
 A.store 1 a13 a11 z10 fun z14 =>
 some (.ret (.tup []), z14)))
 (A.ret (s60 [x0.er1] st) fun a15 z16 =>
 some (.ret (.tup []), z16))
theorem g86e00_12 : (fun env st => aops Try.prog g86mu g86T 33 (rops (g86C [0, 0])) [12, 13, 14, 15, 16, 17] env st ((g86k1) .normal)) = fun env st => g86b00_12 (env 0) (env 2) (env 17) st := by
  refine Eq.trans (Eq.refl _) ?_
  funext env st
  kernel_rfl
noncomputable def f86 (x0 : V) (x1 : V) (x2 : V) (st : St) : Res :=
 A.nilc x0 fun a1 =>
 A.faddr 3 a1 fun a2 =>
 A.load false 1 a2 st fun a3 z4 =>
 A.guard a3 false
 (A.ret (s56 [x0.er1] z4) fun a5 z6 =>
 A.field false 1 0 a5 fun a7 =>
 A.eql 2 true a7 x1 fun a8 =>
 g86b00_12 x0 x2 a8 z6)
 (g86b00_12 x0 x2 (.bool true) z4)
theorem g86nr : g86C [] = .seq (g86C [0]) (g86C [1]) := by kernel_rfl
theorem g86n0 : g86C [0] = .seq (g86C [0, 0]) (g86C [0, 1]) := by kernel_rfl
theorem g86rg00 : g86C [0, 0] = .region 0 (rops (g86C [0, 0])) false := by kernel_rfl
theorem g86rg00l : List.range (rops (g86C [0, 0])).size = [0, 1, 2, 3, 4, 5, 6, 7, 8, 9, 10, 11] ++ [12, 13, 14, 15, 16, 17] := by kernel_rfl
theorem g86er (env : Env) (st : St) : g86X (g86C []) g86kr env st = f86 (env 0) (env 1) (env 2) st := by
  rw [((g86seq g86nr rfl).trans ((g86seq g86n0 rfl).trans (g86reg g86rg00 g86rg00l (g86e00_12))))]
  kernel_rfl
theorem s86_eq (x0 : V) (x1 : V) (x2 : V) (st : St) : s86 [x0, x1, x2] st = f86 x0 x1 x2 st := by
  have h : afn Try.prog g86mu g86T big (areg Try.prog g86mu g86T) 86 [x0, x1, x2] st = g86X (g86C []) g86kr (fun t => [x0, x1, x2].getD t (.tup [])) st := by kernel_rfl
  rw [s86, sealF_eq]
  exact h.trans (g86er _ st)
/-! (*sinew/sinewref09.reader).term -/
def g97mu : Nat → Bool := fun _ => false
noncomputable def g97T : Tbl := tget [(56, s56), (85, s85)]
theorem g97t : SimT Try.prog g97T := simT_cons sim56 ( simT_cons sim85 (simT_nil))
noncomputable def s97 : Fn := sealF (afn Try.prog g97mu g97T big (areg Try.prog g97mu g97T) 97)
theorem sim97 : Sim Try.prog 97 s97 := (afn_sim g97t (fun m => areg_sound g97t hmix m) 97 (by kernel_rfl)).sealed
noncomputable def f97 (x0 : V) (st : St) : Res :=
 A.box (.agg [(.bool false), (.str [])]) st fun a1 z2 =>
 A.ret (s56 [x0.er1] z2) fun a3 z4 =>
 A.field false 1 0 a3 fun a5 =>
 A.eql 2 false a5 (.int .i64 2) fun a6 =>
 A.cond a6
 (A.ret (s85 [x0.er1, ((.int .i64 2) : V).er1] z4) fun a7 z8 =>
 A.build [(.bool false), (.str [])] [(0, 1, (.bool true)), (1, 1, a7)] fun a9 =>
 A.store 2 a1 a9 z8 fun z10 =>
 A.res (rcell (A.load true 2 a1 z10 kid) (some [])) z10)
 (A.ret (s85 [x0.er1, ((.int .i64 1) : V).er1] z4) fun a11 z12 =>
 A.build [(.bool false), (.str [])] [(1, 1, a11)] fun a13 =>
 A.store 2 a1 a13 z12 fun z14 =>
 A.res (rcell (A.load true 2 a1 z14 kid) (some [])) z14)
theorem s97_eq (x0 : V) (st : St) : s97 [x0] st = f97 x0 st := by
  rw [s97, sealF_eq]
  kernel_rfl
/-! (*sinew/sinewref09.reader).path -/
def g98mu : Nat → Bool := fun _ => false
noncomputable def g98T (R : Nat → Fn) : Tbl := tget [(103, R 103), (59, s59)]
theorem g98t (R : Nat → Fn) (hR : ∀ j, j ∈ [98, 103, 105, 106] → Sim Try.prog j (R j)) : SimT Try.prog (g98T R) := simT_cons (hR 103 (by decide)) ( simT_cons sim59 (simT_nil))
noncomputable def g98C (p : List Nat) : Code := sub (match Try.f98.body with | some c => c | none => .skip) p
noncomputable def g98X (R : Nat → Fn) (c : Code) (K : Kon) : Env → St → Res := aexec Try.prog g98mu (g98T R) big 29 (areg Try.prog g98mu (g98T R) 29) c K
noncomputable def g98kr (R : Nat → Fn) : Kon := aresK Try.prog Try.f98.results.toList
theorem g98reg (R : Nat → Fn) {c : Code} {K : Kon} {G : Env → St → Res} {id : Nat} {ops : Array Oper} {l1 l2 : List Nat} (hc : c = .region id ops false) (hl : List.range ops.size = l1 ++ l2) (h : (fun env st => aops Try.prog g98mu (g98T R) 29 ops l2 env st (K .normal)) = G) : (g98X R) c K = fun env st => aops Try.prog g98mu (g98T R) 29 ops l1 env st G := reg_cut hc hl h
theorem g98seq (R : Nat → Fn) {c x y : Code} {K : Kon} {G : Env → St → Res} (hc : c = .seq x y) (hy : (g98X R) y K = G) : (g98X R) c K = (g98X R) x (kSeq G K) := seq_cut hc hy
theorem g98blk (R : Nat → Fn) {c x : Code} {K : Kon} {i : Nat} (hc : c = .block i x) : (g98X R) c K = (g98X R) x (kBlk i K) := blk_cut hc
theorem g98loop (R : Nat → Fn) {c x : Code} {K : Kon} (hc : c = .loop x) : (g98X R) c K = aloop ((g98X R) x) K big := loop_cut hc
theorem g98cond (R : Nat → Fn) {c x y : Code} {K : Kon} {v : Operand} {F G : Env → St → Res} (hc : c = .cond v x y) (hx : (g98X R) x K = F) (hy : (g98X R) y K = G) : (g98X R) c K = condF v F G := cond_cut hc hx hy
noncomputable def g98k0 (R : Nat → Fn) : Kon := kSeq ((g98X R) (g98C [1, 1, 1]) ((g98kr R))) ((g98kr R))
noncomputable def g98k1 (R : Nat → Fn) : Kon := kBlk 0 ((g98k0 R))
noncomputable def g98b1100 (R : Nat → Fn) : Nat → V → V → V → St → Res
| 0, _, _, _, _ => none
| n + 1, x0, x2, x3, st =>
 A.ret (s59 [x0.er1, ((.str [124]) : V).er1] st) fun a1 z2 =>
 A.cond a1
 (A.nilc x0 fun a3 =>
 A.faddr 1 a3 fun a4 =>
 A.load false 1 a4 z2 fun a5 z6 =>
 A.bin .add a5 (.int .i64 1) fun a7 =>
 A.nilc x0 fun a8 =>
 A.faddr 1 a8 fun a9 =>
 A.store 1 a9 a7 z6 fun z10 =>
 A.ret (R 103 [x0.er1] z10) fun a11 z12 =>
 A.bslice 3 (.agg [(.int .i64 0), (.str []), (.lst [] 1)]) 1 [(0, a11)] fun a13 =>
 A.app 3 x3 (elemsOf 5 3 a13 z12) z12 fun a14 z15 =>
 ((g98b1100 R) n) x0 x2 a14 z15)
 (A.lenL x3 fun a16 =>
 A.eql 2 false a16 (.int .i64 1) fun a17 =>
 A.cond a17
 (A.iaddr 3 x3 (.int .i64 0) fun a18 =>
 A.load true 3 a18 z2 fun a19 z20 =>
 A.store 3 x2 a19 z20 fun z21 =>
 A.res (rcell (A.load true 3 x2 z21 kid) (some [])) z21)
 (A.build [(.int .i64 0), (.str []), (.lst [] 1)] [(0, 1, (.int .i64 3)), (2, 1, x3)] fun a22 =>
 A.store 3 x2 a22 z2 fun z23 =>
 A.res (rcell (A.load true 3 x2 z23 kid) (some [])) z23))
theorem g98n1100 : g98C [1, 1, 0, 0] = .loop (g98C [1, 1, 0, 0, 0]) := by kernel_rfl
noncomputable def g98k2 (R : Nat → Fn) (L1100 : V → V → V → St → Res) : Kon := kSeq (fun env st => L1100 (env 0) (env 2) (env 3) st) ((g98k1 R))
theorem g98e1100 (R : Nat → Fn) : (g98X R) (g98C [1, 1, 0, 0]) ((g98k1 R)) = fun env st => (g98b1100 R) big (env 0) (env 2) (env 3) st := by
  have key : ∀ n, aloop ((g98X R) (g98C [1, 1, 0, 0, 0])) ((g98k1 R)) n = fun env st => (g98b1100 R) n (env 0) (env 2) (env 3) st := by
    intro n
    induction n with
    | zero => rfl
    | succ n ih =>
      have h : aloop ((g98X R) (g98C [1, 1, 0, 0, 0])) ((g98k1 R)) (n + 1) = (g98X R) (g98C [1, 1, 0, 0, 0]) (kSeq (aloop ((g98X R) (g98C [1, 1, 0, 0, 0])) ((g98k1 R)) n) ((g98k1 R))) := rfl
      rw [h, ih]
      refine Eq.trans (Eq.refl _) ?_
      funext env st
      kernel_rfl
  exact ((g98loop R) g98n1100).trans (key big)
noncomputable def f98 (R : Nat → Fn) (x0 : V) (st : St) : Res :=
 A.box (.agg [(.int .i64 0), (.str []), (.lst [] 1)]) st fun a1 z2 =>
 A.ret (R 103 [x0.er1] z2) fun a3 z4 =>
 A.bslice 3 (.agg [(.int .i64 0), (.str []), (.lst [] 1)]) 1 [(0, a3)] fun a5 =>
 (g98b1100 R) big x0 a1 a5 z4
theorem g98nr : g98C [] = .seq (g98C [0]) (g98C [1]) := by kernel_rfl
theorem g98n1 : g98C [1] = .seq (g98C [1, 0]) (g98C [1, 1]) := by kernel_rfl
theorem g98n11 : g98C [1, 1] = .seq (g98C [1, 1, 0]) (g98C [1, 1, 1]) := by kernel_rfl
theorem g98n110 : g98C [1, 1, 0] = .block 0 (g98C [1, 1, 0, 0]) := by kernel_rfl
theorem g98er (R : Nat → Fn) (env : Env) (st : St) : (g98X R) (g98C []) (g98kr R) env st = (f98 R) (env 0) st := by
  rw [((g98seq R) g98nr ((g98seq R) g98n1 (((g98seq R) g98n11 rfl).trans (((g98blk R) g98n110).trans ((g98e1100 R))))))]
  kernel_rfl
theorem s98R_eq (R : Nat → Fn) (x0 : V) (st : St) : afn Try.prog g98mu (g98T R) big (areg Try.prog g98mu (g98T R)) 98 [x0] st = (f98 R) x0 st := by
  have h : afn Try.prog g98mu (g98T R) big (areg Try.prog g98mu (g98T R)) 98 [x0] st = (g98X R) (g98C []) (g98kr R) (fun t => [x0].getD t (.tup [])) st := by kernel_rfl
  exact h.trans ((g98er R) _ st)
/-! (*sinew/sinewref09.reader).seq -/
def g103mu : Nat → Bool := fun _ => false
noncomputable def g103T (R : Nat → Fn) : Tbl := tget [(105, R 105), (59, s59)]
theorem g103t (R : Nat → Fn) (hR : ∀ j, j ∈ [98, 103, 105, 106] → Sim Try.prog j (R j)) : SimT Try.prog (g103T R) := simT_cons (hR 105 (by decide)) ( simT_cons sim59 (simT_nil))
noncomputable def g103C (p : List Nat) : Code := sub (match Try.f103.body with | some c => c | none => .skip) p
noncomputable def g103X (R : Nat → Fn) (c : Code) (K : Kon) : Env → St → Res := aexec Try.prog g103mu (g103T R) big 29 (areg Try.prog g103mu (g103T R) 29) c K
noncomputable def g103kr (R : Nat → Fn) : Kon := aresK Try.prog Try.f103.results.toList
theorem g103reg (R : Nat → Fn) {c : Code} {K : Kon} {G : Env → St → Res} {id : Nat} {ops : Array Oper} {l1 l2 : List Nat} (hc : c = .region id ops false) (hl : List.range ops.size = l1 ++ l2) (h : (fun env st => aops Try.prog g103mu (g103T R) 29 ops l2 env st (K .normal)) = G) : (g103X R) c K = fun env st => aops Try.prog g103mu (g103T R) 29 ops l1 env st G := reg_cut hc hl h
theorem g103seq (R : Nat → Fn) {c x y : Code} {K : Kon} {G : Env → St → Res} (hc : c = .seq x y) (hy : (g103X R) y K = G) : (g103X R) c K = (g103X R) x (kSeq G K) := seq_cut hc hy
theorem g103blk (R : Nat → Fn) {c x : Code} {K : Kon} {i : Nat} (hc : c = .block i x) : (g103X R) c K = (g103X R) x (kBlk i K) := blk_cut hc
theorem g103loop (R : Nat → Fn) {c x : Code} {K : Kon} (hc : c = .loop x) : (g103X R) c K = aloop ((g103X R) x) K big := loop_cut hc
theorem g103cond (R : Nat → Fn) {c x y : Code} {K : Kon} {v : Operand} {F G : Env → St → Res} (hc : c = .cond v x y) (hx : (g103X R) x K = F) (hy : (g103X R) y K = G) : (g103X R) c K = condF v F G := cond_cut hc hx hy
noncomputable def g103k0 (R : Nat → Fn) : Kon := kSeq ((g103X R) (g103C [1, 1, 1]) ((g103kr R))) ((g103kr R))
noncomputable def g103k1 (R : Nat → Fn) : Kon := kBlk 0 ((g103k0 R))
noncomputable def g103b1100 (R : Nat → Fn) : Nat → V → V → V → St → Res
| 0, _, _, _, _ => none
| n + 1, x0, x2, x3, st =>
 A.ret (s59 [x0.er1, ((.str [47]) : V).er1] st) fun a1 z2 =>
 A.cond a1
 (A.nilc x0 fun a3 =>
 A.faddr 1 a3 fun a4 =>
 A.load false 1 a4 z2 fun a5 z6 =>
 A.bin .add a5 (.int .i64 1) fun a7 =>
 A.nilc x0 fun a8 =>
 A.faddr 1 a8 fun a9 =>
 A.store 1 a9 a7 z6 fun z10 =>
 A.ret (R 105 [x0.er1] z10) fun a11 z12 =>
 A.bslice 3 (.agg [(.int .i64 0), (.str []), (.lst [] 1)]) 1 [(0, a11)] fun a13 =>
 A.app 3 x3 (elemsOf 5 3 a13 z12) z12 fun a14 z15 =>
 ((g103b1100 R) n) x0 x2 a14 z15)
 (A.lenL x3 fun a16 =>
 A.eql 2 false a16 (.int .i64 1) fun a17 =>
 A.cond a17
 (A.iaddr 3 x3 (.int .i64 0) fun a18 =>
 A.load true 3 a18 z2 fun a19 z20 =>
 A.store 3 x2 a19 z20 fun z21 =>
 A.res (rcell (A.load true 3 x2 z21 kid) (some [])) z21)
 (A.build [(.int .i64 0), (.str []), (.lst [] 1)] [(0, 1, (.int .i64 2)), (2, 1, x3)] fun a22 =>
 A.store 3 x2 a22 z2 fun z23 =>
 A.res (rcell (A.load true 3 x2 z23 kid) (some [])) z23))
theorem g103n1100 : g103C [1, 1, 0, 0] = .loop (g103C [1, 1, 0, 0, 0]) := by kernel_rfl
noncomputable def g103k2 (R : Nat → Fn) (L1100 : V → V → V → St → Res) : Kon := kSeq (fun env st => L1100 (env 0) (env 2) (env 3) st) ((g103k1 R))
theorem g103e1100 (R : Nat → Fn) : (g103X R) (g103C [1, 1, 0, 0]) ((g103k1 R)) = fun env st => (g103b1100 R) big (env 0) (env 2) (env 3) st := by
  have key : ∀ n, aloop ((g103X R) (g103C [1, 1, 0, 0, 0])) ((g103k1 R)) n = fun env st => (g103b1100 R) n (env 0) (env 2) (env 3) st := by
    intro n
    induction n with
    | zero => rfl
    | succ n ih =>
      have h : aloop ((g103X R) (g103C [1, 1, 0, 0, 0])) ((g103k1 R)) (n + 1) = (g103X R) (g103C [1, 1, 0, 0, 0]) (kSeq (aloop ((g103X R) (g103C [1, 1, 0, 0, 0])) ((g103k1 R)) n) ((g103k1 R))) := rfl
      rw [h, ih]
      refine Eq.trans (Eq.refl _) ?_
      funext env st
      kernel_rfl
  exact ((g103loop R) g103n1100).trans (key big)
noncomputable def f103 (R : Nat → Fn) (x0 : V) (st : St) : Res :=
 A.box (.agg [(.int .i64 0), (.str []), (.lst [] 1)]) st fun a1 z2 =>
 A.ret (R 105 [x0.er1] z2) fun a3 z4 =>
 A.bslice 3 (.agg [(.int .i64 0), (.str []), (.lst [] 1)]) 1 [(0, a3)] fun a5 =>
 (g103b1100 R) big x0 a1 a5 z4
theorem g103nr : g103C [] = .seq (g103C [0]) (g103C [1]) := by kernel_rfl
theorem g103n1 : g103C [1] = .seq (g103C [1, 0]) (g103C [1, 1]) := by kernel_rfl
theorem g103n11 : g103C [1, 1] = .seq (g103C [1, 1, 0]) (g103C [1, 1, 1]) := by kernel_rfl
theorem g103n110 : g103C [1, 1, 0] = .block 0 (g103C [1, 1, 0, 0]) := by kernel_rfl
theorem g103er (R : Nat → Fn) (env : Env) (st : St) : (g103X R) (g103C []) (g103kr R) env st = (f103 R) (env 0) st := by
  rw [((g103seq R) g103nr ((g103seq R) g103n1 (((g103seq R) g103n11 rfl).trans (((g103blk R) g103n110).trans ((g103e1100 R))))))]
  kernel_rfl
theorem s103R_eq (R : Nat → Fn) (x0 : V) (st : St) : afn Try.prog g103mu (g103T R) big (areg Try.prog g103mu (g103T R)) 103 [x0] st = (f103 R) x0 st := by
  have h : afn Try.prog g103mu (g103T R) big (areg Try.prog g103mu (g103T R)) 103 [x0] st = (g103X R) (g103C []) (g103kr R) (fun t => [x0].getD t (.tup [])) st := by kernel_rfl
  exact h.trans ((g103er R) _ st)
/-! (*sinew/sinewref09.reader).post -/
def g105mu : Nat → Bool := fun _ => false
noncomputable def g105T (R : Nat → Fn) : Tbl := tget [(106, R 106), (59, s59)]
theorem g105t (R : Nat → Fn) (hR : ∀ j, j ∈ [98, 103, 105, 106] → Sim Try.prog j (R j)) : SimT Try.prog (g105T R) := simT_cons (hR 106 (by decide)) ( simT_cons sim59 (simT_nil))
noncomputable def g105C (p : List Nat) : Code := sub (match Try.f105.body with | some c => c | none => .skip) p
noncomputable def g105X (R : Nat → Fn) (c : Code) (K : Kon) : Env → St → Res := aexec Try.prog g105mu (g105T R) big 27 (areg Try.prog g105mu (g105T R) 27) c K
noncomputable def g105kr (R : Nat → Fn) : Kon := aresK Try.prog Try.f105.results.toList
theorem g105reg (R : Nat → Fn) {c : Code} {K : Kon} {G : Env → St → Res} {id : Nat} {ops : Array Oper} {l1 l2 : List Nat} (hc : c = .region id ops false) (hl : List.range ops.size = l1 ++ l2) (h : (fun env st => aops Try.prog g105mu (g105T R) 27 ops l2 env st (K .normal)) = G) : (g105X R) c K = fun env st => aops Try.prog g105mu (g105T R) 27 ops l1 env st G := reg_cut hc hl h
theorem g105seq (R : Nat → Fn) {c x y : Code} {K : Kon} {G : Env → St → Res} (hc : c = .seq x y) (hy : (g105X R) y K = G) : (g105X R) c K = (g105X R) x (kSeq G K) := seq_cut hc hy
theorem g105blk (R : Nat → Fn) {c x : Code} {K : Kon} {i : Nat} (hc : c = .block i x) : (g105X R) c K = (g105X R) x (kBlk i K) := blk_cut hc
theorem g105loop (R : Nat → Fn) {c x : Code} {K : Kon} (hc : c = .loop x) : (g105X R) c K = aloop ((g105X R) x) K big := loop_cut hc
theorem g105cond (R : Nat → Fn) {c x y : Code} {K : Kon} {v : Operand} {F G : Env → St → Res} (hc : c = .cond v x y) (hx : (g105X R) x K = F) (hy : (g105X R) y K = G) : (g105X R) c K = condF v F G := cond_cut hc hx hy
noncomputable def g105k0 (R : Nat → Fn) : Kon := kBlk 0 ((g105kr R))
noncomputable def g105k1 (R : Nat → Fn) (L110 : V → V → V → St → Res) : Kon := kSeq (fun env st => L110 (env 0) (env 2) (env 3) st) ((g105k0 R))
noncomputable def g105k2 (R : Nat → Fn) (L110 : V → V → V → St → Res) : Kon := kBlk 1 ((g105k1 R) L110)
noncomputable def g105bz2tb (R : Nat → Fn) (L110 : V → V → V → St → Res) (x0 : V) (x2 : V) (x3 : V) (x4 : V) (st : St) : Res :=
 A.load true 3 x3 st fun a1 z2 =>
 A.bslice 3 (.agg [(.int .i64 0), (.str []), (.lst [] 1)]) 1 [(0, a1)] fun a3 =>
 A.build [(.int .i64 0), (.str []), (.lst [] 1)] [(0, 1, x4), (2, 1, a3)] fun a4 =>
 A.store 3 x3 a4 z2 fun z5 =>
 L110 x0 x2 x3 z5
theorem g105ez2tb (R : Nat → Fn) (L110 : V → V → V → St → Res) : (g105X R) (g105C [1, 1, 0, 0, 0, 1, 1, 1, 1, 1, 1]) ((g105k2 R) L110) = fun env st => (g105bz2tb R) L110 (env 0) (env 2) (env 3) (env 4) st := by
  refine Eq.trans (Eq.refl ((g105X R) (g105C [1, 1, 0, 0, 0, 1, 1, 1, 1, 1, 1]) ((g105k2 R) L110))) ?_
  funext env st
  kernel_rfl
noncomputable def g105bzpb (R : Nat → Fn) (L110 : V → V → V → St → Res) (x0 : V) (x2 : V) (x3 : V) (x4 : V) (st : St) : Res :=
 A.eql 2 false x4 (.int .i64 0) fun a1 =>
 A.cond a1
 (A.load true 3 x3 st fun a2 z3 =>
 A.store 3 x2 a2 z3 fun z4 =>
 A.res (rcell (A.load true 3 x2 z4 kid) (some [])) z4)
 (A.nilc x0 fun a5 =>
 A.faddr 1 a5 fun a6 =>
 A.load false 1 a6 st fun a7 z8 =>
 A.bin .add a7 (.int .i64 1) fun a9 =>
 A.nilc x0 fun a10 =>
 A.faddr 1 a10 fun a11 =>
 A.store 1 a11 a9 z8 fun z12 =>
 (g105bz2tb R) L110 x0 x2 x3 x4 z12)
theorem g105nzpb : g105C [1, 1, 0, 0, 0, 1, 1, 1, 1] = .seq (g105C [1, 1, 0, 0, 0, 1, 1, 1, 1, 0]) (g105C [1, 1, 0, 0, 0, 1, 1, 1, 1, 1]) := by kernel_rfl
theorem g105nz1en : g105C [1, 1, 0, 0, 0, 1, 1, 1, 1, 1] = .seq (g105C [1, 1, 0, 0, 0, 1, 1, 1, 1, 1, 0]) (g105C [1, 1, 0, 0, 0, 1, 1, 1, 1, 1, 1]) := by kernel_rfl
theorem g105ezpb (R : Nat → Fn) (L110 : V → V → V → St → Res) : (g105X R) (g105C [1, 1, 0, 0, 0, 1, 1, 1, 1]) ((g105k2 R) L110) = fun env st => (g105bzpb R) L110 (env 0) (env 2) (env 3) (env 4) st := by
  refine Eq.trans ((g105seq R) g105nzpb ((g105seq R) g105nz1en ((g105ez2tb R) L110))) ?_
  funext env st
  kernel_rfl
noncomputable def g105bzcn (R : Nat → Fn) (L110 : V → V → V → St → Res) (x0 : V) (x2 : V) (x3 : V) (x4 : V) (st : St) : Res :=
 A.ret (s59 [x0.er1, ((.str [63]) : V).er1] st) fun a1 z2 =>
 A.cond a1
 ((g105bzpb R) L110 x0 x2 x3 (.int .i64 6) z2)
 ((g105bzpb R) L110 x0 x2 x3 x4 z2)
theorem g105nzcn : g105C [1, 1, 0, 0, 0, 1, 1, 1] = .seq (g105C [1, 1, 0, 0, 0, 1, 1, 1, 0]) (g105C [1, 1, 0, 0, 0, 1, 1, 1, 1]) := by kernel_rfl
theorem g105ezcn (R : Nat → Fn) (L110 : V → V → V → St → Res) : (g105X R) (g105C [1, 1, 0, 0, 0, 1, 1, 1]) ((g105k2 R) L110) = fun env st => (g105bzcn R) L110 (env 0) (env 2) (env 3) (env 4) st := by
  refine Eq.trans ((g105seq R) g105nzcn ((g105ezpb R) L110)) ?_
  funext env st
  kernel_rfl
noncomputable def g105bz6b (R : Nat → Fn) (L110 : V → V → V → St → Res) (x0 : V) (x2 : V) (x3 : V) (x4 : V) (st : St) : Res :=
 A.ret (s59 [x0.er1, ((.str [43]) : V).er1] st) fun a1 z2 =>
 A.cond a1
 ((g105bzcn R) L110 x0 x2 x3 (.int .i64 5) z2)
 ((g105bzcn R) L110 x0 x2 x3 x4 z2)
theorem g105nz6b : g105C [1, 1, 0, 0, 0, 1, 1] = .seq (g105C [1, 1, 0, 0, 0, 1, 1, 0]) (g105C [1, 1, 0, 0, 0, 1, 1, 1]) := by kernel_rfl
theorem g105ez6b (R : Nat → Fn) (L110 : V → V → V → St → Res) : (g105X R) (g105C [1, 1, 0, 0, 0, 1, 1]) ((g105k2 R) L110) = fun env st => (g105bz6b R) L110 (env 0) (env 2) (env 3) (env 4) st := by
  refine Eq.trans ((g105seq R) g105nz6b ((g105ezcn R) L110)) ?_
  funext env st
  kernel_rfl
noncomputable def g105b110 (R : Nat → Fn) : Nat → V → V → V → St → Res
| 0, _, _, _, _ => none
| n + 1, x0, x2, x3, st =>
 A.ret (s59 [x0.er1, ((.str [42]) : V).er1] st) fun a1 z2 =>
 A.cond a1
 ((g105bz6b R) ((g105b110 R) n) x0 x2 x3 (.int .i64 4) z2)
 ((g105bz6b R) ((g105b110 R) n) x0 x2 x3 (.int .i64 0) z2)
theorem g105n110 : g105C [1, 1, 0] = .loop (g105C [1, 1, 0, 0]) := by kernel_rfl
theorem g105n1100 : g105C [1, 1, 0, 0] = .block 1 (g105C [1, 1, 0, 0, 0]) := by kernel_rfl
theorem g105n11000 : g105C [1, 1, 0, 0, 0] = .seq (g105C [1, 1, 0, 0, 0, 0]) (g105C [1, 1, 0, 0, 0, 1]) := by kernel_rfl
theorem g105nz35 : g105C [1, 1, 0, 0, 0, 1] = .seq (g105C [1, 1, 0, 0, 0, 1, 0]) (g105C [1, 1, 0, 0, 0, 1, 1]) := by kernel_rfl
theorem g105e110 (R : Nat → Fn) : (g105X R) (g105C [1, 1, 0]) ((g105k0 R)) = fun env st => (g105b110 R) big (env 0) (env 2) (env 3) st := by
  have key : ∀ n, aloop ((g105X R) (g105C [1, 1, 0, 0])) ((g105k0 R)) n = fun env st => (g105b110 R) n (env 0) (env 2) (env 3) st := by
    intro n
    induction n with
    | zero => rfl
    | succ n ih =>
      have h : aloop ((g105X R) (g105C [1, 1, 0, 0])) ((g105k0 R)) (n + 1) = (g105X R) (g105C [1, 1, 0, 0]) (kSeq (aloop ((g105X R) (g105C [1, 1, 0, 0])) ((g105k0 R)) n) ((g105k0 R))) := rfl
      rw [h, ih]
      refine Eq.trans (((g105blk R) g105n1100).trans ((g105seq R) g105n11000 ((g105seq R) g105nz35 ((g105ez6b R) ((g105b110 R) n))))) ?_
      funext env st
      kernel_rfl
  exact ((g105loop R) g105n110).trans (key big)
noncomputable def f105 (R : Nat → Fn) (x0 : V) (st : St) : Res :=
 A.box (.agg [(.int .i64 0), (.str []), (.lst [] 1)]) st fun a1 z2 =>
 A.ret (R 106 [x0.er1] z2) fun a3 z4 =>
 A.box (.agg [(.int .i64 0), (.str []), (.lst [] 1)]) z4 fun a5 z6 =>
 A.store 3 a5 a3 z6 fun z7 =>
 (g105b110 R) big x0 a1 a5 z7
theorem g105nr : g105C [] = .seq (g105C [0]) (g105C [1]) := by kernel_rfl
theorem g105n1 : g105C [1] = .seq (g105C [1, 0]) (g105C [1, 1]) := by kernel_rfl
theorem g105n11 : g105C [1, 1] = .block 0 (g105C [1, 1, 0]) := by kernel_rfl
theorem g105er (R : Nat → Fn) (env : Env) (st : St) : (g105X R) (g105C []) (g105kr R) env st = (f105 R) (env 0) st := by
  rw [((g105seq R) g105nr ((g105seq R) g105n1 (((g105blk R) g105n11).trans ((g105e110 R)))))]
  kernel_rfl
theorem s105R_eq (R : Nat → Fn) (x0 : V) (st : St) : afn Try.prog g105mu (g105T R) big (areg Try.prog g105mu (g105T R)) 105 [x0] st = (f105 R) x0 st := by
  have h : afn Try.prog g105mu (g105T R) big (areg Try.prog g105mu (g105T R)) 105 [x0] st = (g105X R) (g105C []) (g105kr R) (fun t => [x0].getD t (.tup [])) st := by kernel_rfl
  exact h.trans ((g105er R) _ st)
/-! (*sinew/sinewref09.reader).prim -/
def g106mu : Nat → Bool := fun _ => false
noncomputable def g106T (R : Nat → Fn) : Tbl := tget [(98, R 98), (59, s59), (85, s85), (86, s86)]
theorem g106t (R : Nat → Fn) (hR : ∀ j, j ∈ [98, 103, 105, 106] → Sim Try.prog j (R j)) : SimT Try.prog (g106T R) := simT_cons (hR 98 (by decide)) ( simT_cons sim59 ( simT_cons sim85 ( simT_cons sim86 (simT_nil))))
noncomputable def g106C (p : List Nat) : Code := sub (match Try.f106.body with | some c => c | none => .skip) p
noncomputable def g106X (R : Nat → Fn) (c : Code) (K : Kon) : Env → St → Res := aexec Try.prog g106mu (g106T R) big 21 (areg Try.prog g106mu (g106T R) 21) c K
noncomputable def g106kr (R : Nat → Fn) : Kon := aresK Try.prog Try.f106.results.toList
theorem g106reg (R : Nat → Fn) {c : Code} {K : Kon} {G : Env → St → Res} {id : Nat} {ops : Array Oper} {l1 l2 : List Nat} (hc : c = .region id ops false) (hl : List.range ops.size = l1 ++ l2) (h : (fun env st => aops Try.prog g106mu (g106T R) 21 ops l2 env st (K .normal)) = G) : (g106X R) c K = fun env st => aops Try.prog g106mu (g106T R) 21 ops l1 env st G := reg_cut hc hl h
theorem g106seq (R : Nat → Fn) {c x y : Code} {K : Kon} {G : Env → St → Res} (hc : c = .seq x y) (hy : (g106X R) y K = G) : (g106X R) c K = (g106X R) x (kSeq G K) := seq_cut hc hy
theorem g106blk (R : Nat → Fn) {c x : Code} {K : Kon} {i : Nat} (hc : c = .block i x) : (g106X R) c K = (g106X R) x (kBlk i K) := blk_cut hc
theorem g106loop (R : Nat → Fn) {c x : Code} {K : Kon} (hc : c = .loop x) : (g106X R) c K = aloop ((g106X R) x) K big := loop_cut hc
theorem g106cond (R : Nat → Fn) {c x y : Code} {K : Kon} {v : Operand} {F G : Env → St → Res} (hc : c = .cond v x y) (hx : (g106X R) x K = F) (hy : (g106X R) y K = G) : (g106X R) c K = condF v F G := cond_cut hc hx hy
noncomputable def g106k0 (R : Nat → Fn) : Kon := kSeq ((g106X R) (g106C [1, 1]) ((g106kr R))) ((g106kr R))
noncomputable def g106b10101 (R : Nat → Fn) (x0 : V) (x2 : V) (st : St) : Res :=
 A.ret (R 98 [x0.er1] st) fun a1 z2 =>
 A.box (.agg [(.int .i64 0), (.str []), (.lst [] 1)]) z2 fun a3 z4 =>
 A.store 3 a3 a1 z4 fun z5 =>
 A.ret (s86 [x0.er1, ((.int .i64 3) : V).er1, ((.str [41]) : V).er1] z5) fun a6 z7 =>
 A.load true 3 a3 z7 fun a8 z9 =>
 A.store 3 x2 a8 z9 fun z10 =>
 A.res (rcell (A.load true 3 x2 z10 kid) (some [])) z10
theorem g106e10101 (R : Nat → Fn) : (g106X R) (g106C [1, 0, 1, 0, 1]) ((g106k0 R)) = fun env st => (g106b10101 R) (env 0) (env 2) st := by
  refine Eq.trans (Eq.refl ((g106X R) (g106C [1, 0, 1, 0, 1]) ((g106k0 R)))) ?_
  funext env st
  kernel_rfl
noncomputable def f106 (R : Nat → Fn) (x0 : V) (st : St) : Res :=
 A.box (.agg [(.int .i64 0), (.str []), (.lst [] 1)]) st fun a1 z2 =>
 A.ret (s59 [x0.er1, ((.str [40]) : V).er1] z2) fun a3 z4 =>
 A.cond a3
 (A.nilc x0 fun a5 =>
 A.faddr 1 a5 fun a6 =>
 A.load false 1 a6 z4 fun a7 z8 =>
 A.bin .add a7 (.int .i64 1) fun a9 =>
 A.nilc x0 fun a10 =>
 A.faddr 1 a10 fun a11 =>
 A.store 1 a11 a9 z8 fun z12 =>
 (g106b10101 R) x0 a1 z12)
 (A.ret (s85 [x0.er1, ((.int .i64 1) : V).er1] z4) fun a13 z14 =>
 A.build [(.int .i64 0), (.str []), (.lst [] 1)] [(0, 1, (.int .i64 1)), (1, 1, a13)] fun a15 =>
 A.store 3 a1 a15 z14 fun z16 =>
 A.res (rcell (A.load true 3 a1 z16 kid) (some [])) z16)
theorem g106nr : g106C [] = .seq (g106C [0]) (g106C [1]) := by kernel_rfl
theorem g106n1 : g106C [1] = .seq (g106C [1, 0]) (g106C [1, 1]) := by kernel_rfl
theorem g106n10 : g106C [1, 0] = .seq (g106C [1, 0, 0]) (g106C [1, 0, 1]) := by kernel_rfl
theorem g106n101 : g106C [1, 0, 1] = .cond (.tmp 5) (g106C [1, 0, 1, 0]) (g106C [1, 0, 1, 1]) := by kernel_rfl
theorem g106n1010 : g106C [1, 0, 1, 0] = .seq (g106C [1, 0, 1, 0, 0]) (g106C [1, 0, 1, 0, 1]) := by kernel_rfl
theorem g106er (R : Nat → Fn) (env : Env) (st : St) : (g106X R) (g106C []) (g106kr R) env st = (f106 R) (env 0) st := by
  rw [((g106seq R) g106nr (((g106seq R) g106n1 rfl).trans ((g106seq R) g106n10 ((g106cond R) g106n101 ((g106seq R) g106n1010 ((g106e10101 R))) rfl))))]
  kernel_rfl
theorem s106R_eq (R : Nat → Fn) (x0 : V) (st : St) : afn Try.prog g106mu (g106T R) big (areg Try.prog g106mu (g106T R)) 106 [x0] st = (f106 R) x0 st := by
  have h : afn Try.prog g106mu (g106T R) big (areg Try.prog g106mu (g106T R)) 106 [x0] st = (g106X R) (g106C []) (g106kr R) (fun t => [x0].getD t (.tup [])) st := by kernel_rfl
  exact h.trans ((g106er R) _ st)
noncomputable def G98 : Nat → Nat → Fn
| 0 => fun _ _ _ => none
| n + 1 => fun j => ((tget [(98, afn Try.prog g98mu (g98T (G98 n)) big (areg Try.prog g98mu (g98T (G98 n))) 98), (103, afn Try.prog g103mu (g103T (G98 n)) big (areg Try.prog g103mu (g103T (G98 n))) 103), (105, afn Try.prog g105mu (g105T (G98 n)) big (areg Try.prog g105mu (g105T (G98 n))) 105), (106, afn Try.prog g106mu (g106T (G98 n)) big (areg Try.prog g106mu (g106T (G98 n))) 106)]) j).getD (fun _ _ => none)
theorem G98_98 (n : Nat) : G98 (n + 1) 98 = afn Try.prog g98mu (g98T (G98 n)) big (areg Try.prog g98mu (g98T (G98 n))) 98 := by kernel_rfl
theorem G98_103 (n : Nat) : G98 (n + 1) 103 = afn Try.prog g103mu (g103T (G98 n)) big (areg Try.prog g103mu (g103T (G98 n))) 103 := by kernel_rfl
theorem G98_105 (n : Nat) : G98 (n + 1) 105 = afn Try.prog g105mu (g105T (G98 n)) big (areg Try.prog g105mu (g105T (G98 n))) 105 := by kernel_rfl
theorem G98_106 (n : Nat) : G98 (n + 1) 106 = afn Try.prog g106mu (g106T (G98 n)) big (areg Try.prog g106mu (g106T (G98 n))) 106 := by kernel_rfl
theorem G98_ok : ∀ j, j ∈ [98, 103, 105, 106] → okFn Try.prog j = true := by
  intro j hj
  simp only [List.mem_cons, List.not_mem_nil, or_false] at hj
  rcases hj with rfl | rfl | rfl | rfl <;> kernel_rfl
theorem simG98 : ∀ n j, j ∈ [98, 103, 105, 106] → Sim Try.prog j (G98 n j)
| 0, j, hj => ⟨G98_ok j hj, fun _ _ _ _ _ _ _ h => by cases h⟩
| n + 1, j, hj => by
  have ih := simG98 n
  simp only [List.mem_cons, List.not_mem_nil, or_false] at hj
  rcases hj with rfl | rfl | rfl | rfl
  · rw [G98_98]; exact afn_sim (g98t (G98 n) ih) (fun m => areg_sound (g98t (G98 n) ih) hmix m) 98 (by kernel_rfl)
  · rw [G98_103]; exact afn_sim (g103t (G98 n) ih) (fun m => areg_sound (g103t (G98 n) ih) hmix m) 103 (by kernel_rfl)
  · rw [G98_105]; exact afn_sim (g105t (G98 n) ih) (fun m => areg_sound (g105t (G98 n) ih) hmix m) 105 (by kernel_rfl)
  · rw [G98_106]; exact afn_sim (g106t (G98 n) ih) (fun m => areg_sound (g106t (G98 n) ih) hmix m) 106 (by kernel_rfl)
noncomputable def s98 : Fn := sealF (G98 big 98)
theorem sim98 : Sim Try.prog 98 s98 := (simG98 big 98 (by decide)).sealed
theorem s98_n : s98 = G98 big 98 := sealF_eq _
theorem G98_98_eq (n : Nat) (x0 : V) (st : St) : G98 (n + 1) 98 [x0] st = f98 (G98 n) x0 st := by
  rw [G98_98]; exact s98R_eq (G98 n) x0 st
noncomputable def s103 : Fn := sealF (G98 big 103)
theorem sim103 : Sim Try.prog 103 s103 := (simG98 big 103 (by decide)).sealed
theorem s103_n : s103 = G98 big 103 := sealF_eq _
theorem G98_103_eq (n : Nat) (x0 : V) (st : St) : G98 (n + 1) 103 [x0] st = f103 (G98 n) x0 st := by
  rw [G98_103]; exact s103R_eq (G98 n) x0 st
noncomputable def s105 : Fn := sealF (G98 big 105)
theorem sim105 : Sim Try.prog 105 s105 := (simG98 big 105 (by decide)).sealed
theorem s105_n : s105 = G98 big 105 := sealF_eq _
theorem G98_105_eq (n : Nat) (x0 : V) (st : St) : G98 (n + 1) 105 [x0] st = f105 (G98 n) x0 st := by
  rw [G98_105]; exact s105R_eq (G98 n) x0 st
noncomputable def s106 : Fn := sealF (G98 big 106)
theorem sim106 : Sim Try.prog 106 s106 := (simG98 big 106 (by decide)).sealed
theorem s106_n : s106 = G98 big 106 := sealF_eq _
theorem G98_106_eq (n : Nat) (x0 : V) (st : St) : G98 (n + 1) 106 [x0] st = f106 (G98 n) x0 st := by
  rw [G98_106]; exact s106R_eq (G98 n) x0 st
/-! (*sinew/sinewref09.reader).atom -/
def g87mu : Nat → Bool := fun _ => false
noncomputable def g87T : Tbl := tget [(97, s97), (98, s98)]
theorem g87t : SimT Try.prog g87T := simT_cons sim97 ( simT_cons sim98 (simT_nil))
noncomputable def s87 : Fn := sealF (afn Try.prog g87mu g87T big (areg Try.prog g87mu g87T) 87)
theorem sim87 : Sim Try.prog 87 s87 := (afn_sim g87t (fun m => areg_sound g87t hmix m) 87 (by kernel_rfl)).sealed
noncomputable def f87 (x0 : V) (st : St) : Res :=
 A.box (.agg [(.bool false), (.str []), (.int .i64 0), (.str []), (.lst [] 1), (.bool false), (.str [])]) st fun a1 z2 =>
 A.ret (s97 [x0.er1] z2) fun a3 z4 =>
 A.build [(.bool false), (.str []), (.int .i64 0), (.str []), (.lst [] 1), (.bool false), (.str [])] [(0, 2, a3)] fun a5 =>
 A.box (.agg [(.bool false), (.str []), (.int .i64 0), (.str []), (.lst [] 1), (.bool false), (.str [])]) z4 fun a6 z7 =>
 A.store 7 a6 a5 z7 fun z8 =>
 A.ret (s98 [x0.er1] z8) fun a9 z10 =>
 A.faddr 2 a6 fun a11 =>
 A.store 3 a11 a9 z10 fun z12 =>
 A.ret (s97 [x0.er1] z12) fun a13 z14 =>
 A.faddr 5 a6 fun a15 =>
 A.store 2 a15 a13 z14 fun z16 =>
 A.load true 7 a6 z16 fun a17 z18 =>
 A.store 7 a1 a17 z18 fun z19 =>
 A.res (rcell (A.load true 7 a1 z19 kid) (some [])) z19
theorem s87_eq (x0 : V) (st : St) : s87 [x0] st = f87 x0 st := by
  rw [s87, sealF_eq]
  kernel_rfl
/-! (*sinew/sinewref09.reader).query -/
def g57mu : Nat → Bool := fun _ => false
noncomputable def g57T : Tbl := tget [(56, s56), (59, s59), (85, s85), (86, s86), (87, s87)]
theorem g57t : SimT Try.prog g57T := simT_cons sim56 ( simT_cons sim59 ( simT_cons sim85 ( simT_cons sim86 ( simT_cons sim87 (simT_nil)))))
noncomputable def s57 : Fn := sealF (afn Try.prog g57mu g57T big (areg Try.prog g57mu g57T) 57)
theorem sim57 : Sim Try.prog 57 s57 := (afn_sim g57t (fun m => areg_sound g57t hmix m) 57 (by kernel_rfl)).sealed
noncomputable def g57C (p : List Nat) : Code := sub (match Try.f57.body with | some c => c | none => .skip) p
noncomputable def g57X (c : Code) (K : Kon) : Env → St → Res := aexec Try.prog g57mu g57T big 69 (areg Try.prog g57mu g57T 69) c K
noncomputable def g57kr : Kon := aresK Try.prog Try.f57.results.toList
theorem g57reg {c : Code} {K : Kon} {G : Env → St → Res} {id : Nat} {ops : Array Oper} {l1 l2 : List Nat} (hc : c = .region id ops false) (hl : List.range ops.size = l1 ++ l2) (h : (fun env st => aops Try.prog g57mu g57T 69 ops l2 env st (K .normal)) = G) : g57X c K = fun env st => aops Try.prog g57mu g57T 69 ops l1 env st G := reg_cut hc hl h
theorem g57seq {c x y : Code} {K : Kon} {G : Env → St → Res} (hc : c = .seq x y) (hy : g57X y K = G) : g57X c K = g57X x (kSeq G K) := seq_cut hc hy
theorem g57blk {c x : Code} {K : Kon} {i : Nat} (hc : c = .block i x) : g57X c K = g57X x (kBlk i K) := blk_cut hc
theorem g57loop {c x : Code} {K : Kon} (hc : c = .loop x) : g57X c K = aloop (g57X x) K big := loop_cut hc
theorem g57cond {c x y : Code} {K : Kon} {v : Operand} {F G : Env → St → Res} (hc : c = .cond v x y) (hx : g57X x K = F) (hy : g57X y K = G) : g57X c K = condF v F G := cond_cut hc hx hy
noncomputable def g57k0 : Kon := kSeq (g57X (g57C [1, 1, 1, 1, 1, 1, 1, 1, 1]) (g57kr)) (g57kr)
noncomputable def g57k1 : Kon := kBlk 2 (g57k0)
noncomputable def g57k2 (Lz1ks : V → V → V → St → Res) : Kon := kSeq (fun env st => Lz1ks (env 0) (env 2) (env 3) st) (g57k1)
noncomputable def g57k3 (Lz1ks : V → V → V → St → Res) : Kon := kBlk 3 (g57k2 Lz1ks)
noncomputable def g57bz1eh7 (Lz1ks : V → V → V → St → Res) (x0 : V) (x2 : V) (x3 : V) (st : St) : Res :=
 A.faddr 1 x3 fun a1 =>
 A.load false 1 a1 st fun a2 _ =>
 A.ret (A.ret (s87 [x0.er1] st) kid) fun a3 z4 =>
 A.chk (ldv false 1 a1 z4) a2
 (A.bslice 7 (.agg [(.bool false), (.str []), (.int .i64 0), (.str []), (.lst [] 1), (.bool false), (.str [])]) 1 [(0, a3)] fun a5 =>
 A.ret (A.app 7 a2 (elemsOf 5 7 a5 z4) z4 kid) fun a6 z7 =>
 A.faddr 1 x3 fun a8 =>
 A.ret (A.store 1 a8 a6 z7 fun s => kid (.tup []) s) fun a9 z10 =>
 Lz1ks x0 x2 x3 z10)
theorem g57ez1eh7 (Lz1ks : V → V → V → St → Res) : g57X (g57C [1, 1, 1, 1, 1, 1, 1, 1, 0, 0, 0, 1, 0, 1, 1]) (g57k3 Lz1ks) = fun env st => g57bz1eh7 Lz1ks (env 0) (env 2) (env 3) st := by
  refine Eq.trans (Eq.refl (g57X (g57C [1, 1, 1, 1, 1, 1, 1, 1, 0, 0, 0, 1, 0, 1, 1]) (g57k3 Lz1ks))) ?_
  funext env st
  kernel_rfl
noncomputable def g57bz1ks : Nat → V → V → V → St → Res
| 0, _, _, _, _ => none
| n + 1, x0, x2, x3, st =>
 A.ret (s59 [x0.er1, ((.str [46]) : V).er1] st) fun a1 z2 =>
 A.cond a1
 (A.nilc x0 fun a3 =>
 A.faddr 1 a3 fun a4 =>
 A.load false 1 a4 z2 fun a5 z6 =>
 A.bin .add a5 (.int .i64 1) fun a7 =>
 A.nilc x0 fun a8 =>
 A.faddr 1 a8 fun a9 =>
 A.store 1 a9 a7 z6 fun z10 =>
 A.ret (s59 [x0.er1, ((.str [125]) : V).er1] z10) fun a11 z12 =>
 A.cond a11
 (A.ret (s86 [x0.er1, ((.int .i64 3) : V).er1, ((.str [125]) : V).er1] z12) fun a13 z14 =>
 A.load true 2 x3 z14 fun a15 z16 =>
 A.store 2 x2 a15 z16 fun z17 =>
 A.res (rcell (A.load true 2 x2 z17 kid) (some [])) z17)
 (g57bz1eh7 (g57bz1ks n) x0 x2 x3 z12))
 (A.ret (s86 [x0.er1, ((.int .i64 3) : V).er1, ((.str [125]) : V).er1] z2) fun a18 z19 =>
 A.load true 2 x3 z19 fun a20 z21 =>
 A.store 2 x2 a20 z21 fun z22 =>
 A.res (rcell (A.load true 2 x2 z22 kid) (some [])) z22)
theorem g57nz1ks : g57C [1, 1, 1, 1, 1, 1, 1, 1, 0, 0] = .loop (g57C [1, 1, 1, 1, 1, 1, 1, 1, 0, 0, 0]) := by kernel_rfl
theorem g57nz35k : g57C [1, 1, 1, 1, 1, 1, 1, 1, 0, 0, 0] = .seq (g57C [1, 1, 1, 1, 1, 1, 1, 1, 0, 0, 0, 0]) (g57C [1, 1, 1, 1, 1, 1, 1, 1, 0, 0, 0, 1]) := by kernel_rfl
theorem g57nz6b5 : g57C [1, 1, 1, 1, 1, 1, 1, 1, 0, 0, 0, 1] = .block 3 (g57C [1, 1, 1, 1, 1, 1, 1, 1, 0, 0, 0, 1, 0]) := by kernel_rfl
theorem g57nzcma : g57C [1, 1, 1, 1, 1, 1, 1, 1, 0, 0, 0, 1, 0] = .seq (g57C [1, 1, 1, 1, 1, 1, 1, 1, 0, 0, 0, 1, 0, 0]) (g57C [1, 1, 1, 1, 1, 1, 1, 1, 0, 0, 0, 1, 0, 1]) := by kernel_rfl
theorem g57nzp8l : g57C [1, 1, 1, 1, 1, 1, 1, 1, 0, 0, 0, 1, 0, 1] = .seq (g57C [1, 1, 1, 1, 1, 1, 1, 1, 0, 0, 0, 1, 0, 1, 0]) (g57C [1, 1, 1, 1, 1, 1, 1, 1, 0, 0, 0, 1, 0, 1, 1]) := by kernel_rfl
theorem g57ez1ks : g57X (g57C [1, 1, 1, 1, 1, 1, 1, 1, 0, 0]) (g57k1) = fun env st => g57bz1ks big (env 0) (env 2) (env 3) st := by
  have key : ∀ n, aloop (g57X (g57C [1, 1, 1, 1, 1, 1, 1, 1, 0, 0, 0])) (g57k1) n = fun env st => g57bz1ks n (env 0) (env 2) (env 3) st := by
    intro n
    induction n with
    | zero => rfl
    | succ n ih =>
      have h : aloop (g57X (g57C [1, 1, 1, 1, 1, 1, 1, 1, 0, 0, 0])) (g57k1) (n + 1) = g57X (g57C [1, 1, 1, 1, 1, 1, 1, 1, 0, 0, 0]) (kSeq (aloop (g57X (g57C [1, 1, 1, 1, 1, 1, 1, 1, 0, 0, 0])) (g57k1) n) (g57k1)) := rfl
      rw [h, ih]
      refine Eq.trans (g57seq g57nz35k ((g57blk g57nz6b5).trans (g57seq g57nzcma (g57seq g57nzp8l (g57ez1eh7 (g57bz1ks n)))))) ?_
      funext env st
      kernel_rfl
  exact (g57loop g57nz1ks).trans (key big)
noncomputable def g57bze7 (x0 : V) (x2 : V) (x3 : V) (st : St) : Res :=
 g57bz1ks big x0 x2 x3 st
theorem g57nze7 : g57C [1, 1, 1, 1, 1, 1, 1, 1] = .seq (g57C [1, 1, 1, 1, 1, 1, 1, 1, 0]) (g57C [1, 1, 1, 1, 1, 1, 1, 1, 1]) := by kernel_rfl
theorem g57nzse : g57C [1, 1, 1, 1, 1, 1, 1, 1, 0] = .block 2 (g57C [1, 1, 1, 1, 1, 1, 1, 1, 0, 0]) := by kernel_rfl
theorem g57eze7 : g57X (g57C [1, 1, 1, 1, 1, 1, 1, 1]) (g57kr) = fun env st => g57bze7 (env 0) (env 2) (env 3) st := by
  refine Eq.trans ((g57seq g57nze7 rfl).trans ((g57blk g57nzse).trans (g57ez1ks))) ?_
  funext env st
  kernel_rfl
noncomputable def g57b11111 (x0 : V) (x2 : V) (x3 : V) (st : St) : Res :=
 A.ret (s86 [x0.er1, ((.int .i64 1) : V).er1, ((.str [119, 104, 101, 114, 101]) : V).er1] st) fun a1 z2 =>
 A.ret (s86 [x0.er1, ((.int .i64 3) : V).er1, ((.str [123]) : V).er1] z2) fun a3 z4 =>
 A.faddr 1 x3 fun a5 =>
 A.load false 1 a5 z4 fun a6 _ =>
 A.ret (A.ret (s87 [x0.er1] z4) kid) fun a7 z8 =>
 A.chk (ldv false 1 a5 z8) a6
 (A.bslice 7 (.agg [(.bool false), (.str []), (.int .i64 0), (.str []), (.lst [] 1), (.bool false), (.str [])]) 1 [(0, a7)] fun a9 =>
 A.ret (A.app 7 a6 (elemsOf 5 7 a9 z8) z8 kid) fun a10 z11 =>
 A.faddr 1 x3 fun a12 =>
 A.ret (A.store 1 a12 a10 z11 fun s => kid (.tup []) s) fun a13 z14 =>
 g57bze7 x0 x2 x3 z14)
theorem g57n11111 : g57C [1, 1, 1, 1, 1] = .seq (g57C [1, 1, 1, 1, 1, 0]) (g57C [1, 1, 1, 1, 1, 1]) := by kernel_rfl
theorem g57nz3j : g57C [1, 1, 1, 1, 1, 1] = .seq (g57C [1, 1, 1, 1, 1, 1, 0]) (g57C [1, 1, 1, 1, 1, 1, 1]) := by kernel_rfl
theorem g57nz73 : g57C [1, 1, 1, 1, 1, 1, 1] = .seq (g57C [1, 1, 1, 1, 1, 1, 1, 0]) (g57C [1, 1, 1, 1, 1, 1, 1, 1]) := by kernel_rfl
theorem g57e11111 : g57X (g57C [1, 1, 1, 1, 1]) (g57kr) = fun env st => g57b11111 (env 0) (env 2) (env 3) st := by
  refine Eq.trans (g57seq g57n11111 (g57seq g57nz3j (g57seq g57nz73 (g57eze7)))) ?_
  funext env st
  kernel_rfl
noncomputable def g57k4 : Kon := kSeq (fun env st => g57b11111 (env 0) (env 2) (env 3) st) (g57kr)
noncomputable def g57k5 : Kon := kBlk 0 (g57k4)
noncomputable def g57k6 (Lz3g : V → V → V → St → Res) : Kon := kSeq (fun env st => Lz3g (env 0) (env 2) (env 3) st) (g57k5)
noncomputable def g57bzdt (Lz3g : V → V → V → St → Res) (x0 : V) (x2 : V) (x3 : V) (st : St) : Res :=
 A.faddr 0 x3 fun a1 =>
 A.load false 1 a1 st fun a2 _ =>
 A.ret (A.ret (s85 [x0.er1, ((.int .i64 2) : V).er1] st) kid) fun a3 z4 =>
 A.chk (ldv false 1 a1 z4) a2
 (A.bslice 1 (.str []) 1 [(0, a3)] fun a5 =>
 A.ret (A.app 1 a2 (elemsOf 5 1 a5 z4) z4 kid) fun a6 z7 =>
 A.faddr 0 x3 fun a8 =>
 A.ret (A.store 1 a8 a6 z7 fun s => kid (.tup []) s) fun a9 z10 =>
 Lz3g x0 x2 x3 z10)
theorem g57ezdt (Lz3g : V → V → V → St → Res) : g57X (g57C [1, 1, 1, 1, 0, 0, 0, 1]) (g57k6 Lz3g) = fun env st => g57bzdt Lz3g (env 0) (env 2) (env 3) st := by
  refine Eq.trans (Eq.refl (g57X (g57C [1, 1, 1, 1, 0, 0, 0, 1]) (g57k6 Lz3g))) ?_
  funext env st
  kernel_rfl
noncomputable def g57bz3g : Nat → V → V → V → St → Res
| 0, _, _, _, _ => none
| n + 1, x0, x2, x3, st =>
 A.nilc x0 fun a1 =>
 A.faddr 3 a1 fun a2 =>
 A.load false 1 a2 st fun a3 z4 =>
 A.un .not a3 fun a5 =>
 A.guard a5 true
 (A.ret (s56 [x0.er1] z4) fun a6 z7 =>
 A.field false 1 0 a6 fun a8 =>
 A.eql 2 false a8 (.int .i64 2) fun a9 =>
 A.cond a9
 (g57bzdt (g57bz3g n) x0 x2 x3 z7)
 (g57b11111 x0 x2 x3 z7))
 (g57b11111 x0 x2 x3 z4)
theorem g57nz3g : g57C [1, 1, 1, 1, 0, 0] = .loop (g57C [1, 1, 1, 1, 0, 0, 0]) := by kernel_rfl
theorem g57nz6w : g57C [1, 1, 1, 1, 0, 0, 0] = .seq (g57C [1, 1, 1, 1, 0, 0, 0, 0]) (g57C [1, 1, 1, 1, 0, 0, 0, 1]) := by kernel_rfl
theorem g57ez3g : g57X (g57C [1, 1, 1, 1, 0, 0]) (g57k5) = fun env st => g57bz3g big (env 0) (env 2) (env 3) st := by
  have key : ∀ n, aloop (g57X (g57C [1, 1, 1, 1, 0, 0, 0])) (g57k5) n = fun env st => g57bz3g n (env 0) (env 2) (env 3) st := by
    intro n
    induction n with
    | zero => rfl
    | succ n ih =>
      have h : aloop (g57X (g57C [1, 1, 1, 1, 0, 0, 0])) (g57k5) (n + 1) = g57X (g57C [1, 1, 1, 1, 0, 0, 0]) (kSeq (aloop (g57X (g57C [1, 1, 1, 1, 0, 0, 0])) (g57k5) n) (g57k5)) := rfl
      rw [h, ih]
      refine Eq.trans (g57seq g57nz6w (g57ezdt (g57bz3g n))) ?_
      funext env st
      kernel_rfl
  exact (g57loop g57nz3g).trans (key big)
noncomputable def g57b111 (x0 : V) (x2 : V) (x3 : V) (st : St) : Res :=
 A.faddr 0 x3 fun a1 =>
 A.load false 1 a1 st fun a2 _ =>
 A.ret (A.ret (s85 [x0.er1, ((.int .i64 2) : V).er1] st) kid) fun a3 z4 =>
 A.chk (ldv false 1 a1 z4) a2
 (A.bslice 1 (.str []) 1 [(0, a3)] fun a5 =>
 A.ret (A.app 1 a2 (elemsOf 5 1 a5 z4) z4 kid) fun a6 z7 =>
 A.faddr 0 x3 fun a8 =>
 A.ret (A.store 1 a8 a6 z7 fun s => kid (.tup []) s) fun a9 z10 =>
 g57bz3g big x0 x2 x3 z10)
theorem g57n111 : g57C [1, 1, 1] = .seq (g57C [1, 1, 1, 0]) (g57C [1, 1, 1, 1]) := by kernel_rfl
theorem g57n1111 : g57C [1, 1, 1, 1] = .seq (g57C [1, 1, 1, 1, 0]) (g57C [1, 1, 1, 1, 1]) := by kernel_rfl
theorem g57n11110 : g57C [1, 1, 1, 1, 0] = .block 0 (g57C [1, 1, 1, 1, 0, 0]) := by kernel_rfl
theorem g57e111 : g57X (g57C [1, 1, 1]) (g57kr) = fun env st => g57b111 (env 0) (env 2) (env 3) st := by
  refine Eq.trans (g57seq g57n111 ((g57seq g57n1111 (g57e11111)).trans ((g57blk g57n11110).trans (g57ez3g)))) ?_
  funext env st
  kernel_rfl
noncomputable def f57 (x0 : V) (st : St) : Res :=
 A.box (.agg [(.lst [] 1), (.lst [] 1)]) st fun a1 z2 =>
 A.build [(.lst [] 1), (.lst [] 1)] [] fun a3 =>
 A.box (.agg [(.lst [] 1), (.lst [] 1)]) z2 fun a4 z5 =>
 A.store 2 a4 a3 z5 fun z6 =>
 A.nilc x0 fun a7 =>
 A.faddr 1 a7 fun a8 =>
 A.load false 1 a8 z6 fun a9 z10 =>
 A.bin .add a9 (.int .i64 1) fun a11 =>
 A.nilc x0 fun a12 =>
 A.faddr 1 a12 fun a13 =>
 A.store 1 a13 a11 z10 fun z14 =>
 g57b111 x0 a1 a4 z14
theorem g57nr : g57C [] = .seq (g57C [0]) (g57C [1]) := by kernel_rfl
theorem g57n1 : g57C [1] = .seq (g57C [1, 0]) (g57C [1, 1]) := by kernel_rfl
theorem g57n11 : g57C [1, 1] = .seq (g57C [1, 1, 0]) (g57C [1, 1, 1]) := by kernel_rfl
theorem g57er (env : Env) (st : St) : g57X (g57C []) g57kr env st = f57 (env 0) st := by
  rw [(g57seq g57nr (g57seq g57n1 (g57seq g57n11 (g57e111))))]
  kernel_rfl
theorem s57_eq (x0 : V) (st : St) : s57 [x0] st = f57 x0 st := by
  have h : afn Try.prog g57mu g57T big (areg Try.prog g57mu g57T) 57 [x0] st = g57X (g57C []) g57kr (fun t => [x0].getD t (.tup [])) st := by kernel_rfl
  rw [s57, sealF_eq]
  exact h.trans (g57er _ st)
/-! (*sinew/sinewref09.reader).change -/
def g58mu : Nat → Bool := fun _ => false
noncomputable def g58T : Tbl := tget [(56, s56), (60, s60), (85, s85)]
theorem g58t : SimT Try.prog g58T := simT_cons sim56 ( simT_cons sim60 ( simT_cons sim85 (simT_nil)))
noncomputable def s58 : Fn := sealF (afn Try.prog g58mu g58T big (areg Try.prog g58mu g58T) 58)
theorem sim58 : Sim Try.prog 58 s58 := (afn_sim g58t (fun m => areg_sound g58t hmix m) 58 (by kernel_rfl)).sealed
noncomputable def g58C (p : List Nat) : Code := sub (match Try.f58.body with | some c => c | none => .skip) p
noncomputable def g58X (c : Code) (K : Kon) : Env → St → Res := aexec Try.prog g58mu g58T big 54 (areg Try.prog g58mu g58T 54) c K
noncomputable def g58kr : Kon := aresK Try.prog Try.f58.results.toList
theorem g58reg {c : Code} {K : Kon} {G : Env → St → Res} {id : Nat} {ops : Array Oper} {l1 l2 : List Nat} (hc : c = .region id ops false) (hl : List.range ops.size = l1 ++ l2) (h : (fun env st => aops Try.prog g58mu g58T 54 ops l2 env st (K .normal)) = G) : g58X c K = fun env st => aops Try.prog g58mu g58T 54 ops l1 env st G := reg_cut hc hl h
theorem g58seq {c x y : Code} {K : Kon} {G : Env → St → Res} (hc : c = .seq x y) (hy : g58X y K = G) : g58X c K = g58X x (kSeq G K) := seq_cut hc hy
theorem g58blk {c x : Code} {K : Kon} {i : Nat} (hc : c = .block i x) : g58X c K = g58X x (kBlk i K) := blk_cut hc
theorem g58loop {c x : Code} {K : Kon} (hc : c = .loop x) : g58X c K = aloop (g58X x) K big := loop_cut hc
theorem g58cond {c x y : Code} {K : Kon} {v : Operand} {F G : Env → St → Res} (hc : c = .cond v x y) (hx : g58X x K = F) (hy : g58X y K = G) : g58X c K = condF v F G := cond_cut hc hx hy
noncomputable def g58bze7 (x0 : V) (x2 : V) (x3 : V) (st : St) : Res :=
 A.ret (s85 [x0.er1, ((.int .i64 1) : V).er1] st) fun a1 z2 =>
 A.faddr 1 x3 fun a3 =>
 A.faddr 2 a3 fun a4 =>
 A.store 1 a4 a1 z2 fun z5 =>
 A.load true 4 x3 z5 fun a6 z7 =>
 A.store 4 x2 a6 z7 fun z8 =>
 A.res (rcell (A.load true 4 x2 z8 kid) (some [])) z8
theorem g58eze7 : g58X (g58C [1, 1, 1, 1, 1, 1, 1, 1]) (g58kr) = fun env st => g58bze7 (env 0) (env 2) (env 3) st := by
  refine Eq.trans (Eq.refl (g58X (g58C [1, 1, 1, 1, 1, 1, 1, 1]) (g58kr))) ?_
  funext env st
  kernel_rfl
noncomputable def g58b11111 (x0 : V) (x2 : V) (x3 : V) (x4 : V) (st : St) : Res :=
 A.faddr 1 x4 fun a1 =>
 A.load false 1 a1 st fun a2 z3 =>
 A.eql 3 false a2 (.str [100, 101, 108, 101, 116, 101]) fun a4 =>
 A.faddr 0 x3 fun a5 =>
 A.store 1 a5 a4 z3 fun z6 =>
 A.ret (s85 [x0.er1, ((.int .i64 1) : V).er1] z6) fun a7 z8 =>
 A.faddr 1 x3 fun a9 =>
 A.faddr 0 a9 fun a10 =>
 A.store 1 a10 a7 z8 fun z11 =>
 A.ret (s85 [x0.er1, ((.int .i64 1) : V).er1] z11) fun a12 z13 =>
 A.faddr 1 x3 fun a14 =>
 A.faddr 1 a14 fun a15 =>
 A.store 1 a15 a12 z13 fun z16 =>
 g58bze7 x0 x2 x3 z16
theorem g58n11111 : g58C [1, 1, 1, 1, 1] = .seq (g58C [1, 1, 1, 1, 1, 0]) (g58C [1, 1, 1, 1, 1, 1]) := by kernel_rfl
theorem g58nz3j : g58C [1, 1, 1, 1, 1, 1] = .seq (g58C [1, 1, 1, 1, 1, 1, 0]) (g58C [1, 1, 1, 1, 1, 1, 1]) := by kernel_rfl
theorem g58nz73 : g58C [1, 1, 1, 1, 1, 1, 1] = .seq (g58C [1, 1, 1, 1, 1, 1, 1, 0]) (g58C [1, 1, 1, 1, 1, 1, 1, 1]) := by kernel_rfl
theorem g58e11111 : g58X (g58C [1, 1, 1, 1, 1]) (g58kr) = fun env st => g58b11111 (env 0) (env 2) (env 3) (env 4) st := by
  refine Eq.trans (g58seq g58n11111 (g58seq g58nz3j (g58seq g58nz73 (g58eze7)))) ?_
  funext env st
  kernel_rfl
noncomputable def g58b1111 (x0 : V) (x2 : V) (x3 : V) (x4 : V) (st : St) : Res :=
 A.nilc x0 fun a1 =>
 A.faddr 1 a1 fun a2 =>
 A.load false 1 a2 st fun a3 z4 =>
 A.bin .add a3 (.int .i64 1) fun a5 =>
 A.nilc x0 fun a6 =>
 A.faddr 1 a6 fun a7 =>
 A.store 1 a7 a5 z4 fun z8 =>
 g58b11111 x0 x2 x3 x4 z8
theorem g58n1111 : g58C [1, 1, 1, 1] = .seq (g58C [1, 1, 1, 1, 0]) (g58C [1, 1, 1, 1, 1]) := by kernel_rfl
theorem g58e1111 : g58X (g58C [1, 1, 1, 1]) (g58kr) = fun env st => g58b1111 (env 0) (env 2) (env 3) (env 4) st := by
  refine Eq.trans (g58seq g58n1111 (g58e11111)) ?_
  funext env st
  kernel_rfl
noncomputable def g58k0 : Kon := kSeq (fun env st => g58b1111 (env 0) (env 2) (env 3) (env 4) st) (g58kr)
noncomputable def g58b11101 (x0 : V) (x2 : V) (x3 : V) (x4 : V) (x26 : V) (st : St) : Res :=
 A.cond x26
 (A.ret (s60 [x0.er1] st) fun a1 z2 =>
 A.load true 4 x3 z2 fun a3 z4 =>
 A.store 4 x2 a3 z4 fun z5 =>
 A.res (rcell (A.load true 4 x2 z5 kid) (some [])) z5)
 (g58b1111 x0 x2 x3 x4 st)
theorem g58e11101 : g58X (g58C [1, 1, 1, 0, 1]) (g58k0) = fun env st => g58b11101 (env 0) (env 2) (env 3) (env 4) (env 26) st := by
  refine Eq.trans (Eq.refl (g58X (g58C [1, 1, 1, 0, 1]) (g58k0))) ?_
  funext env st
  kernel_rfl
noncomputable def g58k1 : Kon := kSeq (fun env st => g58b11101 (env 0) (env 2) (env 3) (env 4) (env 26) st) (g58k0)
noncomputable def g58b11100_10 (x0 : V) (x2 : V) (x3 : V) (x4 : V) (x17 : V) (st : St) : Res :=
 A.guard x17 false
 (A.faddr 1 x4 fun a1 =>
 A.load false 1 a1 st fun a2 z3 =>
 A.eql 3 true a2 (.str [105, 110, 115, 101, 114, 116]) fun a4 =>
 A.guardT a4 true
 (A.faddr 1 x4 fun a5 =>
 A.load false 1 a5 z3 fun a6 z7 =>
 A.eql 3 true a6 (.str [100, 101, 108, 101, 116, 101]) fun a8 =>
 g58b11101 x0 x2 x3 x4 a8 z7)
 (g58b11101 x0 x2 x3 x4 (.bool false) z3)
 (A.guardT a4 true
 (A.load false 1 (.tup []) z3 fun a9 z10 =>
 A.eql 3 true a9 (.str [100, 101, 108, 101, 116, 101]) fun a11 =>
 g58b11101 x0 x2 x3 x4 a11 z10)
 (g58b11101 x0 x2 x3 x4 (.bool false) z3)
 (A.guardT a4 true
 (A.eql 3 true (.tup []) (.str [100, 101, 108, 101, 116, 101]) fun a12 =>
 g58b11101 x0 x2 x3 x4 a12 z3)
 (g58b11101 x0 x2 x3 x4 (.bool false) z3)
 (A.pick a4 (.tup []) (.bool false) fun a13 =>
 g58b11101 x0 x2 x3 x4 a13 z3))))
 (g58b11101 x0 x2 x3 x4 (.bool true) st)
theorem g58e11100_10 : (fun env st => aops Try.prog g58mu g58T 54 (rops (g58C [1, 1, 1, 0, 0])) [10, 11, 12, 13, 14, 15, 16, 17, 18] env st ((g58k1) .normal)) = fun env st => g58b11100_10 (env 0) (env 2) (env 3) (env 4) (env 17) st := by
  refine Eq.trans (Eq.refl _) ?_
  funext env st
  kernel_rfl
noncomputable def f58 (x0 : V) (st : St) : Res :=
 A.box (.agg [(.bool false), (.str []), (.str []), (.str [])]) st fun a1 z2 =>
 A.build [(.bool false), (.str []), (.str []), (.str [])] [] fun a3 =>
 A.box (.agg [(.bool false), (.str []), (.str []), (.str [])]) z2 fun a4 z5 =>
 A.store 4 a4 a3 z5 fun z6 =>
 A.ret (s56 [x0.er1] z6) fun a7 z8 =>
 A.box (.agg [(.int .i64 0), (.str []), (.int .i64 0)]) z8 fun a9 z10 =>
 A.store 3 a9 a7 z10 fun z11 =>
 A.nilc x0 fun a12 =>
 A.faddr 3 a12 fun a13 =>
 A.load false 1 a13 z11 fun a14 z15 =>
 A.guard a14 false
 (A.faddr 0 a9 fun a16 =>
 A.load false 1 a16 z15 fun a17 z18 =>
 A.eql 2 true a17 (.int .i64 1) fun a19 =>
 g58b11100_10 x0 a1 a4 a9 a19 z18)
 (g58b11100_10 x0 a1 a4 a9 (.bool true) z15)
theorem g58nr : g58C [] = .seq (g58C [0]) (g58C [1]) := by kernel_rfl
theorem g58n1 : g58C [1] = .seq (g58C [1, 0]) (g58C [1, 1]) := by kernel_rfl
theorem g58n11 : g58C [1, 1] = .seq (g58C [1, 1, 0]) (g58C [1, 1, 1]) := by kernel_rfl
theorem g58n111 : g58C [1, 1, 1] = .seq (g58C [1, 1, 1, 0]) (g58C [1, 1, 1, 1]) := by kernel_rfl
theorem g58n1110 : g58C [1, 1, 1, 0] = .seq (g58C [1, 1, 1, 0, 0]) (g58C [1, 1, 1, 0, 1]) := by kernel_rfl
theorem g58rg11100 : g58C [1, 1, 1, 0, 0] = .region 3 (rops (g58C [1, 1, 1, 0, 0])) false := by kernel_rfl
theorem g58rg11100l : List.range (rops (g58C [1, 1, 1, 0, 0])).size = [0, 1, 2, 3, 4, 5, 6, 7, 8, 9] ++ [10, 11, 12, 13, 14, 15, 16, 17, 18] := by kernel_rfl
theorem g58er (env : Env) (st : St) : g58X (g58C []) g58kr env st = f58 (env 0) st := by
  rw [(g58seq g58nr (g58seq g58n1 (g58seq g58n11 ((g58seq g58n111 (g58e1111)).trans ((g58seq g58n1110 (g58e11101)).trans (g58reg g58rg11100 g58rg11100l (g58e11100_10)))))))]
  kernel_rfl
theorem s58_eq (x0 : V) (st : St) : s58 [x0] st = f58 x0 st := by
  have h : afn Try.prog g58mu g58T big (areg Try.prog g58mu g58T) 58 [x0] st = g58X (g58C []) g58kr (fun t => [x0].getD t (.tup [])) st := by kernel_rfl
  rw [s58, sealF_eq]
  exact h.trans (g58er _ st)
/-! (*sinew/sinewref09.reader).request -/
def g28mu : Nat → Bool := fun _ => false
noncomputable def g28T : Tbl := tget [(56, s56), (57, s57), (58, s58), (59, s59), (60, s60)]
theorem g28t : SimT Try.prog g28T := simT_cons sim56 ( simT_cons sim57 ( simT_cons sim58 ( simT_cons sim59 ( simT_cons sim60 (simT_nil)))))
noncomputable def s28 : Fn := sealF (afn Try.prog g28mu g28T big (areg Try.prog g28mu g28T) 28)
theorem sim28 : Sim Try.prog 28 s28 := (afn_sim g28t (fun m => areg_sound g28t hmix m) 28 (by kernel_rfl)).sealed
noncomputable def g28C (p : List Nat) : Code := sub (match Try.f28.body with | some c => c | none => .skip) p
noncomputable def g28X (c : Code) (K : Kon) : Env → St → Res := aexec Try.prog g28mu g28T big 64 (areg Try.prog g28mu g28T 64) c K
noncomputable def g28kr : Kon := aresK Try.prog Try.f28.results.toList
theorem g28reg {c : Code} {K : Kon} {G : Env → St → Res} {id : Nat} {ops : Array Oper} {l1 l2 : List Nat} (hc : c = .region id ops false) (hl : List.range ops.size = l1 ++ l2) (h : (fun env st => aops Try.prog g28mu g28T 64 ops l2 env st (K .normal)) = G) : g28X c K = fun env st => aops Try.prog g28mu g28T 64 ops l1 env st G := reg_cut hc hl h
theorem g28regD {c : Code} {K : Kon} {G : Env → St → Res} {id : Nat} {ops : Array Oper} {l1 l2 : List Nat} (hc : c = .region id ops true) (hok : regOk Try.prog g28mu ops (befs ops.toList []) = true) (hq : quiet Try.prog g28mu ops = true) (hl : List.range ops.size = l1 ++ l2) (h : (fun env st => aops Try.prog g28mu g28T 64 ops l2 env st (K .normal)) = G) : g28X c K = fun env st => aops Try.prog g28mu g28T 64 ops l1 env st G := reg_cutD hc hok hq hl h
theorem g28seq {c x y : Code} {K : Kon} {G : Env → St → Res} (hc : c = .seq x y) (hy : g28X y K = G) : g28X c K = g28X x (kSeq G K) := seq_cut hc hy
theorem g28blk {c x : Code} {K : Kon} {i : Nat} (hc : c = .block i x) : g28X c K = g28X x (kBlk i K) := blk_cut hc
theorem g28loop {c x : Code} {K : Kon} (hc : c = .loop x) : g28X c K = aloop (g28X x) K big := loop_cut hc
theorem g28cond {c x y : Code} {K : Kon} {v : Operand} {F G : Env → St → Res} (hc : c = .cond v x y) (hx : g28X x K = F) (hy : g28X y K = G) : g28X c K = condF v F G := cond_cut hc hx hy
noncomputable def g28k0 : Kon := kSeq (g28X (g28C [1, 1, 1, 1]) (g28kr)) (g28kr)
noncomputable def g28k1 : Kon := kSeq (g28X (g28C [1, 1, 1, 0, 1]) (g28k0)) (g28k0)
noncomputable def g28b11100_6 (x0 : V) (x2 : V) (x3 : V) (x49 : V) (st : St) : Res :=
 A.guard x49 true
 (A.nilc x0 fun a1 =>
 A.faddr 1 a1 fun a2 =>
 A.load false 1 a2 st fun a3 z4 =>
 A.nilc x0 fun a5 =>
 A.faddr 0 a5 fun a6 =>
 A.load false 1 a6 z4 fun a7 z8 =>
 A.lenL a7 fun a9 =>
 A.bin .lss a3 a9 fun a10 =>
 A.cond a10
 (A.ret (s60 [x0.er1] z8) fun a11 z12 =>
 A.load true 4 x3 z12 fun a13 z14 =>
 A.store 4 x2 a13 z14 fun z15 =>
 A.res (rcell (A.load true 4 x2 z15 kid) (some [])) z15)
 (A.load true 4 x3 z8 fun a16 z17 =>
 A.store 4 x2 a16 z17 fun z18 =>
 A.res (rcell (A.load true 4 x2 z18 kid) (some [])) z18))
 (A.load true 4 x3 st fun a19 z20 =>
 A.store 4 x2 a19 z20 fun z21 =>
 A.res (rcell (A.load true 4 x2 z21 kid) (some [])) z21)
theorem g28e11100_6 : (fun env st => aops Try.prog g28mu g28T 64 (rops (g28C [1, 1, 1, 0, 0])) [6, 7, 8, 9, 10, 11, 12, 13, 14, 15, 16] env st ((g28k1) .normal)) = fun env st => g28b11100_6 (env 0) (env 2) (env 3) (env 49) st := by
  refine Eq.trans (Eq.refl _) ?_
  funext env st
  kernel_rfl
noncomputable def g28b111 (x0 : V) (x2 : V) (x3 : V) (st : St) : Res :=
 A.nilc x0 fun a1 =>
 A.faddr 3 a1 fun a2 =>
 A.load false 1 a2 st fun a3 z4 =>
 A.un .not a3 fun a5 =>
 g28b11100_6 x0 x2 x3 a5 z4
theorem g28n111 : g28C [1, 1, 1] = .seq (g28C [1, 1, 1, 0]) (g28C [1, 1, 1, 1]) := by kernel_rfl
theorem g28n1110 : g28C [1, 1, 1, 0] = .seq (g28C [1, 1, 1, 0, 0]) (g28C [1, 1, 1, 0, 1]) := by kernel_rfl
theorem g28rg11100 : g28C [1, 1, 1, 0, 0] = .region 11 (rops (g28C [1, 1, 1, 0, 0])) true := by kernel_rfl
theorem g28rg11100o : regOk Try.prog g28mu (rops (g28C [1, 1, 1, 0, 0])) (befs (rops (g28C [1, 1, 1, 0, 0])).toList []) = true := by kernel_rfl
theorem g28rg11100q : quiet Try.prog g28mu (rops (g28C [1, 1, 1, 0, 0])) = true := by kernel_rfl
theorem g28rg11100l : List.range (rops (g28C [1, 1, 1, 0, 0])).size = [0, 1, 2, 3, 4, 5] ++ [6, 7, 8, 9, 10, 11, 12, 13, 14, 15, 16] := by kernel_rfl
theorem g28e111 : g28X (g28C [1, 1, 1]) (g28kr) = fun env st => g28b111 (env 0) (env 2) (env 3) st := by
  refine Eq.trans ((g28seq g28n111 rfl).trans ((g28seq g28n1110 rfl).trans (g28regD g28rg11100 g28rg11100o g28rg11100q g28rg11100l (g28e11100_6)))) ?_
  funext env st
  kernel_rfl
noncomputable def g28k2 : Kon := kSeq (fun env st => g28b111 (env 0) (env 2) (env 3) st) (g28kr)
noncomputable def g28k3 : Kon := kBlk 0 (g28k2)
noncomputable def g28bzqm : Nat → V → V → V → St → Res
| 0, _, _, _, _ => none
| n + 1, x0, x2, x3, st =>
 A.ret (s59 [x0.er1, ((.str [46]) : V).er1] st) fun a1 z2 =>
 A.cond a1
 (A.nilc x0 fun a3 =>
 A.faddr 1 a3 fun a4 =>
 A.load false 1 a4 z2 fun a5 z6 =>
 A.bin .add a5 (.int .i64 1) fun a7 =>
 A.nilc x0 fun a8 =>
 A.faddr 1 a8 fun a9 =>
 A.store 1 a9 a7 z6 fun z10 =>
 A.faddr 3 x3 fun a11 =>
 A.load false 1 a11 z10 fun a12 _ =>
 A.ret (A.ret (s58 [x0.er1] z10) kid) fun a13 z14 =>
 A.chk (ldv false 1 a11 z14) a12
 (A.bslice 4 (.agg [(.bool false), (.str []), (.str []), (.str [])]) 1 [(0, a13)] fun a15 =>
 A.ret (A.app 4 a12 (elemsOf 5 4 a15 z14) z14 kid) fun a16 z17 =>
 A.faddr 3 x3 fun a18 =>
 A.ret (A.store 1 a18 a16 z17 fun s => kid (.tup []) s) fun a19 z20 =>
 (g28bzqm n) x0 x2 x3 z20))
 (g28b111 x0 x2 x3 z2)
theorem g28nzqm : g28C [1, 1, 0, 1, 1, 1, 1, 1, 0] = .loop (g28C [1, 1, 0, 1, 1, 1, 1, 1, 0, 0]) := by kernel_rfl
noncomputable def g28k4 (Lzqm : V → V → V → St → Res) : Kon := kSeq (fun env st => Lzqm (env 0) (env 2) (env 3) st) (g28k3)
theorem g28ezqm : g28X (g28C [1, 1, 0, 1, 1, 1, 1, 1, 0]) (g28k3) = fun env st => g28bzqm big (env 0) (env 2) (env 3) st := by
  have key : ∀ n, aloop (g28X (g28C [1, 1, 0, 1, 1, 1, 1, 1, 0, 0])) (g28k3) n = fun env st => g28bzqm n (env 0) (env 2) (env 3) st := by
    intro n
    induction n with
    | zero => rfl
    | succ n ih =>
      have h : aloop (g28X (g28C [1, 1, 0, 1, 1, 1, 1, 1, 0, 0])) (g28k3) (n + 1) = g28X (g28C [1, 1, 0, 1, 1, 1, 1, 1, 0, 0]) (kSeq (aloop (g28X (g28C [1, 1, 0, 1, 1, 1, 1, 1, 0, 0])) (g28k3) n) (g28k3)) := rfl
      rw [h, ih]
      refine Eq.trans (Eq.refl _) ?_
      funext env st
      kernel_rfl
  exact (g28loop g28nzqm).trans (key big)
noncomputable def g28b11011 (x0 : V) (x2 : V) (x3 : V) (x15 : V) (st : St) : Res :=
 A.cond x15
 (A.faddr 0 x3 fun a1 =>
 A.store 1 a1 (.int .i64 1) st fun z2 =>
 A.ret (s57 [x0.er1] z2) fun a3 z4 =>
 A.faddr 1 x3 fun a5 =>
 A.store 2 a5 a3 z4 fun z6 =>
 g28b111 x0 x2 x3 z6)
 (A.faddr 0 x3 fun a7 =>
 A.store 1 a7 (.int .i64 2) st fun z8 =>
 A.faddr 3 x3 fun a9 =>
 A.load false 1 a9 z8 fun a10 _ =>
 A.ret (A.ret (s58 [x0.er1] z8) kid) fun a11 z12 =>
 A.chk (ldv false 1 a9 z12) a10
 (A.bslice 4 (.agg [(.bool false), (.str []), (.str []), (.str [])]) 1 [(0, a11)] fun a13 =>
 A.ret (A.app 4 a10 (elemsOf 5 4 a13 z12) z12 kid) fun a14 z15 =>
 A.faddr 3 x3 fun a16 =>
 A.ret (A.store 1 a16 a14 z15 fun s => kid (.tup []) s) fun a17 z18 =>
 g28bzqm big x0 x2 x3 z18))
theorem g28n11011 : g28C [1, 1, 0, 1, 1] = .cond (.tmp 15) (g28C [1, 1, 0, 1, 1, 0]) (g28C [1, 1, 0, 1, 1, 1]) := by kernel_rfl
theorem g28nz3b : g28C [1, 1, 0, 1, 1, 1] = .seq (g28C [1, 1, 0, 1, 1, 1, 0]) (g28C [1, 1, 0, 1, 1, 1, 1]) := by kernel_rfl
theorem g28nz6n : g28C [1, 1, 0, 1, 1, 1, 1] = .seq (g28C [1, 1, 0, 1, 1, 1, 1, 0]) (g28C [1, 1, 0, 1, 1, 1, 1, 1]) := by kernel_rfl
theorem g28nzdb : g28C [1, 1, 0, 1, 1, 1, 1, 1] = .block 0 (g28C [1, 1, 0, 1, 1, 1, 1, 1, 0]) := by kernel_rfl
theorem g28e11011 : g28X (g28C [1, 1, 0, 1, 1]) (g28k2) = fun env st => g28b11011 (env 0) (env 2) (env 3) (env 15) st := by
  refine Eq.trans (g28cond g28n11011 rfl (g28seq g28nz3b (g28seq g28nz6n ((g28blk g28nzdb).trans (g28ezqm))))) ?_
  funext env st
  kernel_rfl
noncomputable def f28 (x0 : V) (st : St) : Res :=
 A.box (.agg [(.int .i64 0), (.lst [] 1), (.lst [] 1), (.lst [] 1)]) st fun a1 z2 =>
 A.build [(.int .i64 0), (.lst [] 1), (.lst [] 1), (.lst [] 1)] [] fun a3 =>
 A.box (.agg [(.int .i64 0), (.lst [] 1), (.lst [] 1), (.lst [] 1)]) z2 fun a4 z5 =>
 A.store 4 a4 a3 z5 fun z6 =>
 A.ret (s56 [x0.er1] z6) fun a7 z8 =>
 A.box (.agg [(.int .i64 0), (.str []), (.int .i64 0)]) z8 fun a9 z10 =>
 A.store 3 a9 a7 z10 fun z11 =>
 A.faddr 0 a9 fun a12 =>
 A.load false 1 a12 z11 fun a13 z14 =>
 A.eql 2 false a13 (.int .i64 1) fun a15 =>
 A.guard a15 true
 (A.faddr 1 a9 fun a16 =>
 A.load false 1 a16 z14 fun a17 z18 =>
 A.eql 3 false a17 (.str [115, 101, 108, 101, 99, 116]) fun a19 =>
 g28b11011 x0 a1 a4 a19 z18)
 (g28b11011 x0 a1 a4 (.bool false) z14)
theorem g28nr : g28C [] = .seq (g28C [0]) (g28C [1]) := by kernel_rfl
theorem g28n1 : g28C [1] = .seq (g28C [1, 0]) (g28C [1, 1]) := by kernel_rfl
theorem g28n11 : g28C [1, 1] = .seq (g28C [1, 1, 0]) (g28C [1, 1, 1]) := by kernel_rfl
theorem g28n110 : g28C [1, 1, 0] = .seq (g28C [1, 1, 0, 0]) (g28C [1, 1, 0, 1]) := by kernel_rfl
theorem g28n1101 : g28C [1, 1, 0, 1] = .seq (g28C [1, 1, 0, 1, 0]) (g28C [1, 1, 0, 1, 1]) := by kernel_rfl
theorem g28er (env : Env) (st : St) : g28X (g28C []) g28kr env st = f28 (env 0) st := by
  rw [(g28seq g28nr (g28seq g28n1 ((g28seq g28n11 (g28e111)).trans (g28seq g28n110 (g28seq g28n1101 (g28e11011))))))]
  kernel_rfl
theorem s28_eq (x0 : V) (st : St) : s28 [x0] st = f28 x0 st := by
  have h : afn Try.prog g28mu g28T big (areg Try.prog g28mu g28T) 28 [x0] st = g28X (g28C []) g28kr (fun t => [x0].getD t (.tup [])) st := by kernel_rfl
  rw [s28, sealF_eq]
  exact h.trans (g28er _ st)
/-! sinew/sinewref09.Places -/
def g61mu : Nat → Bool := fun _ => false
noncomputable def g61T (R : Fn) : Tbl := tget [(61, R)]
theorem g61t (R : Fn) (hR : Sim Try.prog 61 R) : SimT Try.prog (g61T R) := simT_cons hR (simT_nil)
noncomputable def s61n : Nat → Fn
| 0 => fun _ _ => none
| n + 1 => fun args st => fg (afn Try.prog g61mu (g61T (s61n n)) big (areg Try.prog g61mu (g61T (s61n n))) 61 args st) st
theorem sim61n : ∀ n, Sim Try.prog 61 (s61n n)
| 0 => ⟨by kernel_rfl, fun _ _ _ _ _ _ _ h => by cases h⟩
| n + 1 => (afn_sim (g61t (s61n n) (sim61n n)) (fun m => areg_sound (g61t (s61n n) (sim61n n)) hmix m) 61 (by kernel_rfl)).fg
noncomputable def s61 : Fn := sealF (s61n big)
theorem sim61 : Sim Try.prog 61 s61 := (sim61n big).sealed
theorem s61_n : s61 = s61n big := sealF_eq _
noncomputable def g61C (p : List Nat) : Code := sub (match Try.f61.body with | some c => c | none => .skip) p
noncomputable def g61X (R : Fn) (c : Code) (K : Kon) : Env → St → Res := aexec Try.prog g61mu (g61T R) big 24 (areg Try.prog g61mu (g61T R) 24) c K
noncomputable def g61kr (R : Fn) : Kon := aresK Try.prog Try.f61.results.toList
theorem g61reg (R : Fn) {c : Code} {K : Kon} {G : Env → St → Res} {id : Nat} {ops : Array Oper} {l1 l2 : List Nat} (hc : c = .region id ops false) (hl : List.range ops.size = l1 ++ l2) (h : (fun env st => aops Try.prog g61mu (g61T R) 24 ops l2 env st (K .normal)) = G) : (g61X R) c K = fun env st => aops Try.prog g61mu (g61T R) 24 ops l1 env st G := reg_cut hc hl h
theorem g61seq (R : Fn) {c x y : Code} {K : Kon} {G : Env → St → Res} (hc : c = .seq x y) (hy : (g61X R) y K = G) : (g61X R) c K = (g61X R) x (kSeq G K) := seq_cut hc hy
theorem g61blk (R : Fn) {c x : Code} {K : Kon} {i : Nat} (hc : c = .block i x) : (g61X R) c K = (g61X R) x (kBlk i K) := blk_cut hc
theorem g61loop (R : Fn) {c x : Code} {K : Kon} (hc : c = .loop x) : (g61X R) c K = aloop ((g61X R) x) K big := loop_cut hc
theorem g61cond (R : Fn) {c x y : Code} {K : Kon} {v : Operand} {F G : Env → St → Res} (hc : c = .cond v x y) (hx : (g61X R) x K = F) (hy : (g61X R) y K = G) : (g61X R) c K = condF v F G := cond_cut hc hx hy
noncomputable def g61k0 (R : Fn) : Kon := kSeq ((g61X R) (g61C [1, 1, 1, 1]) ((g61kr R))) ((g61kr R))
noncomputable def g61k1 (R : Fn) : Kon := kBlk 0 ((g61k0 R))
noncomputable def g61bz3e (R : Fn) : Nat → V → V → V → St → Res
| 0, _, _, _, _ => none
| n + 1, x1, x3, x4, st =>
 A.faddr 2 x1 fun a1 =>
 A.load false 1 a1 st fun a2 z3 =>
 A.lenL a2 fun a4 =>
 A.bin .lss x4 a4 fun a5 =>
 A.cond a5
 (A.faddr 2 x1 fun a6 =>
 A.load false 1 a6 z3 fun a7 z8 =>
 A.iaddr 3 a7 x4 fun a9 =>
 A.load true 3 a9 z8 fun a10 z11 =>
 A.ret (R [a10.er1] z11) fun a12 z13 =>
 A.bin .add x3 a12 fun a14 =>
 A.bin .add x4 (.int .i64 1) fun a15 =>
 ((g61bz3e R) n) x1 a14 a15 z13)
 (some (.ret x3.er1, z3))
theorem g61nz3e : g61C [1, 1, 1, 0, 1, 0] = .loop (g61C [1, 1, 1, 0, 1, 0, 0]) := by kernel_rfl
noncomputable def g61k2 (R : Fn) (Lz3e : V → V → V → St → Res) : Kon := kSeq (fun env st => Lz3e (env 1) (env 3) (env 4) st) ((g61k1 R))
theorem g61ez3e (R : Fn) : (g61X R) (g61C [1, 1, 1, 0, 1, 0]) ((g61k1 R)) = fun env st => (g61bz3e R) big (env 1) (env 3) (env 4) st := by
  have key : ∀ n, aloop ((g61X R) (g61C [1, 1, 1, 0, 1, 0, 0])) ((g61k1 R)) n = fun env st => (g61bz3e R) n (env 1) (env 3) (env 4) st := by
    intro n
    induction n with
    | zero => rfl
    | succ n ih =>
      have h : aloop ((g61X R) (g61C [1, 1, 1, 0, 1, 0, 0])) ((g61k1 R)) (n + 1) = (g61X R) (g61C [1, 1, 1, 0, 1, 0, 0]) (kSeq (aloop ((g61X R) (g61C [1, 1, 1, 0, 1, 0, 0])) ((g61k1 R)) n) ((g61k1 R))) := rfl
      rw [h, ih]
      refine Eq.trans (Eq.refl _) ?_
      funext env st
      kernel_rfl
  exact ((g61loop R) g61nz3e).trans (key big)
noncomputable def f61 (R : Fn) (x0 : V) (st : St) : Res :=
 A.box x0 st fun a1 z2 =>
 A.faddr 0 a1 fun a3 =>
 A.load false 1 a3 z2 fun a4 z5 =>
 A.eql 2 false a4 (.int .i64 1) fun a6 =>
 A.cond a6
 (some (.ret ((.int .i64 1) : V).er1, z5))
 ((g61bz3e R) big a1 (.int .i64 0) (.int .i64 0) z5)
theorem g61nr : g61C [] = .seq (g61C [0]) (g61C [1]) := by kernel_rfl
theorem g61n1 : g61C [1] = .seq (g61C [1, 0]) (g61C [1, 1]) := by kernel_rfl
theorem g61n11 : g61C [1, 1] = .seq (g61C [1, 1, 0]) (g61C [1, 1, 1]) := by kernel_rfl
theorem g61n111 : g61C [1, 1, 1] = .seq (g61C [1, 1, 1, 0]) (g61C [1, 1, 1, 1]) := by kernel_rfl
theorem g61n1110 : g61C [1, 1, 1, 0] = .seq (g61C [1, 1, 1, 0, 0]) (g61C [1, 1, 1, 0, 1]) := by kernel_rfl
theorem g61n11101 : g61C [1, 1, 1, 0, 1] = .block 0 (g61C [1, 1, 1, 0, 1, 0]) := by kernel_rfl
theorem g61er (R : Fn) (env : Env) (st : St) : (g61X R) (g61C []) (g61kr R) env st = (f61 R) (env 0) st := by
  rw [((g61seq R) g61nr ((g61seq R) g61n1 ((g61seq R) g61n11 (((g61seq R) g61n111 rfl).trans ((g61seq R) g61n1110 (((g61blk R) g61n11101).trans ((g61ez3e R))))))))]
  kernel_rfl
theorem s61n_eq (n : Nat) (x0 : V) (st : St) : s61n (n + 1) [x0] st = fg ((f61 (s61n n)) x0 st) st := by
  have h : afn Try.prog g61mu (g61T (s61n n)) big (areg Try.prog g61mu (g61T (s61n n))) 61 [x0] st = (g61X (s61n n)) (g61C []) (g61kr (s61n n)) (fun t => [x0].getD t (.tup [])) st := by kernel_rfl
  show fg (afn Try.prog g61mu (g61T (s61n n)) big (areg Try.prog g61mu (g61T (s61n n))) 61 _ st) st = fg _ st
  refine congrArg (fun r => fg r st) ?_
  exact h.trans ((g61er (s61n n)) _ st)
/-! sinew/sinewref09.Deep -/
def g62mu : Nat → Bool := fun _ => false
noncomputable def g62T (R : Fn) : Tbl := tget [(62, R)]
theorem g62t (R : Fn) (hR : Sim Try.prog 62 R) : SimT Try.prog (g62T R) := simT_cons hR (simT_nil)
noncomputable def s62n : Nat → Fn
| 0 => fun _ _ => none
| n + 1 => fun args st => fg (afn Try.prog g62mu (g62T (s62n n)) big (areg Try.prog g62mu (g62T (s62n n))) 62 args st) st
theorem sim62n : ∀ n, Sim Try.prog 62 (s62n n)
| 0 => ⟨by kernel_rfl, fun _ _ _ _ _ _ _ h => by cases h⟩
| n + 1 => (afn_sim (g62t (s62n n) (sim62n n)) (fun m => areg_sound (g62t (s62n n) (sim62n n)) hmix m) 62 (by kernel_rfl)).fg
noncomputable def s62 : Fn := sealF (s62n big)
theorem sim62 : Sim Try.prog 62 s62 := (sim62n big).sealed
theorem s62_n : s62 = s62n big := sealF_eq _
noncomputable def g62C (p : List Nat) : Code := sub (match Try.f62.body with | some c => c | none => .skip) p
noncomputable def g62X (R : Fn) (c : Code) (K : Kon) : Env → St → Res := aexec Try.prog g62mu (g62T R) big 22 (areg Try.prog g62mu (g62T R) 22) c K
noncomputable def g62kr (R : Fn) : Kon := aresK Try.prog Try.f62.results.toList
theorem g62reg (R : Fn) {c : Code} {K : Kon} {G : Env → St → Res} {id : Nat} {ops : Array Oper} {l1 l2 : List Nat} (hc : c = .region id ops false) (hl : List.range ops.size = l1 ++ l2) (h : (fun env st => aops Try.prog g62mu (g62T R) 22 ops l2 env st (K .normal)) = G) : (g62X R) c K = fun env st => aops Try.prog g62mu (g62T R) 22 ops l1 env st G := reg_cut hc hl h
theorem g62seq (R : Fn) {c x y : Code} {K : Kon} {G : Env → St → Res} (hc : c = .seq x y) (hy : (g62X R) y K = G) : (g62X R) c K = (g62X R) x (kSeq G K) := seq_cut hc hy
theorem g62blk (R : Fn) {c x : Code} {K : Kon} {i : Nat} (hc : c = .block i x) : (g62X R) c K = (g62X R) x (kBlk i K) := blk_cut hc
theorem g62loop (R : Fn) {c x : Code} {K : Kon} (hc : c = .loop x) : (g62X R) c K = aloop ((g62X R) x) K big := loop_cut hc
theorem g62cond (R : Fn) {c x y : Code} {K : Kon} {v : Operand} {F G : Env → St → Res} (hc : c = .cond v x y) (hx : (g62X R) x K = F) (hy : (g62X R) y K = G) : (g62X R) c K = condF v F G := cond_cut hc hx hy
noncomputable def g62k0 (R : Fn) : Kon := kSeq ((g62X R) (g62C [1, 1, 1]) ((g62kr R))) ((g62kr R))
noncomputable def g62k1 (R : Fn) : Kon := kBlk 0 ((g62k0 R))
noncomputable def g62b11010 (R : Fn) : Nat → V → V → V → St → Res
| 0, _, _, _, _ => none
| n + 1, x1, x3, x4, st =>
 A.faddr 2 x1 fun a1 =>
 A.load false 1 a1 st fun a2 z3 =>
 A.lenL a2 fun a4 =>
 A.bin .lss x4 a4 fun a5 =>
 A.cond a5
 (A.faddr 2 x1 fun a6 =>
 A.load false 1 a6 z3 fun a7 z8 =>
 A.iaddr 3 a7 x4 fun a9 =>
 A.load true 3 a9 z8 fun a10 z11 =>
 A.ret (R [a10.er1] z11) fun a12 z13 =>
 A.max x3 a12 fun a14 =>
 A.bin .add x4 (.int .i64 1) fun a15 =>
 ((g62b11010 R) n) x1 a14 a15 z13)
 (A.bin .add x3 (.int .i64 1) fun a16 =>
 some (.ret a16.er1, z3))
theorem g62n11010 : g62C [1, 1, 0, 1, 0] = .loop (g62C [1, 1, 0, 1, 0, 0]) := by kernel_rfl
noncomputable def g62k2 (R : Fn) (L11010 : V → V → V → St → Res) : Kon := kSeq (fun env st => L11010 (env 1) (env 3) (env 4) st) ((g62k1 R))
theorem g62e11010 (R : Fn) : (g62X R) (g62C [1, 1, 0, 1, 0]) ((g62k1 R)) = fun env st => (g62b11010 R) big (env 1) (env 3) (env 4) st := by
  have key : ∀ n, aloop ((g62X R) (g62C [1, 1, 0, 1, 0, 0])) ((g62k1 R)) n = fun env st => (g62b11010 R) n (env 1) (env 3) (env 4) st := by
    intro n
    induction n with
    | zero => rfl
    | succ n ih =>
      have h : aloop ((g62X R) (g62C [1, 1, 0, 1, 0, 0])) ((g62k1 R)) (n + 1) = (g62X R) (g62C [1, 1, 0, 1, 0, 0]) (kSeq (aloop ((g62X R) (g62C [1, 1, 0, 1, 0, 0])) ((g62k1 R)) n) ((g62k1 R))) := rfl
      rw [h, ih]
      refine Eq.trans (Eq.refl _) ?_
      funext env st
      kernel_rfl
  exact ((g62loop R) g62n11010).trans (key big)
noncomputable def f62 (R : Fn) (x0 : V) (st : St) : Res :=
 A.box x0 st fun a1 z2 =>
 (g62b11010 R) big a1 (.int .i64 0) (.int .i64 0) z2
theorem g62nr : g62C [] = .seq (g62C [0]) (g62C [1]) := by kernel_rfl
theorem g62n1 : g62C [1] = .seq (g62C [1, 0]) (g62C [1, 1]) := by kernel_rfl
theorem g62n11 : g62C [1, 1] = .seq (g62C [1, 1, 0]) (g62C [1, 1, 1]) := by kernel_rfl
theorem g62n110 : g62C [1, 1, 0] = .seq (g62C [1, 1, 0, 0]) (g62C [1, 1, 0, 1]) := by kernel_rfl
theorem g62n1101 : g62C [1, 1, 0, 1] = .block 0 (g62C [1, 1, 0, 1, 0]) := by kernel_rfl
theorem g62er (R : Fn) (env : Env) (st : St) : (g62X R) (g62C []) (g62kr R) env st = (f62 R) (env 0) st := by
  rw [((g62seq R) g62nr ((g62seq R) g62n1 (((g62seq R) g62n11 rfl).trans ((g62seq R) g62n110 (((g62blk R) g62n1101).trans ((g62e11010 R)))))))]
  kernel_rfl
theorem s62n_eq (n : Nat) (x0 : V) (st : St) : s62n (n + 1) [x0] st = fg ((f62 (s62n n)) x0 st) st := by
  have h : afn Try.prog g62mu (g62T (s62n n)) big (areg Try.prog g62mu (g62T (s62n n))) 62 [x0] st = (g62X (s62n n)) (g62C []) (g62kr (s62n n)) (fun t => [x0].getD t (.tup [])) st := by kernel_rfl
  show fg (afn Try.prog g62mu (g62T (s62n n)) big (areg Try.prog g62mu (g62T (s62n n))) 62 _ st) st = fg _ st
  refine congrArg (fun r => fg r st) ?_
  exact h.trans ((g62er (s62n n)) _ st)
/-! sinew/sinewref09.alike -/
def g63mu : Nat → Bool := fun _ => false
noncomputable def g63T : Tbl := tget [(45, s45)]
theorem g63t : SimT Try.prog g63T := simT_cons sim45 (simT_nil)
noncomputable def s63 : Fn := sealF (fun args st => fg (afn Try.prog g63mu g63T big (areg Try.prog g63mu g63T) 63 args st) st)
theorem sim63 : Sim Try.prog 63 s63 := (afn_sim g63t (fun m => areg_sound g63t hmix m) 63 (by kernel_rfl)).fg.sealed
noncomputable def g63C (p : List Nat) : Code := sub (match Try.f63.body with | some c => c | none => .skip) p
noncomputable def g63X (c : Code) (K : Kon) : Env → St → Res := aexec Try.prog g63mu g63T big 18 (areg Try.prog g63mu g63T 18) c K
noncomputable def g63kr : Kon := aresK Try.prog Try.f63.results.toList
theorem g63reg {c : Code} {K : Kon} {G : Env → St → Res} {id : Nat} {ops : Array Oper} {l1 l2 : List Nat} (hc : c = .region id ops false) (hl : List.range ops.size = l1 ++ l2) (h : (fun env st => aops Try.prog g63mu g63T 18 ops l2 env st (K .normal)) = G) : g63X c K = fun env st => aops Try.prog g63mu g63T 18 ops l1 env st G := reg_cut hc hl h
theorem g63seq {c x y : Code} {K : Kon} {G : Env → St → Res} (hc : c = .seq x y) (hy : g63X y K = G) : g63X c K = g63X x (kSeq G K) := seq_cut hc hy
theorem g63blk {c x : Code} {K : Kon} {i : Nat} (hc : c = .block i x) : g63X c K = g63X x (kBlk i K) := blk_cut hc
theorem g63loop {c x : Code} {K : Kon} (hc : c = .loop x) : g63X c K = aloop (g63X x) K big := loop_cut hc
theorem g63cond {c x y : Code} {K : Kon} {v : Operand} {F G : Env → St → Res} (hc : c = .cond v x y) (hx : g63X x K = F) (hy : g63X y K = G) : g63X c K = condF v F G := cond_cut hc hx hy
noncomputable def g63k0 : Kon := kSeq (g63X (g63C [1, 1]) (g63kr)) (g63kr)
noncomputable def g63k1 : Kon := kBlk 0 (g63k0)
noncomputable def g63b1010 : Nat → V → V → St → Res
| 0, _, _, _ => none
| n + 1, x0, x3, st =>
 A.lenL x0 fun a1 =>
 A.bin .lss x3 a1 fun a2 =>
 A.cond a2
 (A.slice 1 x0 none (some x3) none fun a3 =>
 A.iaddr 1 x0 x3 fun a4 =>
 A.load false 1 a4 st fun a5 _ =>
 A.ret (A.ret (s45 [a3.er1, a5.er1] st) kid) fun a6 z7 =>
 A.cond a6
 (some (.ret ((.bool true) : V).er1, z7))
 (A.bin .add x3 (.int .i64 1) fun a8 =>
 (g63b1010 n) x0 a8 z7))
 (some (.ret ((.bool false) : V).er1, st))
theorem g63n1010 : g63C [1, 0, 1, 0] = .loop (g63C [1, 0, 1, 0, 0]) := by kernel_rfl
noncomputable def g63k2 (L1010 : V → V → St → Res) : Kon := kSeq (fun env st => L1010 (env 0) (env 3) st) (g63k1)
theorem g63e1010 : g63X (g63C [1, 0, 1, 0]) (g63k1) = fun env st => g63b1010 big (env 0) (env 3) st := by
  have key : ∀ n, aloop (g63X (g63C [1, 0, 1, 0, 0])) (g63k1) n = fun env st => g63b1010 n (env 0) (env 3) st := by
    intro n
    induction n with
    | zero => rfl
    | succ n ih =>
      have h : aloop (g63X (g63C [1, 0, 1, 0, 0])) (g63k1) (n + 1) = g63X (g63C [1, 0, 1, 0, 0]) (kSeq (aloop (g63X (g63C [1, 0, 1, 0, 0])) (g63k1) n) (g63k1)) := rfl
      rw [h, ih]
      refine Eq.trans (Eq.refl _) ?_
      funext env st
      kernel_rfl
  exact (g63loop g63n1010).trans (key big)
noncomputable def f63 (x0 : V) (st : St) : Res :=
 g63b1010 big x0 (.int .i64 0) st
theorem g63nr : g63C [] = .seq (g63C [0]) (g63C [1]) := by kernel_rfl
theorem g63n1 : g63C [1] = .seq (g63C [1, 0]) (g63C [1, 1]) := by kernel_rfl
theorem g63n10 : g63C [1, 0] = .seq (g63C [1, 0, 0]) (g63C [1, 0, 1]) := by kernel_rfl
theorem g63n101 : g63C [1, 0, 1] = .block 0 (g63C [1, 0, 1, 0]) := by kernel_rfl
theorem g63er (env : Env) (st : St) : g63X (g63C []) g63kr env st = f63 (env 0) st := by
  rw [(g63seq g63nr ((g63seq g63n1 rfl).trans (g63seq g63n10 ((g63blk g63n101).trans (g63e1010)))))]
  kernel_rfl
theorem s63_eq (x0 : V) (st : St) : s63 [x0] st = fg (f63 x0 st) st := by
  have h : afn Try.prog g63mu g63T big (areg Try.prog g63mu g63T) 63 [x0] st = g63X (g63C []) g63kr (fun t => [x0].getD t (.tup [])) st := by kernel_rfl
  rw [s63, sealF_eq]
  show fg _ st = fg _ st
  refine congrArg (fun r => fg r st) ?_
  exact h.trans (g63er _ st)
/-! sinew/sinewref09.why -/
def g29mu : Nat → Bool := fun _ => false
noncomputable def g29T : Tbl := tget [(22, s22), (45, s45), (61, s61), (62, s62), (63, s63)]
theorem g29t : SimT Try.prog g29T := simT_cons sim22 ( simT_cons sim45 ( simT_cons sim61 ( simT_cons sim62 ( simT_cons sim63 (simT_nil)))))
noncomputable def s29 : Fn := sealF (fun args st => fg (afn Try.prog g29mu g29T big (areg Try.prog g29mu g29T) 29 args st) st)
theorem sim29 : Sim Try.prog 29 s29 := (afn_sim g29t (fun m => areg_sound g29t hmix m) 29 (by kernel_rfl)).fg.sealed
noncomputable def g29C (p : List Nat) : Code := sub (match Try.f29.body with | some c => c | none => .skip) p
noncomputable def g29X (c : Code) (K : Kon) : Env → St → Res := aexec Try.prog g29mu g29T big 75 (areg Try.prog g29mu g29T 75) c K
noncomputable def g29kr : Kon := aresK Try.prog Try.f29.results.toList
theorem g29reg {c : Code} {K : Kon} {G : Env → St → Res} {id : Nat} {ops : Array Oper} {l1 l2 : List Nat} (hc : c = .region id ops false) (hl : List.range ops.size = l1 ++ l2) (h : (fun env st => aops Try.prog g29mu g29T 75 ops l2 env st (K .normal)) = G) : g29X c K = fun env st => aops Try.prog g29mu g29T 75 ops l1 env st G := reg_cut hc hl h
theorem g29seq {c x y : Code} {K : Kon} {G : Env → St → Res} (hc : c = .seq x y) (hy : g29X y K = G) : g29X c K = g29X x (kSeq G K) := seq_cut hc hy
theorem g29blk {c x : Code} {K : Kon} {i : Nat} (hc : c = .block i x) : g29X c K = g29X x (kBlk i K) := blk_cut hc
theorem g29loop {c x : Code} {K : Kon} (hc : c = .loop x) : g29X c K = aloop (g29X x) K big := loop_cut hc
theorem g29cond {c x y : Code} {K : Kon} {v : Operand} {F G : Env → St → Res} (hc : c = .cond v x y) (hx : g29X x K = F) (hy : g29X y K = G) : g29X c K = condF v F G := cond_cut hc hx hy
noncomputable def g29k0 : Kon := kSeq (g29X (g29C [1, 1, 1, 1, 1, 1, 1]) (g29kr)) (g29kr)
noncomputable def g29k1 : Kon := kBlk 2 (g29k0)
noncomputable def g29bzsa : Nat → V → V → V → St → Res
| 0, _, _, _, _ => none
| n + 1, x3, x5, x6, st =>
 A.faddr 0 x3 fun a1 =>
 A.load false 1 a1 st fun a2 z3 =>
 A.lenL a2 fun a4 =>
 A.bin .lss x6 a4 fun a5 =>
 A.cond a5
 (A.faddr 0 x3 fun a6 =>
 A.load false 1 a6 z3 fun a7 z8 =>
 A.iaddr 1 a7 x6 fun a9 =>
 A.load false 1 a9 z8 fun a10 z11 =>
 A.ret (s45 [x5.er1, a10.er1] z11) fun a12 z13 =>
 A.un .not a12 fun a14 =>
 A.cond a14
 (some (.ret ((.int .i64 91) : V).er1, z13))
 (A.bin .add x6 (.int .i64 1) fun a15 =>
 (g29bzsa n) x3 x5 a15 z13))
 (some (.ret ((.int .i64 0) : V).er1, z3))
theorem g29nzsa : g29C [1, 1, 1, 1, 1, 1, 0, 1, 0] = .loop (g29C [1, 1, 1, 1, 1, 1, 0, 1, 0, 0]) := by kernel_rfl
noncomputable def g29k2 (Lzsa : V → V → V → St → Res) : Kon := kSeq (fun env st => Lzsa (env 3) (env 5) (env 6) st) (g29k1)
theorem g29ezsa : g29X (g29C [1, 1, 1, 1, 1, 1, 0, 1, 0]) (g29k1) = fun env st => g29bzsa big (env 3) (env 5) (env 6) st := by
  have key : ∀ n, aloop (g29X (g29C [1, 1, 1, 1, 1, 1, 0, 1, 0, 0])) (g29k1) n = fun env st => g29bzsa n (env 3) (env 5) (env 6) st := by
    intro n
    induction n with
    | zero => rfl
    | succ n ih =>
      have h : aloop (g29X (g29C [1, 1, 1, 1, 1, 1, 0, 1, 0, 0])) (g29k1) (n + 1) = g29X (g29C [1, 1, 1, 1, 1, 1, 0, 1, 0, 0]) (kSeq (aloop (g29X (g29C [1, 1, 1, 1, 1, 1, 0, 1, 0, 0])) (g29k1) n) (g29k1)) := rfl
      rw [h, ih]
      refine Eq.trans (Eq.refl _) ?_
      funext env st
      kernel_rfl
  exact (g29loop g29nzsa).trans (key big)
noncomputable def g29b11111 (x3 : V) (x5 : V) (st : St) : Res :=
 A.faddr 0 x3 fun a1 =>
 A.load false 1 a1 st fun a2 z3 =>
 A.ret (s63 [a2.er1] z3) fun a4 z5 =>
 A.cond a4
 (some (.ret ((.int .i64 1) : V).er1, z5))
 (g29bzsa big x3 x5 (.int .i64 0) z5)
theorem g29n11111 : g29C [1, 1, 1, 1, 1] = .seq (g29C [1, 1, 1, 1, 1, 0]) (g29C [1, 1, 1, 1, 1, 1]) := by kernel_rfl
theorem g29nz3j : g29C [1, 1, 1, 1, 1, 1] = .seq (g29C [1, 1, 1, 1, 1, 1, 0]) (g29C [1, 1, 1, 1, 1, 1, 1]) := by kernel_rfl
theorem g29nz72 : g29C [1, 1, 1, 1, 1, 1, 0] = .seq (g29C [1, 1, 1, 1, 1, 1, 0, 0]) (g29C [1, 1, 1, 1, 1, 1, 0, 1]) := by kernel_rfl
theorem g29nze5 : g29C [1, 1, 1, 1, 1, 1, 0, 1] = .block 2 (g29C [1, 1, 1, 1, 1, 1, 0, 1, 0]) := by kernel_rfl
theorem g29e11111 : g29X (g29C [1, 1, 1, 1, 1]) (g29kr) = fun env st => g29b11111 (env 3) (env 5) st := by
  refine Eq.trans (g29seq g29n11111 ((g29seq g29nz3j rfl).trans (g29seq g29nz72 ((g29blk g29nze5).trans (g29ezsa))))) ?_
  funext env st
  kernel_rfl
noncomputable def g29k3 : Kon := kSeq (fun env st => g29b11111 (env 3) (env 5) st) (g29kr)
noncomputable def g29k4 : Kon := kSeq (g29X (g29C [1, 1, 1, 1, 0, 1]) (g29k3)) (g29k3)
noncomputable def g29bz3g_11 (x1 : V) (x3 : V) (x5 : V) (x46 : V) (st : St) : Res :=
 A.guard x46 false
 (A.lenL x5 fun a1 =>
 A.bin .gtr a1 (.int .i64 6) fun a2 =>
 A.guard a2 false
 (A.faddr 3 x1 fun a3 =>
 A.load false 1 a3 st fun a4 z5 =>
 A.lenL a4 fun a6 =>
 A.bin .gtr a6 (.int .i64 64) fun a7 =>
 A.cond a7
 (some (.ret ((.int .i64 2) : V).er1, z5))
 (g29b11111 x3 x5 z5))
 (some (.ret ((.int .i64 2) : V).er1, st)))
 (some (.ret ((.int .i64 2) : V).er1, st))
theorem g29ez3g_11 : (fun env st => aops Try.prog g29mu g29T 75 (rops (g29C [1, 1, 1, 1, 0, 0])) [11, 12, 13, 14, 15, 16, 17, 18, 19, 20] env st ((g29k4) .normal)) = fun env st => g29bz3g_11 (env 1) (env 3) (env 5) (env 46) st := by
  refine Eq.trans (Eq.refl _) ?_
  funext env st
  kernel_rfl
noncomputable def g29b111 (x1 : V) (x3 : V) (st : St) : Res :=
 A.load true 2 x3 st fun a1 z2 =>
 A.ret (s22 [a1.er1] z2) fun a3 z4 =>
 A.faddr 0 x3 fun a5 =>
 A.load false 1 a5 z4 fun a6 z7 =>
 A.lenL a6 fun a8 =>
 A.bin .gtr a8 (.int .i64 6) fun a9 =>
 A.guard a9 false
 (A.faddr 1 x3 fun a10 =>
 A.load false 1 a10 z7 fun a11 z12 =>
 A.lenL a11 fun a13 =>
 A.bin .gtr a13 (.int .i64 6) fun a14 =>
 g29bz3g_11 x1 x3 a3 a14 z12)
 (g29bz3g_11 x1 x3 a3 (.bool true) z7)
theorem g29n111 : g29C [1, 1, 1] = .seq (g29C [1, 1, 1, 0]) (g29C [1, 1, 1, 1]) := by kernel_rfl
theorem g29n1111 : g29C [1, 1, 1, 1] = .seq (g29C [1, 1, 1, 1, 0]) (g29C [1, 1, 1, 1, 1]) := by kernel_rfl
theorem g29n11110 : g29C [1, 1, 1, 1, 0] = .seq (g29C [1, 1, 1, 1, 0, 0]) (g29C [1, 1, 1, 1, 0, 1]) := by kernel_rfl
theorem g29rgz3g : g29C [1, 1, 1, 1, 0, 0] = .region 8 (rops (g29C [1, 1, 1, 1, 0, 0])) false := by kernel_rfl
theorem g29rgz3gl : List.range (rops (g29C [1, 1, 1, 1, 0, 0])).size = [0, 1, 2, 3, 4, 5, 6, 7, 8, 9, 10] ++ [11, 12, 13, 14, 15, 16, 17, 18, 19, 20] := by kernel_rfl
theorem g29e111 : g29X (g29C [1, 1, 1]) (g29kr) = fun env st => g29b111 (env 1) (env 3) st := by
  refine Eq.trans (g29seq g29n111 ((g29seq g29n1111 (g29e11111)).trans ((g29seq g29n11110 rfl).trans (g29reg g29rgz3g g29rgz3gl (g29ez3g_11))))) ?_
  funext env st
  kernel_rfl
noncomputable def g29k5 : Kon := kSeq (fun env st => g29b111 (env 1) (env 3) st) (g29kr)
noncomputable def g29k6 : Kon := kBlk 0 (g29k5)
noncomputable def g29k7 (L11010 : V → V → V → St → Res) : Kon := kSeq (fun env st => L11010 (env 1) (env 3) (env 4) st) (g29k6)
noncomputable def g29k8 (L11010 : V → V → V → St → Res) : Kon := kSeq (g29X (g29C [1, 1, 0, 1, 0, 0, 1, 1]) (g29k7 L11010)) (g29k7 L11010)
noncomputable def g29k9 (L11010 : V → V → V → St → Res) : Kon := kBlk 1 (g29k8 L11010)
noncomputable def g29k10 (L11010 : V → V → V → St → Res) : Kon := kSeq (g29X (g29C [1, 1, 0, 1, 0, 0, 1, 0, 0, 1]) (g29k9 L11010)) (g29k9 L11010)
noncomputable def g29bz1fs_9 (L11010 : V → V → V → St → Res) (x1 : V) (x3 : V) (x4 : V) (x24 : V) (st : St) : Res :=
 A.guard x24 false
 (A.faddr 1 x3 fun a1 =>
 A.load false 1 a1 st fun a2 z3 =>
 A.iaddr 7 a2 x4 fun a4 =>
 A.faddr 2 a4 fun a5 =>
 A.load true 3 a5 z3 fun a6 z7 =>
 A.ret (s62 [a6.er1] z7) fun a8 z9 =>
 A.bin .gtr a8 (.int .i64 12) fun a10 =>
 A.cond a10
 (some (.ret ((.int .i64 100) : V).er1, z9))
 (A.bin .add x4 (.int .i64 1) fun a11 =>
 L11010 x1 x3 a11 z9))
 (some (.ret ((.int .i64 100) : V).er1, st))
theorem g29ez1fs_9 (L11010 : V → V → V → St → Res) : (fun env st => aops Try.prog g29mu g29T 75 (rops (g29C [1, 1, 0, 1, 0, 0, 1, 0, 0, 0])) [9, 10, 11, 12, 13, 14, 15, 16, 17] env st ((g29k10 L11010) .normal)) = fun env st => g29bz1fs_9 L11010 (env 1) (env 3) (env 4) (env 24) st := by
  refine Eq.trans (Eq.refl _) ?_
  funext env st
  kernel_rfl
noncomputable def g29b11010 : Nat → V → V → V → St → Res
| 0, _, _, _, _ => none
| n + 1, x1, x3, x4, st =>
 A.faddr 1 x3 fun a1 =>
 A.load false 1 a1 st fun a2 z3 =>
 A.lenL a2 fun a4 =>
 A.bin .lss x4 a4 fun a5 =>
 A.cond a5
 (A.faddr 1 x3 fun a6 =>
 A.load false 1 a6 z3 fun a7 z8 =>
 A.iaddr 7 a7 x4 fun a9 =>
 A.faddr 2 a9 fun a10 =>
 A.load true 3 a10 z8 fun a11 z12 =>
 A.ret (s61 [a11.er1] z12) fun a13 z14 =>
 A.bin .gtr a13 (.int .i64 24) fun a15 =>
 g29bz1fs_9 (g29b11010 n) x1 x3 x4 a15 z14)
 (g29b111 x1 x3 z3)
theorem g29n11010 : g29C [1, 1, 0, 1, 0] = .loop (g29C [1, 1, 0, 1, 0, 0]) := by kernel_rfl
theorem g29nz38 : g29C [1, 1, 0, 1, 0, 0] = .seq (g29C [1, 1, 0, 1, 0, 0, 0]) (g29C [1, 1, 0, 1, 0, 0, 1]) := by kernel_rfl
theorem g29nz6h : g29C [1, 1, 0, 1, 0, 0, 1] = .seq (g29C [1, 1, 0, 1, 0, 0, 1, 0]) (g29C [1, 1, 0, 1, 0, 0, 1, 1]) := by kernel_rfl
theorem g29nzcy : g29C [1, 1, 0, 1, 0, 0, 1, 0] = .block 1 (g29C [1, 1, 0, 1, 0, 0, 1, 0, 0]) := by kernel_rfl
theorem g29nzpw : g29C [1, 1, 0, 1, 0, 0, 1, 0, 0] = .seq (g29C [1, 1, 0, 1, 0, 0, 1, 0, 0, 0]) (g29C [1, 1, 0, 1, 0, 0, 1, 0, 0, 1]) := by kernel_rfl
theorem g29rgz1fs : g29C [1, 1, 0, 1, 0, 0, 1, 0, 0, 0] = .region 5 (rops (g29C [1, 1, 0, 1, 0, 0, 1, 0, 0, 0])) false := by kernel_rfl
theorem g29rgz1fsl : List.range (rops (g29C [1, 1, 0, 1, 0, 0, 1, 0, 0, 0])).size = [0, 1, 2, 3, 4, 5, 6, 7, 8] ++ [9, 10, 11, 12, 13, 14, 15, 16, 17] := by kernel_rfl
theorem g29e11010 : g29X (g29C [1, 1, 0, 1, 0]) (g29k6) = fun env st => g29b11010 big (env 1) (env 3) (env 4) st := by
  have key : ∀ n, aloop (g29X (g29C [1, 1, 0, 1, 0, 0])) (g29k6) n = fun env st => g29b11010 n (env 1) (env 3) (env 4) st := by
    intro n
    induction n with
    | zero => rfl
    | succ n ih =>
      have h : aloop (g29X (g29C [1, 1, 0, 1, 0, 0])) (g29k6) (n + 1) = g29X (g29C [1, 1, 0, 1, 0, 0]) (kSeq (aloop (g29X (g29C [1, 1, 0, 1, 0, 0])) (g29k6) n) (g29k6)) := rfl
      rw [h, ih]
      refine Eq.trans (g29seq g29nz38 ((g29seq g29nz6h rfl).trans ((g29blk g29nzcy).trans ((g29seq g29nzpw rfl).trans (g29reg g29rgz1fs g29rgz1fsl (g29ez1fs_9 (g29b11010 n))))))) ?_
      funext env st
      kernel_rfl
  exact (g29loop g29n11010).trans (key big)
noncomputable def f29 (x0 : V) (st : St) : Res :=
 A.box x0 st fun a1 z2 =>
 A.faddr 1 a1 fun a3 =>
 A.load true 2 a3 z2 fun a4 z5 =>
 A.box (.agg [(.lst [] 1), (.lst [] 1)]) z5 fun a6 z7 =>
 A.store 2 a6 a4 z7 fun z8 =>
 g29b11010 big a1 a6 (.int .i64 0) z8
theorem g29nr : g29C [] = .seq (g29C [0]) (g29C [1]) := by kernel_rfl
theorem g29n1 : g29C [1] = .seq (g29C [1, 0]) (g29C [1, 1]) := by kernel_rfl
theorem g29n11 : g29C [1, 1] = .seq (g29C [1, 1, 0]) (g29C [1, 1, 1]) := by kernel_rfl
theorem g29n110 : g29C [1, 1, 0] = .seq (g29C [1, 1, 0, 0]) (g29C [1, 1, 0, 1]) := by kernel_rfl
theorem g29n1101 : g29C [1, 1, 0, 1] = .block 0 (g29C [1, 1, 0, 1, 0]) := by kernel_rfl
theorem g29er (env : Env) (st : St) : g29X (g29C []) g29kr env st = f29 (env 0) st := by
  rw [(g29seq g29nr (g29seq g29n1 ((g29seq g29n11 (g29e111)).trans (g29seq g29n110 ((g29blk g29n1101).trans (g29e11010))))))]
  kernel_rfl
theorem s29_eq (x0 : V) (st : St) : s29 [x0] st = fg (f29 x0 st) st := by
  have h : afn Try.prog g29mu g29T big (areg Try.prog g29mu g29T) 29 [x0] st = g29X (g29C []) g29kr (fun t => [x0].getD t (.tup [])) st := by kernel_rfl
  rw [s29, sealF_eq]
  show fg _ st = fg _ st
  refine congrArg (fun r => fg r st) ?_
  exact h.trans (g29er _ st)
/-! sinew/sinewref09.Parse -/
def g14mu : Nat → Bool := fun _ => false
noncomputable def g14T : Tbl := tget [(27, s27), (28, s28), (29, s29)]
theorem g14t : SimT Try.prog g14T := simT_cons sim27 ( simT_cons sim28 ( simT_cons sim29 (simT_nil)))
noncomputable def s14 : Fn := sealF (fun args st => fg (afn Try.prog g14mu g14T big (areg Try.prog g14mu g14T) 14 args st) st)
theorem sim14 : Sim Try.prog 14 s14 := (afn_sim g14t (fun m => areg_sound g14t hmix m) 14 (by kernel_rfl)).fg.sealed
noncomputable def g14C (p : List Nat) : Code := sub (match Try.f14.body with | some c => c | none => .skip) p
noncomputable def g14X (c : Code) (K : Kon) : Env → St → Res := aexec Try.prog g14mu g14T big 45 (areg Try.prog g14mu g14T 45) c K
noncomputable def g14kr : Kon := aresK Try.prog Try.f14.results.toList
theorem g14reg {c : Code} {K : Kon} {G : Env → St → Res} {id : Nat} {ops : Array Oper} {l1 l2 : List Nat} (hc : c = .region id ops false) (hl : List.range ops.size = l1 ++ l2) (h : (fun env st => aops Try.prog g14mu g14T 45 ops l2 env st (K .normal)) = G) : g14X c K = fun env st => aops Try.prog g14mu g14T 45 ops l1 env st G := reg_cut hc hl h
theorem g14seq {c x y : Code} {K : Kon} {G : Env → St → Res} (hc : c = .seq x y) (hy : g14X y K = G) : g14X c K = g14X x (kSeq G K) := seq_cut hc hy
theorem g14blk {c x : Code} {K : Kon} {i : Nat} (hc : c = .block i x) : g14X c K = g14X x (kBlk i K) := blk_cut hc
theorem g14loop {c x : Code} {K : Kon} (hc : c = .loop x) : g14X c K = aloop (g14X x) K big := loop_cut hc
theorem g14cond {c x y : Code} {K : Kon} {v : Operand} {F G : Env → St → Res} (hc : c = .cond v x y) (hx : g14X x K = F) (hy : g14X y K = G) : g14X c K = condF v F G := cond_cut hc hx hy
noncomputable def g14bz3j (x2 : V) (x9 : V) (st : St) : Res :=
 A.load true 4 x9 st fun a1 z2 =>
 A.ret (s29 [a1.er1] z2) fun a3 z4 =>
 A.eql 2 true a3 (.int .i64 0) fun a5 =>
 A.cond a5
 (A.build [(.int .i64 0), (.lst [] 1), (.lst [] 1), (.lst [] 1)] [] fun a6 =>
 A.store 4 x2 a6 z4 fun z7 =>
 A.res (rcell (A.load true 4 x2 z7 kid) (rtmp (.int .i64 0) (rtmp a3 (some [])))) z7)
 (A.load true 4 x9 z4 fun a8 z9 =>
 A.store 4 x2 a8 z9 fun z10 =>
 A.res (rcell (A.load true 4 x2 z10 kid) (rtmp (.int .i64 0) (rtmp (.int .i64 0) (some [])))) z10)
theorem g14ez3j : g14X (g14C [1, 1, 1, 1, 1, 1]) (g14kr) = fun env st => g14bz3j (env 2) (env 9) st := by
  refine Eq.trans (Eq.refl (g14X (g14C [1, 1, 1, 1, 1, 1]) (g14kr))) ?_
  funext env st
  kernel_rfl
noncomputable def g14b1111 (x2 : V) (x8 : V) (st : St) : Res :=
 A.ret (s28 [x8.er1] st) fun a1 z2 =>
 A.box (.agg [(.int .i64 0), (.lst [] 1), (.lst [] 1), (.lst [] 1)]) z2 fun a3 z4 =>
 A.store 4 a3 a1 z4 fun z5 =>
 A.nilc x8 fun a6 =>
 A.faddr 3 a6 fun a7 =>
 A.load false 1 a7 z5 fun a8 z9 =>
 A.cond a8
 (A.build [(.int .i64 0), (.lst [] 1), (.lst [] 1), (.lst [] 1)] [] fun a10 =>
 A.nilc x8 fun a11 =>
 A.faddr 4 a11 fun a12 =>
 A.load false 1 a12 z9 fun a13 _ =>
 A.ret (A.store 4 x2 a10 z9 fun s => kid (.tup []) s) fun a14 z15 =>
 A.chk (ldv false 1 a12 z15) a13
 (A.res (rcell (A.load true 4 x2 z15 kid) (rtmp a13 (rtmp (.int .i64 90) (some [])))) z15))
 (g14bz3j x2 a3 z9)
theorem g14n1111 : g14C [1, 1, 1, 1] = .seq (g14C [1, 1, 1, 1, 0]) (g14C [1, 1, 1, 1, 1]) := by kernel_rfl
theorem g14n11111 : g14C [1, 1, 1, 1, 1] = .seq (g14C [1, 1, 1, 1, 1, 0]) (g14C [1, 1, 1, 1, 1, 1]) := by kernel_rfl
theorem g14e1111 : g14X (g14C [1, 1, 1, 1]) (g14kr) = fun env st => g14b1111 (env 2) (env 8) st := by
  refine Eq.trans (g14seq g14n1111 (g14seq g14n11111 (g14ez3j))) ?_
  funext env st
  kernel_rfl
noncomputable def g14b11 (x0 : V) (x2 : V) (x5 : V) (x6 : V) (x7 : V) (st : St) : Res :=
 A.eql 2 true x7 (.int .i64 0) fun a1 =>
 A.cond a1
 (A.build [(.int .i64 0), (.lst [] 1), (.lst [] 1), (.lst [] 1)] [] fun a2 =>
 A.store 4 x2 a2 st fun z3 =>
 A.res (rcell (A.load true 4 x2 z3 kid) (rtmp x6 (rtmp x7 (some [])))) z3)
 (A.lenS x0 fun a4 =>
 A.build [(.lst [] 1), (.int .i64 0), (.int .i64 0), (.bool false), (.int .i64 0)] [(0, 1, x5), (2, 1, a4)] fun a5 =>
 A.box a5 st fun a6 z7 =>
 g14b1111 x2 a6 z7)
theorem g14n11 : g14C [1, 1] = .seq (g14C [1, 1, 0]) (g14C [1, 1, 1]) := by kernel_rfl
theorem g14n111 : g14C [1, 1, 1] = .seq (g14C [1, 1, 1, 0]) (g14C [1, 1, 1, 1]) := by kernel_rfl
theorem g14e11 : g14X (g14C [1, 1]) (g14kr) = fun env st => g14b11 (env 0) (env 2) (env 5) (env 6) (env 7) st := by
  refine Eq.trans (g14seq g14n11 (g14seq g14n111 (g14e1111))) ?_
  funext env st
  kernel_rfl
noncomputable def f14 (x0 : V) (st : St) : Res :=
 A.box (.agg [(.int .i64 0), (.lst [] 1), (.lst [] 1), (.lst [] 1)]) st fun a1 z2 =>
 A.ret (s27 [x0.er1] z2) fun a3 z4 =>
 A.ext a3 0 fun a5 =>
 A.ext a3 1 fun a6 =>
 A.ext a3 2 fun a7 =>
 g14b11 x0 a1 a5 a6 a7 z4
theorem g14nr : g14C [] = .seq (g14C [0]) (g14C [1]) := by kernel_rfl
theorem g14n1 : g14C [1] = .seq (g14C [1, 0]) (g14C [1, 1]) := by kernel_rfl
theorem g14er (env : Env) (st : St) : g14X (g14C []) g14kr env st = f14 (env 0) st := by
  rw [(g14seq g14nr (g14seq g14n1 (g14e11)))]
  kernel_rfl
theorem s14_eq (x0 : V) (st : St) : s14 [x0] st = fg (f14 x0 st) st := by
  have h : afn Try.prog g14mu g14T big (areg Try.prog g14mu g14T) 14 [x0] st = g14X (g14C []) g14kr (fun t => [x0].getD t (.tup [])) st := by kernel_rfl
  rw [s14, sealF_eq]
  show fg _ st = fg _ st
  refine congrArg (fun r => fg r st) ?_
  exact h.trans (g14er _ st)
/-! sinew/sinewref09.SamePath -/
def g30mu : Nat → Bool := fun _ => false
noncomputable def g30T (R : Fn) : Tbl := tget [(30, R)]
theorem g30t (R : Fn) (hR : Sim Try.prog 30 R) : SimT Try.prog (g30T R) := simT_cons hR (simT_nil)
noncomputable def s30n : Nat → Fn
| 0 => fun _ _ => none
| n + 1 => fun args st => fg (afn Try.prog g30mu (g30T (s30n n)) big (areg Try.prog g30mu (g30T (s30n n))) 30 args st) st
theorem sim30n : ∀ n, Sim Try.prog 30 (s30n n)
| 0 => ⟨by kernel_rfl, fun _ _ _ _ _ _ _ h => by cases h⟩
| n + 1 => (afn_sim (g30t (s30n n) (sim30n n)) (fun m => areg_sound (g30t (s30n n) (sim30n n)) hmix m) 30 (by kernel_rfl)).fg
noncomputable def s30 : Fn := sealF (s30n big)
theorem sim30 : Sim Try.prog 30 s30 := (sim30n big).sealed
theorem s30_n : s30 = s30n big := sealF_eq _
noncomputable def g30C (p : List Nat) : Code := sub (match Try.f30.body with | some c => c | none => .skip) p
noncomputable def g30X (R : Fn) (c : Code) (K : Kon) : Env → St → Res := aexec Try.prog g30mu (g30T R) big 46 (areg Try.prog g30mu (g30T R) 46) c K
noncomputable def g30kr (R : Fn) : Kon := aresK Try.prog Try.f30.results.toList
theorem g30reg (R : Fn) {c : Code} {K : Kon} {G : Env → St → Res} {id : Nat} {ops : Array Oper} {l1 l2 : List Nat} (hc : c = .region id ops false) (hl : List.range ops.size = l1 ++ l2) (h : (fun env st => aops Try.prog g30mu (g30T R) 46 ops l2 env st (K .normal)) = G) : (g30X R) c K = fun env st => aops Try.prog g30mu (g30T R) 46 ops l1 env st G := reg_cut hc hl h
theorem g30seq (R : Fn) {c x y : Code} {K : Kon} {G : Env → St → Res} (hc : c = .seq x y) (hy : (g30X R) y K = G) : (g30X R) c K = (g30X R) x (kSeq G K) := seq_cut hc hy
theorem g30blk (R : Fn) {c x : Code} {K : Kon} {i : Nat} (hc : c = .block i x) : (g30X R) c K = (g30X R) x (kBlk i K) := blk_cut hc
theorem g30loop (R : Fn) {c x : Code} {K : Kon} (hc : c = .loop x) : (g30X R) c K = aloop ((g30X R) x) K big := loop_cut hc
theorem g30cond (R : Fn) {c x y : Code} {K : Kon} {v : Operand} {F G : Env → St → Res} (hc : c = .cond v x y) (hx : (g30X R) x K = F) (hy : (g30X R) y K = G) : (g30X R) c K = condF v F G := cond_cut hc hx hy
noncomputable def g30k0 (R : Fn) : Kon := kSeq ((g30X R) (g30C [1, 1, 1]) ((g30kr R))) ((g30kr R))
noncomputable def g30k1 (R : Fn) : Kon := kBlk 0 ((g30k0 R))
noncomputable def g30b11010 (R : Fn) : Nat → V → V → V → St → Res
| 0, _, _, _, _ => none
| n + 1, x2, x3, x5, st =>
 A.faddr 2 x2 fun a1 =>
 A.load false 1 a1 st fun a2 z3 =>
 A.lenL a2 fun a4 =>
 A.bin .lss x5 a4 fun a5 =>
 A.cond a5
 (A.faddr 2 x2 fun a6 =>
 A.load false 1 a6 z3 fun a7 _ =>
 A.iaddr 3 a7 x5 fun a8 =>
 A.load true 3 a8 z3 fun a9 _ =>
 A.faddr 2 x3 fun a10 =>
 A.load false 1 a10 z3 fun a11 _ =>
 A.iaddr 3 a11 x5 fun a12 =>
 A.load true 3 a12 z3 fun a13 _ =>
 A.ret (A.ret (R [a9.er1, a13.er1] z3) kid) fun a14 z15 =>
 A.un .not a14 fun a16 =>
 A.cond a16
 (some (.ret ((.bool false) : V).er1, z15))
 (A.bin .add x5 (.int .i64 1) fun a17 =>
 ((g30b11010 R) n) x2 x3 a17 z15))
 (some (.ret ((.bool true) : V).er1, z3))
theorem g30n11010 : g30C [1, 1, 0, 1, 0] = .loop (g30C [1, 1, 0, 1, 0, 0]) := by kernel_rfl
noncomputable def g30k2 (R : Fn) (L11010 : V → V → V → St → Res) : Kon := kSeq (fun env st => L11010 (env 2) (env 3) (env 5) st) ((g30k1 R))
theorem g30e11010 (R : Fn) : (g30X R) (g30C [1, 1, 0, 1, 0]) ((g30k1 R)) = fun env st => (g30b11010 R) big (env 2) (env 3) (env 5) st := by
  have key : ∀ n, aloop ((g30X R) (g30C [1, 1, 0, 1, 0, 0])) ((g30k1 R)) n = fun env st => (g30b11010 R) n (env 2) (env 3) (env 5) st := by
    intro n
    induction n with
    | zero => rfl
    | succ n ih =>
      have h : aloop ((g30X R) (g30C [1, 1, 0, 1, 0, 0])) ((g30k1 R)) (n + 1) = (g30X R) (g30C [1, 1, 0, 1, 0, 0]) (kSeq (aloop ((g30X R) (g30C [1, 1, 0, 1, 0, 0])) ((g30k1 R)) n) ((g30k1 R))) := rfl
      rw [h, ih]
      refine Eq.trans (Eq.refl _) ?_
      funext env st
      kernel_rfl
  exact ((g30loop R) g30n11010).trans (key big)
noncomputable def g30b11 (R : Fn) (x2 : V) (x3 : V) (st : St) : Res :=
 (g30b11010 R) big x2 x3 (.int .i64 0) st
theorem g30n11 : g30C [1, 1] = .seq (g30C [1, 1, 0]) (g30C [1, 1, 1]) := by kernel_rfl
theorem g30n110 : g30C [1, 1, 0] = .seq (g30C [1, 1, 0, 0]) (g30C [1, 1, 0, 1]) := by kernel_rfl
theorem g30n1101 : g30C [1, 1, 0, 1] = .block 0 (g30C [1, 1, 0, 1, 0]) := by kernel_rfl
theorem g30e11 (R : Fn) : (g30X R) (g30C [1, 1]) ((g30kr R)) = fun env st => (g30b11 R) (env 2) (env 3) st := by
  refine Eq.trans (((g30seq R) g30n11 rfl).trans ((g30seq R) g30n110 (((g30blk R) g30n1101).trans ((g30e11010 R))))) ?_
  funext env st
  kernel_rfl
noncomputable def g30k3 (R : Fn) : Kon := kSeq (fun env st => (g30b11 R) (env 2) (env 3) st) ((g30kr R))
noncomputable def g30k4 (R : Fn) : Kon := kSeq ((g30X R) (g30C [1, 0, 1]) ((g30k3 R))) ((g30k3 R))
noncomputable def g30b100_13 (R : Fn) (x2 : V) (x3 : V) (x18 : V) (st : St) : Res :=
 A.guard x18 false
 (A.faddr 2 x2 fun a1 =>
 A.load false 1 a1 st fun a2 z3 =>
 A.lenL a2 fun a4 =>
 A.faddr 2 x3 fun a5 =>
 A.load false 1 a5 z3 fun a6 z7 =>
 A.lenL a6 fun a8 =>
 A.eql 2 true a4 a8 fun a9 =>
 A.cond a9
 (some (.ret ((.bool false) : V).er1, z7))
 ((g30b11 R) x2 x3 z7))
 (some (.ret ((.bool false) : V).er1, st))
theorem g30e100_13 (R : Fn) : (fun env st => aops Try.prog g30mu (g30T R) 46 (rops (g30C [1, 0, 0])) [13, 14, 15, 16, 17, 18, 19, 20] env st (((g30k4 R)) .normal)) = fun env st => (g30b100_13 R) (env 2) (env 3) (env 18) st := by
  refine Eq.trans (Eq.refl _) ?_
  funext env st
  kernel_rfl
noncomputable def g30b100_6 (R : Fn) (x2 : V) (x3 : V) (x11 : V) (st : St) : Res :=
 A.guard x11 false
 (A.faddr 1 x2 fun a1 =>
 A.load false 1 a1 st fun a2 z3 =>
 A.faddr 1 x3 fun a4 =>
 A.load false 1 a4 z3 fun a5 z6 =>
 A.eql 3 true a2 a5 fun a7 =>
 (g30b100_13 R) x2 x3 a7 z6)
 ((g30b100_13 R) x2 x3 (.bool true) st)
theorem g30e100_6 (R : Fn) : (fun env st => aops Try.prog g30mu (g30T R) 46 (rops (g30C [1, 0, 0])) [6, 7, 8, 9, 10, 11, 12, 13, 14, 15, 16, 17, 18, 19, 20] env st (((g30k4 R)) .normal)) = fun env st => (g30b100_6 R) (env 2) (env 3) (env 11) st := by
  refine Eq.trans (ops_cut (l1 := [6, 7, 8, 9, 10, 11, 12]) (l2 := [13, 14, 15, 16, 17, 18, 19, 20]) ((g30e100_13 R))) ?_
  funext env st
  kernel_rfl
noncomputable def f30 (R : Fn) (x0 : V) (x1 : V) (st : St) : Res :=
 A.box x0 st fun a1 z2 =>
 A.box x1 z2 fun a3 z4 =>
 A.faddr 0 a1 fun a5 =>
 A.load false 1 a5 z4 fun a6 z7 =>
 A.faddr 0 a3 fun a8 =>
 A.load false 1 a8 z7 fun a9 z10 =>
 A.eql 2 true a6 a9 fun a11 =>
 (g30b100_6 R) a1 a3 a11 z10
theorem g30nr : g30C [] = .seq (g30C [0]) (g30C [1]) := by kernel_rfl
theorem g30n1 : g30C [1] = .seq (g30C [1, 0]) (g30C [1, 1]) := by kernel_rfl
theorem g30n10 : g30C [1, 0] = .seq (g30C [1, 0, 0]) (g30C [1, 0, 1]) := by kernel_rfl
theorem g30rg100 : g30C [1, 0, 0] = .region 1 (rops (g30C [1, 0, 0])) false := by kernel_rfl
theorem g30rg100l : List.range (rops (g30C [1, 0, 0])).size = [0, 1, 2, 3, 4, 5] ++ [6, 7, 8, 9, 10, 11, 12, 13, 14, 15, 16, 17, 18, 19, 20] := by kernel_rfl
theorem g30er (R : Fn) (env : Env) (st : St) : (g30X R) (g30C []) (g30kr R) env st = (f30 R) (env 0) (env 1) st := by
  rw [((g30seq R) g30nr (((g30seq R) g30n1 ((g30e11 R))).trans (((g30seq R) g30n10 rfl).trans ((g30reg R) g30rg100 g30rg100l ((g30e100_6 R))))))]
  kernel_rfl
theorem s30n_eq (n : Nat) (x0 : V) (x1 : V) (st : St) : s30n (n + 1) [x0, x1] st = fg ((f30 (s30n n)) x0 x1 st) st := by
  have h : afn Try.prog g30mu (g30T (s30n n)) big (areg Try.prog g30mu (g30T (s30n n))) 30 [x0, x1] st = (g30X (s30n n)) (g30C []) (g30kr (s30n n)) (fun t => [x0, x1].getD t (.tup [])) st := by kernel_rfl
  show fg (afn Try.prog g30mu (g30T (s30n n)) big (areg Try.prog g30mu (g30T (s30n n))) 30 _ st) st = fg _ st
  refine congrArg (fun r => fg r st) ?_
  exact h.trans ((g30er (s30n n)) _ st)
/-! sinew/sinewref09.Same -/
def g15mu : Nat → Bool := fun _ => false
noncomputable def g15T : Tbl := tget [(30, s30)]
theorem g15t : SimT Try.prog g15T := simT_cons sim30 (simT_nil)
noncomputable def s15 : Fn := sealF (fun args st => fg (afn Try.prog g15mu g15T big (areg2 Try.prog g15mu g15T) 15 args st) st)
theorem sim15 : Sim Try.prog 15 s15 := (afn_sim g15t (fun m => areg2_sound g15t hmix m) 15 (by kernel_rfl)).fg.sealed
noncomputable def g15C (p : List Nat) : Code := sub (match Try.f15.body with | some c => c | none => .skip) p
noncomputable def g15X (c : Code) (K : Kon) : Env → St → Res := aexec Try.prog g15mu g15T big 125 (areg2 Try.prog g15mu g15T 125) c K
noncomputable def g15kr : Kon := aresK Try.prog Try.f15.results.toList
theorem g15reg {c : Code} {K : Kon} {G : Env → St → Res} {id : Nat} {ops : Array Oper} {l1 l2 : List Nat} (hc : c = .region id ops false) (hl : List.range ops.size = l1 ++ l2) (h : (fun env st => aops Try.prog g15mu g15T 125 ops l2 env st (K .normal)) = G) : g15X c K = fun env st => aops Try.prog g15mu g15T 125 ops l1 env st G := reg_cut hc hl h
theorem g15seq {c x y : Code} {K : Kon} {G : Env → St → Res} (hc : c = .seq x y) (hy : g15X y K = G) : g15X c K = g15X x (kSeq G K) := seq_cut hc hy
theorem g15blk {c x : Code} {K : Kon} {i : Nat} (hc : c = .block i x) : g15X c K = g15X x (kBlk i K) := blk_cut hc
theorem g15loop {c x : Code} {K : Kon} (hc : c = .loop x) : g15X c K = aloop (g15X x) K big := loop_cut hc
theorem g15cond {c x y : Code} {K : Kon} {v : Operand} {F G : Env → St → Res} (hc : c = .cond v x y) (hx : g15X x K = F) (hy : g15X y K = G) : g15X c K = condF v F G := cond_cut hc hx hy
noncomputable def g15k0 : Kon := kSeq (g15X (g15C [1, 1, 1, 1, 1]) (g15kr)) (g15kr)
noncomputable def g15k1 : Kon := kBlk 4 (g15k0)
noncomputable def g15bz6y : Nat → V → V → V → St → Res
| 0, _, _, _, _ => none
| n + 1, x2, x3, x9, st =>
 A.faddr 3 x2 fun a1 =>
 A.load false 1 a1 st fun a2 z3 =>
 A.lenL a2 fun a4 =>
 A.bin .lss x9 a4 fun a5 =>
 A.cond a5
 (A.faddr 3 x2 fun a6 =>
 A.load false 1 a6 z3 fun a7 _ =>
 A.iaddr 4 a7 x9 fun a8 =>
 A.load true 4 a8 z3 fun a9 _ =>
 A.faddr 3 x3 fun a10 =>
 A.load false 1 a10 z3 fun a11 _ =>
 A.iaddr 4 a11 x9 fun a12 =>
 A.load true 4 a12 z3 fun a13 _ =>
 A.eqS Try.prog 46 true a9 a13 fun a14 =>
 A.cond a14
 (some (.ret ((.bool false) : V).er1, z3))
 (A.bin .add x9 (.int .i64 1) fun a15 =>
 (g15bz6y n) x2 x3 a15 z3))
 (some (.ret ((.bool true) : V).er1, z3))
theorem g15nz6y : g15C [1, 1, 1, 1, 0, 1, 0] = .loop (g15C [1, 1, 1, 1, 0, 1, 0, 0]) := by kernel_rfl
noncomputable def g15k2 (Lz6y : V → V → V → St → Res) : Kon := kSeq (fun env st => Lz6y (env 2) (env 3) (env 9) st) (g15k1)
theorem g15ez6y : g15X (g15C [1, 1, 1, 1, 0, 1, 0]) (g15k1) = fun env st => g15bz6y big (env 2) (env 3) (env 9) st := by
  have key : ∀ n, aloop (g15X (g15C [1, 1, 1, 1, 0, 1, 0, 0])) (g15k1) n = fun env st => g15bz6y n (env 2) (env 3) (env 9) st := by
    intro n
    induction n with
    | zero => rfl
    | succ n ih =>
      have h : aloop (g15X (g15C [1, 1, 1, 1, 0, 1, 0, 0])) (g15k1) (n + 1) = g15X (g15C [1, 1, 1, 1, 0, 1, 0, 0]) (kSeq (aloop (g15X (g15C [1, 1, 1, 1, 0, 1, 0, 0])) (g15k1) n) (g15k1)) := rfl
      rw [h, ih]
      refine Eq.trans (Eq.refl _) ?_
      funext env st
      kernel_rfl
  exact (g15loop g15nz6y).trans (key big)
noncomputable def g15b1111 (x2 : V) (x3 : V) (st : St) : Res :=
 g15bz6y big x2 x3 (.int .i64 0) st
theorem g15n1111 : g15C [1, 1, 1, 1] = .seq (g15C [1, 1, 1, 1, 0]) (g15C [1, 1, 1, 1, 1]) := by kernel_rfl
theorem g15n11110 : g15C [1, 1, 1, 1, 0] = .seq (g15C [1, 1, 1, 1, 0, 0]) (g15C [1, 1, 1, 1, 0, 1]) := by kernel_rfl
theorem g15nz3h : g15C [1, 1, 1, 1, 0, 1] = .block 4 (g15C [1, 1, 1, 1, 0, 1, 0]) := by kernel_rfl
theorem g15e1111 : g15X (g15C [1, 1, 1, 1]) (g15kr) = fun env st => g15b1111 (env 2) (env 3) st := by
  refine Eq.trans ((g15seq g15n1111 rfl).trans (g15seq g15n11110 ((g15blk g15nz3h).trans (g15ez6y)))) ?_
  funext env st
  kernel_rfl
noncomputable def g15k3 : Kon := kSeq (fun env st => g15b1111 (env 2) (env 3) st) (g15kr)
noncomputable def g15k4 : Kon := kBlk 2 (g15k3)
noncomputable def g15k5 (Lz3e : V → V → V → St → Res) : Kon := kSeq (fun env st => Lz3e (env 2) (env 3) (env 6) st) (g15k4)
noncomputable def g15k6 (Lz3e : V → V → V → St → Res) : Kon := kSeq (g15X (g15C [1, 1, 1, 0, 1, 0, 0, 1, 1]) (g15k5 Lz3e)) (g15k5 Lz3e)
noncomputable def g15k7 (Lz3e : V → V → V → St → Res) : Kon := kBlk 3 (g15k6 Lz3e)
noncomputable def g15k8 (Lz3e : V → V → V → St → Res) : Kon := kSeq (g15X (g15C [1, 1, 1, 0, 1, 0, 0, 1, 0, 0, 1, 1]) (g15k7 Lz3e)) (g15k7 Lz3e)
noncomputable def g15bz61e_13 (Lz3e : V → V → V → St → Res) (x2 : V) (x3 : V) (x6 : V) (x7 : V) (x8 : V) (x99 : V) (st : St) : Res :=
 A.guard x99 false
 (A.faddr 2 x7 fun a1 =>
 A.load true 3 a1 st fun a2 z3 =>
 A.faddr 2 x8 fun a4 =>
 A.load true 3 a4 z3 fun a5 z6 =>
 A.ret (s30 [a2.er1, a5.er1] z6) fun a7 z8 =>
 A.un .not a7 fun a9 =>
 A.cond a9
 (some (.ret ((.bool false) : V).er1, z8))
 (A.bin .add x6 (.int .i64 1) fun a10 =>
 Lz3e x2 x3 a10 z8))
 (some (.ret ((.bool false) : V).er1, st))
theorem g15ez61e_13 (Lz3e : V → V → V → St → Res) : (fun env st => aops Try.prog g15mu g15T 125 (rops (g15C [1, 1, 1, 0, 1, 0, 0, 1, 0, 0, 1, 0])) [13, 14, 15, 16, 17, 18, 19] env st ((g15k8 Lz3e) .normal)) = fun env st => g15bz61e_13 Lz3e (env 2) (env 3) (env 6) (env 7) (env 8) (env 99) st := by
  refine Eq.trans (Eq.refl _) ?_
  funext env st
  kernel_rfl
noncomputable def g15bz61e_6 (Lz3e : V → V → V → St → Res) (x2 : V) (x3 : V) (x6 : V) (x7 : V) (x8 : V) (x92 : V) (st : St) : Res :=
 A.guard x92 false
 (A.faddr 5 x7 fun a1 =>
 A.load true 2 a1 st fun a2 z3 =>
 A.faddr 5 x8 fun a4 =>
 A.load true 2 a4 z3 fun a5 z6 =>
 A.eqS Try.prog 63 true a2 a5 fun a7 =>
 g15bz61e_13 Lz3e x2 x3 x6 x7 x8 a7 z6)
 (g15bz61e_13 Lz3e x2 x3 x6 x7 x8 (.bool true) st)
theorem g15ez61e_6 (Lz3e : V → V → V → St → Res) : (fun env st => aops Try.prog g15mu g15T 125 (rops (g15C [1, 1, 1, 0, 1, 0, 0, 1, 0, 0, 1, 0])) [6, 7, 8, 9, 10, 11, 12, 13, 14, 15, 16, 17, 18, 19] env st ((g15k8 Lz3e) .normal)) = fun env st => g15bz61e_6 Lz3e (env 2) (env 3) (env 6) (env 7) (env 8) (env 92) st := by
  refine Eq.trans (ops_cut (l1 := [6, 7, 8, 9, 10, 11, 12]) (l2 := [13, 14, 15, 16, 17, 18, 19]) (g15ez61e_13 Lz3e)) ?_
  funext env st
  kernel_rfl
noncomputable def g15bz30p (Lz3e : V → V → V → St → Res) (x2 : V) (x3 : V) (x6 : V) (x7 : V) (x8 : V) (st : St) : Res :=
 A.faddr 0 x7 fun a1 =>
 A.load true 2 a1 st fun a2 z3 =>
 A.faddr 0 x8 fun a4 =>
 A.load true 2 a4 z3 fun a5 z6 =>
 A.eqS Try.prog 63 true a2 a5 fun a7 =>
 g15bz61e_6 Lz3e x2 x3 x6 x7 x8 a7 z6
theorem g15nz30p : g15C [1, 1, 1, 0, 1, 0, 0, 1, 0, 0, 1] = .seq (g15C [1, 1, 1, 0, 1, 0, 0, 1, 0, 0, 1, 0]) (g15C [1, 1, 1, 0, 1, 0, 0, 1, 0, 0, 1, 1]) := by kernel_rfl
theorem g15rgz61e : g15C [1, 1, 1, 0, 1, 0, 0, 1, 0, 0, 1, 0] = .region 12 (rops (g15C [1, 1, 1, 0, 1, 0, 0, 1, 0, 0, 1, 0])) false := by kernel_rfl
theorem g15rgz61el : List.range (rops (g15C [1, 1, 1, 0, 1, 0, 0, 1, 0, 0, 1, 0])).size = [0, 1, 2, 3, 4, 5] ++ [6, 7, 8, 9, 10, 11, 12, 13, 14, 15, 16, 17, 18, 19] := by kernel_rfl
theorem g15ez30p (Lz3e : V → V → V → St → Res) : g15X (g15C [1, 1, 1, 0, 1, 0, 0, 1, 0, 0, 1]) (g15k7 Lz3e) = fun env st => g15bz30p Lz3e (env 2) (env 3) (env 6) (env 7) (env 8) st := by
  refine Eq.trans ((g15seq g15nz30p rfl).trans (g15reg g15rgz61e g15rgz61el (g15ez61e_6 Lz3e))) ?_
  funext env st
  kernel_rfl
noncomputable def g15bz3e : Nat → V → V → V → St → Res
| 0, _, _, _, _ => none
| n + 1, x2, x3, x6, st =>
 A.faddr 1 x2 fun a1 =>
 A.faddr 1 a1 fun a2 =>
 A.load false 1 a2 st fun a3 z4 =>
 A.lenL a3 fun a5 =>
 A.bin .lss x6 a5 fun a6 =>
 A.cond a6
 (A.faddr 1 x2 fun a7 =>
 A.faddr 1 a7 fun a8 =>
 A.load false 1 a8 z4 fun a9 _ =>
 A.iaddr 7 a9 x6 fun a10 =>
 A.load true 7 a10 z4 fun a11 _ =>
 A.faddr 1 x3 fun a12 =>
 A.faddr 1 a12 fun a13 =>
 A.load false 1 a13 z4 fun a14 _ =>
 A.iaddr 7 a14 x6 fun a15 =>
 A.load true 7 a15 z4 fun a16 _ =>
 A.ret (A.box (.agg [(.bool false), (.str []), (.int .i64 0), (.str []), (.lst [] 1), (.bool false), (.str [])]) z4 kid) fun a17 z18 =>
 A.chk (ldv true 7 a15 z18) a16
 (A.chk (ldv false 1 a13 z18) a14
 (A.chk (ldv true 7 a10 z18) a11
 (A.chk (ldv false 1 a8 z18) a9
 (A.ret (A.box (.agg [(.bool false), (.str []), (.int .i64 0), (.str []), (.lst [] 1), (.bool false), (.str [])]) z18 kid) fun a19 z20 =>
 A.chk (ldv true 7 a15 z20) a16
 (A.chk (ldv false 1 a13 z20) a14
 (A.chk (ldv true 7 a10 z20) a11
 (A.chk (ldv false 1 a8 z20) a9
 (A.ret (A.store 7 a17 a11 z20 fun s => kid (.tup []) s) fun a21 z22 =>
 A.chk (ldv true 7 a15 z22) a16
 (A.chk (ldv false 1 a13 z22) a14
 (A.ret (A.store 7 a19 a16 z22 fun s => kid (.tup []) s) fun a23 z24 =>
 g15bz30p (g15bz3e n) x2 x3 x6 a17 a19 z24)))))))))))
 (g15b1111 x2 x3 z4)
theorem g15nz3e : g15C [1, 1, 1, 0, 1, 0] = .loop (g15C [1, 1, 1, 0, 1, 0, 0]) := by kernel_rfl
theorem g15nz6s : g15C [1, 1, 1, 0, 1, 0, 0] = .seq (g15C [1, 1, 1, 0, 1, 0, 0, 0]) (g15C [1, 1, 1, 0, 1, 0, 0, 1]) := by kernel_rfl
theorem g15nzdl : g15C [1, 1, 1, 0, 1, 0, 0, 1] = .seq (g15C [1, 1, 1, 0, 1, 0, 0, 1, 0]) (g15C [1, 1, 1, 0, 1, 0, 0, 1, 1]) := by kernel_rfl
theorem g15nzr6 : g15C [1, 1, 1, 0, 1, 0, 0, 1, 0] = .block 3 (g15C [1, 1, 1, 0, 1, 0, 0, 1, 0, 0]) := by kernel_rfl
theorem g15nz1ic : g15C [1, 1, 1, 0, 1, 0, 0, 1, 0, 0] = .seq (g15C [1, 1, 1, 0, 1, 0, 0, 1, 0, 0, 0]) (g15C [1, 1, 1, 0, 1, 0, 0, 1, 0, 0, 1]) := by kernel_rfl
theorem g15ez3e : g15X (g15C [1, 1, 1, 0, 1, 0]) (g15k4) = fun env st => g15bz3e big (env 2) (env 3) (env 6) st := by
  have key : ∀ n, aloop (g15X (g15C [1, 1, 1, 0, 1, 0, 0])) (g15k4) n = fun env st => g15bz3e n (env 2) (env 3) (env 6) st := by
    intro n
    induction n with
    | zero => rfl
    | succ n ih =>
      have h : aloop (g15X (g15C [1, 1, 1, 0, 1, 0, 0])) (g15k4) (n + 1) = g15X (g15C [1, 1, 1, 0, 1, 0, 0]) (kSeq (aloop (g15X (g15C [1, 1, 1, 0, 1, 0, 0])) (g15k4) n) (g15k4)) := rfl
      rw [h, ih]
      refine Eq.trans (g15seq g15nz6s ((g15seq g15nzdl rfl).trans ((g15blk g15nzr6).trans (g15seq g15nz1ic (g15ez30p (g15bz3e n)))))) ?_
      funext env st
      kernel_rfl
  exact (g15loop g15nz3e).trans (key big)
noncomputable def g15b111 (x2 : V) (x3 : V) (st : St) : Res :=
 g15bz3e big x2 x3 (.int .i64 0) st
theorem g15n111 : g15C [1, 1, 1] = .seq (g15C [1, 1, 1, 0]) (g15C [1, 1, 1, 1]) := by kernel_rfl
theorem g15n1110 : g15C [1, 1, 1, 0] = .seq (g15C [1, 1, 1, 0, 0]) (g15C [1, 1, 1, 0, 1]) := by kernel_rfl
theorem g15n11101 : g15C [1, 1, 1, 0, 1] = .block 2 (g15C [1, 1, 1, 0, 1, 0]) := by kernel_rfl
theorem g15e111 : g15X (g15C [1, 1, 1]) (g15kr) = fun env st => g15b111 (env 2) (env 3) st := by
  refine Eq.trans ((g15seq g15n111 (g15e1111)).trans (g15seq g15n1110 ((g15blk g15n11101).trans (g15ez3e)))) ?_
  funext env st
  kernel_rfl
noncomputable def g15k9 : Kon := kSeq (fun env st => g15b111 (env 2) (env 3) st) (g15kr)
noncomputable def g15k10 : Kon := kBlk 0 (g15k9)
noncomputable def g15b11010 : Nat → V → V → V → St → Res
| 0, _, _, _, _ => none
| n + 1, x2, x3, x5, st =>
 A.faddr 1 x2 fun a1 =>
 A.faddr 0 a1 fun a2 =>
 A.load false 1 a2 st fun a3 z4 =>
 A.lenL a3 fun a5 =>
 A.bin .lss x5 a5 fun a6 =>
 A.cond a6
 (A.faddr 1 x2 fun a7 =>
 A.faddr 0 a7 fun a8 =>
 A.load false 1 a8 z4 fun a9 _ =>
 A.iaddr 1 a9 x5 fun a10 =>
 A.load false 1 a10 z4 fun a11 _ =>
 A.faddr 1 x3 fun a12 =>
 A.faddr 0 a12 fun a13 =>
 A.load false 1 a13 z4 fun a14 _ =>
 A.iaddr 1 a14 x5 fun a15 =>
 A.load false 1 a15 z4 fun a16 _ =>
 A.eql 3 true a11 a16 fun a17 =>
 A.cond a17
 (some (.ret ((.bool false) : V).er1, z4))
 (A.bin .add x5 (.int .i64 1) fun a18 =>
 (g15b11010 n) x2 x3 a18 z4))
 (g15b111 x2 x3 z4)
theorem g15n11010 : g15C [1, 1, 0, 1, 0] = .loop (g15C [1, 1, 0, 1, 0, 0]) := by kernel_rfl
noncomputable def g15k11 (L11010 : V → V → V → St → Res) : Kon := kSeq (fun env st => L11010 (env 2) (env 3) (env 5) st) (g15k10)
theorem g15e11010 : g15X (g15C [1, 1, 0, 1, 0]) (g15k10) = fun env st => g15b11010 big (env 2) (env 3) (env 5) st := by
  have key : ∀ n, aloop (g15X (g15C [1, 1, 0, 1, 0, 0])) (g15k10) n = fun env st => g15b11010 n (env 2) (env 3) (env 5) st := by
    intro n
    induction n with
    | zero => rfl
    | succ n ih =>
      have h : aloop (g15X (g15C [1, 1, 0, 1, 0, 0])) (g15k10) (n + 1) = g15X (g15C [1, 1, 0, 1, 0, 0]) (kSeq (aloop (g15X (g15C [1, 1, 0, 1, 0, 0])) (g15k10) n) (g15k10)) := rfl
      rw [h, ih]
      refine Eq.trans (Eq.refl _) ?_
      funext env st
      kernel_rfl
  exact (g15loop g15n11010).trans (key big)
noncomputable def g15b11 (x2 : V) (x3 : V) (st : St) : Res :=
 g15b11010 big x2 x3 (.int .i64 0) st
theorem g15n11 : g15C [1, 1] = .seq (g15C [1, 1, 0]) (g15C [1, 1, 1]) := by kernel_rfl
theorem g15n110 : g15C [1, 1, 0] = .seq (g15C [1, 1, 0, 0]) (g15C [1, 1, 0, 1]) := by kernel_rfl
theorem g15n1101 : g15C [1, 1, 0, 1] = .block 0 (g15C [1, 1, 0, 1, 0]) := by kernel_rfl
theorem g15e11 : g15X (g15C [1, 1]) (g15kr) = fun env st => g15b11 (env 2) (env 3) st := by
  refine Eq.trans ((g15seq g15n11 (g15e111)).trans (g15seq g15n110 ((g15blk g15n1101).trans (g15e11010)))) ?_
  funext env st
  kernel_rfl
noncomputable def g15k12 : Kon := kSeq (fun env st => g15b11 (env 2) (env 3) st) (g15kr)
noncomputable def g15k13 : Kon := kSeq (g15X (g15C [1, 0, 1]) (g15k12)) (g15k12)
noncomputable def g15b100_28 (x2 : V) (x3 : V) (x37 : V) (st : St) : Res :=
 A.guard x37 false
 (A.faddr 3 x2 fun a1 =>
 A.load false 1 a1 st fun a2 z3 =>
 A.lenL a2 fun a4 =>
 A.faddr 3 x3 fun a5 =>
 A.load false 1 a5 z3 fun a6 z7 =>
 A.lenL a6 fun a8 =>
 A.eql 2 true a4 a8 fun a9 =>
 A.cond a9
 (some (.ret ((.bool false) : V).er1, z7))
 (g15b11 x2 x3 z7))
 (some (.ret ((.bool false) : V).er1, st))
theorem g15e100_28 : (fun env st => aops Try.prog g15mu g15T 125 (rops (g15C [1, 0, 0])) [28, 29, 30, 31, 32, 33, 34, 35] env st ((g15k13) .normal)) = fun env st => g15b100_28 (env 2) (env 3) (env 37) st := by
  refine Eq.trans (Eq.refl _) ?_
  funext env st
  kernel_rfl
noncomputable def g15b100_17 (x2 : V) (x3 : V) (x26 : V) (st : St) : Res :=
 A.guard x26 false
 (A.faddr 1 x2 fun a1 =>
 A.faddr 1 a1 fun a2 =>
 A.load false 1 a2 st fun a3 z4 =>
 A.lenL a3 fun a5 =>
 A.faddr 1 x3 fun a6 =>
 A.faddr 1 a6 fun a7 =>
 A.load false 1 a7 z4 fun a8 z9 =>
 A.lenL a8 fun a10 =>
 A.eql 2 true a5 a10 fun a11 =>
 g15b100_28 x2 x3 a11 z9)
 (g15b100_28 x2 x3 (.bool true) st)
theorem g15e100_17 : (fun env st => aops Try.prog g15mu g15T 125 (rops (g15C [1, 0, 0])) [17, 18, 19, 20, 21, 22, 23, 24, 25, 26, 27, 28, 29, 30, 31, 32, 33, 34, 35] env st ((g15k13) .normal)) = fun env st => g15b100_17 (env 2) (env 3) (env 26) st := by
  refine Eq.trans (ops_cut (l1 := [17, 18, 19, 20, 21, 22, 23, 24, 25, 26, 27]) (l2 := [28, 29, 30, 31, 32, 33, 34, 35]) (g15e100_28)) ?_
  funext env st
  kernel_rfl
noncomputable def g15b100_6 (x2 : V) (x3 : V) (x15 : V) (st : St) : Res :=
 A.guard x15 false
 (A.faddr 1 x2 fun a1 =>
 A.faddr 0 a1 fun a2 =>
 A.load false 1 a2 st fun a3 z4 =>
 A.lenL a3 fun a5 =>
 A.faddr 1 x3 fun a6 =>
 A.faddr 0 a6 fun a7 =>
 A.load false 1 a7 z4 fun a8 z9 =>
 A.lenL a8 fun a10 =>
 A.eql 2 true a5 a10 fun a11 =>
 g15b100_17 x2 x3 a11 z9)
 (g15b100_17 x2 x3 (.bool true) st)
theorem g15e100_6 : (fun env st => aops Try.prog g15mu g15T 125 (rops (g15C [1, 0, 0])) [6, 7, 8, 9, 10, 11, 12, 13, 14, 15, 16, 17, 18, 19, 20, 21, 22, 23, 24, 25, 26, 27, 28, 29, 30, 31, 32, 33, 34, 35] env st ((g15k13) .normal)) = fun env st => g15b100_6 (env 2) (env 3) (env 15) st := by
  refine Eq.trans (ops_cut (l1 := [6, 7, 8, 9, 10, 11, 12, 13, 14, 15, 16]) (l2 := [17, 18, 19, 20, 21, 22, 23, 24, 25, 26, 27, 28, 29, 30, 31, 32, 33, 34, 35]) (g15e100_17)) ?_
  funext env st
  kernel_rfl
noncomputable def f15 (x0 : V) (x1 : V) (st : St) : Res :=
 A.box x0 st fun a1 z2 =>
 A.box x1 z2 fun a3 z4 =>
 A.faddr 0 a1 fun a5 =>
 A.load false 1 a5 z4 fun a6 z7 =>
 A.faddr 0 a3 fun a8 =>
 A.load false 1 a8 z7 fun a9 z10 =>
 A.eql 2 true a6 a9 fun a11 =>
 g15b100_6 a1 a3 a11 z10
theorem g15nr : g15C [] = .seq (g15C [0]) (g15C [1]) := by kernel_rfl
theorem g15n1 : g15C [1] = .seq (g15C [1, 0]) (g15C [1, 1]) := by kernel_rfl
theorem g15n10 : g15C [1, 0] = .seq (g15C [1, 0, 0]) (g15C [1, 0, 1]) := by kernel_rfl
theorem g15rg100 : g15C [1, 0, 0] = .region 1 (rops (g15C [1, 0, 0])) false := by kernel_rfl
theorem g15rg100l : List.range (rops (g15C [1, 0, 0])).size = [0, 1, 2, 3, 4, 5] ++ [6, 7, 8, 9, 10, 11, 12, 13, 14, 15, 16, 17, 18, 19, 20, 21, 22, 23, 24, 25, 26, 27, 28, 29, 30, 31, 32, 33, 34, 35] := by kernel_rfl
theorem g15er (env : Env) (st : St) : g15X (g15C []) g15kr env st = f15 (env 0) (env 1) st := by
  rw [(g15seq g15nr ((g15seq g15n1 (g15e11)).trans ((g15seq g15n10 rfl).trans (g15reg g15rg100 g15rg100l (g15e100_6)))))]
  kernel_rfl
theorem s15_eq (x0 : V) (x1 : V) (st : St) : s15 [x0, x1] st = fg (f15 x0 x1 st) st := by
  have h : afn Try.prog g15mu g15T big (areg2 Try.prog g15mu g15T) 15 [x0, x1] st = g15X (g15C []) g15kr (fun t => [x0, x1].getD t (.tup [])) st := by kernel_rfl
  rw [s15, sealF_eq]
  show fg _ st = fg _ st
  refine congrArg (fun r => fg r st) ?_
  exact h.trans (g15er _ st)
end Go.Ab
