import Derived.Test.YtimidokohhiacaaAbQuiet
import Derived.Test.YtimidokohhiacaaAbA09n
namespace Go.Ab
open Go.Proofs
set_option linter.unusedVariables false
set_option maxRecDepth 100000
/-! sinew/words.Is -/
def g39mu : Nat → Bool := fun _ => false
noncomputable def g39T : Tbl := tget [(73, s73)]
theorem g39t : SimT Try.prog g39T := simT_cons sim73 (simT_nil)
noncomputable def s39 : Fn := sealF (fun args st => fg (afn Try.prog g39mu g39T big (areg Try.prog g39mu g39T) 39 args st) st)
theorem sim39 : Sim Try.prog 39 s39 := (afn_sim g39t (fun m => areg_sound g39t hmix m) 39 (by kernel_rfl)).fg.sealed
noncomputable def f39 (x0 : V) (st : St) : Res :=
 A.eql 3 true x0 (.str []) fun a1 =>
 A.guard a1 true
 (A.lenS x0 fun a2 =>
 A.bin .leq a2 (.int .i64 16) fun a3 =>
 A.guard a3 true
 (A.ret (s73 [x0.er1, ((.fn 72 [] []) : V).er1] st) fun a4 z5 =>
 A.un .not a4 fun a6 =>
 some (.ret a6.er1, z5))
 (some (.ret ((.bool false) : V).er1, st)))
 (some (.ret ((.bool false) : V).er1, st))
theorem s39_eq (x0 : V) (st : St) : s39 [x0] st = fg (f39 x0 st) st := by
  rw [s39, sealF_eq]
  show fg _ st = fg _ st
  refine congrArg (fun r => fg r st) ?_
  kernel_rfl
/-! sinew/query.Check$1 -/
def g38mu : Nat → Bool := fun _ => false
noncomputable def g38T : Tbl := tget [(39, s39)]
theorem g38t : SimT Try.prog g38T := simT_cons sim39 (simT_nil)
noncomputable def s38 : Fn := sealF (afn Try.prog g38mu g38T big (areg Try.prog g38mu g38T) 38)
theorem sim38 : Sim Try.prog 38 s38 := (afn_sim g38t (fun m => areg_sound g38t hmix m) 38 (by kernel_rfl)).sealed
noncomputable def g38C (p : List Nat) : Code := sub (match Try.f38.body with | some c => c | none => .skip) p
noncomputable def g38X (c : Code) (K : Kon) : Env → St → Res := aexec Try.prog g38mu g38T big 22 (areg Try.prog g38mu g38T 22) c K
noncomputable def g38kr : Kon := aresK Try.prog Try.f38.results.toList
theorem g38reg {c : Code} {K : Kon} {G : Env → St → Res} {id : Nat} {ops : Array Oper} {l1 l2 : List Nat} (hc : c = .region id ops false) (hl : List.range ops.size = l1 ++ l2) (h : (fun env st => aops Try.prog g38mu g38T 22 ops l2 env st (K .normal)) = G) : g38X c K = fun env st => aops Try.prog g38mu g38T 22 ops l1 env st G := reg_cut hc hl h
theorem g38seq {c x y : Code} {K : Kon} {G : Env → St → Res} (hc : c = .seq x y) (hy : g38X y K = G) : g38X c K = g38X x (kSeq G K) := seq_cut hc hy
theorem g38blk {c x : Code} {K : Kon} {i : Nat} (hc : c = .block i x) : g38X c K = g38X x (kBlk i K) := blk_cut hc
theorem g38loop {c x : Code} {K : Kon} (hc : c = .loop x) : g38X c K = aloop (g38X x) K big := loop_cut hc
theorem g38cond {c x y : Code} {K : Kon} {v : Operand} {F G : Env → St → Res} (hc : c = .cond v x y) (hx : g38X x K = F) (hy : g38X y K = G) : g38X c K = condF v F G := cond_cut hc hx hy
noncomputable def g38k0 : Kon := kSeq (g38X (g38C [1, 1]) (g38kr)) (g38kr)
noncomputable def g38b10_13 (x1 : V) (x15 : V) (st : St) : Res :=
 A.guard x15 false
 (A.faddr 1 x1 fun a1 =>
 A.faddr 2 a1 fun a2 =>
 A.load false 1 a2 st fun a3 z4 =>
 A.ret (s39 [a3.er1] z4) fun a5 z6 =>
 A.un .not a5 fun a7 =>
 some (.ret a7.er1, z6))
 (some (.ret ((.bool true) : V).er1, st))
theorem g38e10_13 : (fun env st => aops Try.prog g38mu g38T 22 (rops (g38C [1, 0])) [13, 14, 15, 16, 17, 18, 19] env st ((g38k0) .normal)) = fun env st => g38b10_13 (env 1) (env 15) st := by
  refine Eq.trans (Eq.refl _) ?_
  funext env st
  kernel_rfl
noncomputable def g38b10_6 (x1 : V) (x8 : V) (st : St) : Res :=
 A.guard x8 false
 (A.faddr 1 x1 fun a1 =>
 A.faddr 1 a1 fun a2 =>
 A.load false 1 a2 st fun a3 z4 =>
 A.ret (s39 [a3.er1] z4) fun a5 z6 =>
 A.un .not a5 fun a7 =>
 g38b10_13 x1 a7 z6)
 (g38b10_13 x1 (.bool true) st)
theorem g38e10_6 : (fun env st => aops Try.prog g38mu g38T 22 (rops (g38C [1, 0])) [6, 7, 8, 9, 10, 11, 12, 13, 14, 15, 16, 17, 18, 19] env st ((g38k0) .normal)) = fun env st => g38b10_6 (env 1) (env 8) st := by
  refine Eq.trans (ops_cut (l1 := [6, 7, 8, 9, 10, 11, 12]) (l2 := [13, 14, 15, 16, 17, 18, 19]) (g38e10_13)) ?_
  funext env st
  kernel_rfl
noncomputable def f38 (x0 : V) (st : St) : Res :=
 A.box x0 st fun a1 z2 =>
 A.faddr 1 a1 fun a3 =>
 A.faddr 0 a3 fun a4 =>
 A.load false 1 a4 z2 fun a5 z6 =>
 A.ret (s39 [a5.er1] z6) fun a7 z8 =>
 A.un .not a7 fun a9 =>
 g38b10_6 a1 a9 z8
theorem g38nr : g38C [] = .seq (g38C [0]) (g38C [1]) := by kernel_rfl
theorem g38n1 : g38C [1] = .seq (g38C [1, 0]) (g38C [1, 1]) := by kernel_rfl
theorem g38rg10 : g38C [1, 0] = .region 1 (rops (g38C [1, 0])) false := by kernel_rfl
theorem g38rg10l : List.range (rops (g38C [1, 0])).size = [0, 1, 2, 3, 4, 5] ++ [6, 7, 8, 9, 10, 11, 12, 13, 14, 15, 16, 17, 18, 19] := by kernel_rfl
theorem g38er (env : Env) (st : St) : g38X (g38C []) g38kr env st = f38 (env 0) st := by
  rw [(g38seq g38nr ((g38seq g38n1 rfl).trans (g38reg g38rg10 g38rg10l (g38e10_6))))]
  kernel_rfl
theorem s38_eq (x0 : V) (st : St) : s38 [x0] st = f38 x0 st := by
  have h : afn Try.prog g38mu g38T big (areg Try.prog g38mu g38T) 38 [x0] st = g38X (g38C []) g38kr (fun t => [x0].getD t (.tup [])) st := by kernel_rfl
  rw [s38, sealF_eq]
  exact h.trans (g38er _ st)
/-! slices.IndexFunc[[]sinew/api.Change,sinew/api.Change] -/
def g74mu : Nat → Bool := fun _ => false
noncomputable def g74T : Tbl := tget [(38, s38)]
theorem g74t : SimT Try.prog g74T := simT_cons sim38 (simT_nil)
noncomputable def s74 : Fn := sealF (afn Try.prog g74mu g74T big (areg Try.prog g74mu g74T) 74)
theorem sim74 : Sim Try.prog 74 s74 := (afn_sim g74t (fun m => areg_sound g74t hmix m) 74 (by kernel_rfl)).sealed
noncomputable def g74C (p : List Nat) : Code := sub (match Try.f74.body with | some c => c | none => .skip) p
noncomputable def g74X (c : Code) (K : Kon) : Env → St → Res := aexec Try.prog g74mu g74T big 19 (areg Try.prog g74mu g74T 19) c K
noncomputable def g74kr : Kon := aresK Try.prog Try.f74.results.toList
theorem g74reg {c : Code} {K : Kon} {G : Env → St → Res} {id : Nat} {ops : Array Oper} {l1 l2 : List Nat} (hc : c = .region id ops false) (hl : List.range ops.size = l1 ++ l2) (h : (fun env st => aops Try.prog g74mu g74T 19 ops l2 env st (K .normal)) = G) : g74X c K = fun env st => aops Try.prog g74mu g74T 19 ops l1 env st G := reg_cut hc hl h
theorem g74seq {c x y : Code} {K : Kon} {G : Env → St → Res} (hc : c = .seq x y) (hy : g74X y K = G) : g74X c K = g74X x (kSeq G K) := seq_cut hc hy
theorem g74blk {c x : Code} {K : Kon} {i : Nat} (hc : c = .block i x) : g74X c K = g74X x (kBlk i K) := blk_cut hc
theorem g74loop {c x : Code} {K : Kon} (hc : c = .loop x) : g74X c K = aloop (g74X x) K big := loop_cut hc
theorem g74cond {c x y : Code} {K : Kon} {v : Operand} {F G : Env → St → Res} (hc : c = .cond v x y) (hx : g74X x K = F) (hy : g74X y K = G) : g74X c K = condF v F G := cond_cut hc hx hy
noncomputable def g74k0 : Kon := kSeq (g74X (g74C [1, 1]) (g74kr)) (g74kr)
noncomputable def g74k1 : Kon := kBlk 0 (g74k0)
noncomputable def g74b1010 : Nat → V → V → V → V → St → Res
| 0, _, _, _, _, _ => none
| n + 1, x0, x1, x7, x8, st =>
 A.bin .lss x8 x7 fun a1 =>
 A.cond a1
 (A.iaddr 4 x0 x8 fun a2 =>
 A.load true 4 a2 st fun a3 z4 =>
 A.call g74T x1 [a3] z4 fun a5 z6 =>
 A.cond a5
 (some (.ret x8.er1, z6))
 (A.bin .add x8 (.int .i64 1) fun a7 =>
 (g74b1010 n) x0 x1 x7 a7 z6))
 (some (.ret ((.int .i64 (-1)) : V).er1, st))
theorem g74n1010 : g74C [1, 0, 1, 0] = .loop (g74C [1, 0, 1, 0, 0]) := by kernel_rfl
noncomputable def g74k2 (L1010 : V → V → V → V → St → Res) : Kon := kSeq (fun env st => L1010 (env 0) (env 1) (env 7) (env 8) st) (g74k1)
theorem g74e1010 : g74X (g74C [1, 0, 1, 0]) (g74k1) = fun env st => g74b1010 big (env 0) (env 1) (env 7) (env 8) st := by
  have key : ∀ n, aloop (g74X (g74C [1, 0, 1, 0, 0])) (g74k1) n = fun env st => g74b1010 n (env 0) (env 1) (env 7) (env 8) st := by
    intro n
    induction n with
    | zero => rfl
    | succ n ih =>
      have h : aloop (g74X (g74C [1, 0, 1, 0, 0])) (g74k1) (n + 1) = g74X (g74C [1, 0, 1, 0, 0]) (kSeq (aloop (g74X (g74C [1, 0, 1, 0, 0])) (g74k1) n) (g74k1)) := rfl
      rw [h, ih]
      refine Eq.trans (Eq.refl _) ?_
      funext env st
      kernel_rfl
  exact (g74loop g74n1010).trans (key big)
noncomputable def f74 (x0 : V) (x1 : V) (st : St) : Res :=
 A.lenL x0 fun a1 =>
 g74b1010 big x0 x1 a1 (.int .i64 0) st
theorem g74nr : g74C [] = .seq (g74C [0]) (g74C [1]) := by kernel_rfl
theorem g74n1 : g74C [1] = .seq (g74C [1, 0]) (g74C [1, 1]) := by kernel_rfl
theorem g74n10 : g74C [1, 0] = .seq (g74C [1, 0, 0]) (g74C [1, 0, 1]) := by kernel_rfl
theorem g74n101 : g74C [1, 0, 1] = .block 0 (g74C [1, 0, 1, 0]) := by kernel_rfl
theorem g74er (env : Env) (st : St) : g74X (g74C []) g74kr env st = f74 (env 0) (env 1) st := by
  rw [(g74seq g74nr ((g74seq g74n1 rfl).trans (g74seq g74n10 ((g74blk g74n101).trans (g74e1010)))))]
  kernel_rfl
theorem s74_eq (x0 : V) (x1 : V) (st : St) : s74 [x0, x1] st = f74 x0 x1 st := by
  have h : afn Try.prog g74mu g74T big (areg Try.prog g74mu g74T) 74 [x0, x1] st = g74X (g74C []) g74kr (fun t => [x0, x1].getD t (.tup [])) st := by kernel_rfl
  rw [s74, sealF_eq]
  exact h.trans (g74er _ st)
/-! slices.ContainsFunc[[]sinew/api.Change,sinew/api.Change] -/
def g40mu : Nat → Bool := fun _ => false
noncomputable def g40T : Tbl := tget [(74, s74)]
theorem g40t : SimT Try.prog g40T := simT_cons sim74 (simT_nil)
noncomputable def s40 : Fn := sealF (afn Try.prog g40mu g40T big (areg Try.prog g40mu g40T) 40)
theorem sim40 : Sim Try.prog 40 s40 := (afn_sim g40t (fun m => areg_sound g40t hmix m) 40 (by kernel_rfl)).sealed
noncomputable def f40 (x0 : V) (x1 : V) (st : St) : Res :=
 A.ret (s74 [x0.er1, x1.er1] st) fun a1 z2 =>
 A.bin .geq a1 (.int .i64 0) fun a3 =>
 some (.ret a3.er1, z2)
theorem s40_eq (x0 : V) (x1 : V) (st : St) : s40 [x0, x1] st = f40 x0 x1 st := by
  rw [s40, sealF_eq]
  kernel_rfl
/-! sinew/query.Check$2 -/
def g41mu : Nat → Bool := fun _ => false
noncomputable def g41T : Tbl := tget [(39, s39)]
theorem g41t : SimT Try.prog g41T := simT_cons sim39 (simT_nil)
noncomputable def s41 : Fn := sealF (afn Try.prog g41mu g41T big (areg Try.prog g41mu g41T) 41)
theorem sim41 : Sim Try.prog 41 s41 := (afn_sim g41t (fun m => areg_sound g41t hmix m) 41 (by kernel_rfl)).sealed
noncomputable def f41 (x0 : V) (st : St) : Res :=
 A.ret (s39 [x0.er1] st) fun a1 z2 =>
 A.un .not a1 fun a3 =>
 some (.ret a3.er1, z2)
theorem s41_eq (x0 : V) (st : St) : s41 [x0] st = f41 x0 st := by
  rw [s41, sealF_eq]
  kernel_rfl
/-! slices.IndexFunc[[]string,string] -/
def g75mu : Nat → Bool := fun _ => false
noncomputable def g75T : Tbl := tget [(41, s41)]
theorem g75t : SimT Try.prog g75T := simT_cons sim41 (simT_nil)
noncomputable def s75 : Fn := sealF (afn Try.prog g75mu g75T big (areg Try.prog g75mu g75T) 75)
theorem sim75 : Sim Try.prog 75 s75 := (afn_sim g75t (fun m => areg_sound g75t hmix m) 75 (by kernel_rfl)).sealed
noncomputable def g75C (p : List Nat) : Code := sub (match Try.f75.body with | some c => c | none => .skip) p
noncomputable def g75X (c : Code) (K : Kon) : Env → St → Res := aexec Try.prog g75mu g75T big 19 (areg Try.prog g75mu g75T 19) c K
noncomputable def g75kr : Kon := aresK Try.prog Try.f75.results.toList
theorem g75reg {c : Code} {K : Kon} {G : Env → St → Res} {id : Nat} {ops : Array Oper} {l1 l2 : List Nat} (hc : c = .region id ops false) (hl : List.range ops.size = l1 ++ l2) (h : (fun env st => aops Try.prog g75mu g75T 19 ops l2 env st (K .normal)) = G) : g75X c K = fun env st => aops Try.prog g75mu g75T 19 ops l1 env st G := reg_cut hc hl h
theorem g75seq {c x y : Code} {K : Kon} {G : Env → St → Res} (hc : c = .seq x y) (hy : g75X y K = G) : g75X c K = g75X x (kSeq G K) := seq_cut hc hy
theorem g75blk {c x : Code} {K : Kon} {i : Nat} (hc : c = .block i x) : g75X c K = g75X x (kBlk i K) := blk_cut hc
theorem g75loop {c x : Code} {K : Kon} (hc : c = .loop x) : g75X c K = aloop (g75X x) K big := loop_cut hc
theorem g75cond {c x y : Code} {K : Kon} {v : Operand} {F G : Env → St → Res} (hc : c = .cond v x y) (hx : g75X x K = F) (hy : g75X y K = G) : g75X c K = condF v F G := cond_cut hc hx hy
noncomputable def g75k0 : Kon := kSeq (g75X (g75C [1, 1]) (g75kr)) (g75kr)
noncomputable def g75k1 : Kon := kBlk 0 (g75k0)
noncomputable def g75b1010 : Nat → V → V → V → V → St → Res
| 0, _, _, _, _, _ => none
| n + 1, x0, x1, x7, x8, st =>
 A.bin .lss x8 x7 fun a1 =>
 A.cond a1
 (A.iaddr 1 x0 x8 fun a2 =>
 A.load false 1 a2 st fun a3 z4 =>
 A.call g75T x1 [a3] z4 fun a5 z6 =>
 A.cond a5
 (some (.ret x8.er1, z6))
 (A.bin .add x8 (.int .i64 1) fun a7 =>
 (g75b1010 n) x0 x1 x7 a7 z6))
 (some (.ret ((.int .i64 (-1)) : V).er1, st))
theorem g75n1010 : g75C [1, 0, 1, 0] = .loop (g75C [1, 0, 1, 0, 0]) := by kernel_rfl
noncomputable def g75k2 (L1010 : V → V → V → V → St → Res) : Kon := kSeq (fun env st => L1010 (env 0) (env 1) (env 7) (env 8) st) (g75k1)
theorem g75e1010 : g75X (g75C [1, 0, 1, 0]) (g75k1) = fun env st => g75b1010 big (env 0) (env 1) (env 7) (env 8) st := by
  have key : ∀ n, aloop (g75X (g75C [1, 0, 1, 0, 0])) (g75k1) n = fun env st => g75b1010 n (env 0) (env 1) (env 7) (env 8) st := by
    intro n
    induction n with
    | zero => rfl
    | succ n ih =>
      have h : aloop (g75X (g75C [1, 0, 1, 0, 0])) (g75k1) (n + 1) = g75X (g75C [1, 0, 1, 0, 0]) (kSeq (aloop (g75X (g75C [1, 0, 1, 0, 0])) (g75k1) n) (g75k1)) := rfl
      rw [h, ih]
      refine Eq.trans (Eq.refl _) ?_
      funext env st
      kernel_rfl
  exact (g75loop g75n1010).trans (key big)
noncomputable def f75 (x0 : V) (x1 : V) (st : St) : Res :=
 A.lenL x0 fun a1 =>
 g75b1010 big x0 x1 a1 (.int .i64 0) st
theorem g75nr : g75C [] = .seq (g75C [0]) (g75C [1]) := by kernel_rfl
theorem g75n1 : g75C [1] = .seq (g75C [1, 0]) (g75C [1, 1]) := by kernel_rfl
theorem g75n10 : g75C [1, 0] = .seq (g75C [1, 0, 0]) (g75C [1, 0, 1]) := by kernel_rfl
theorem g75n101 : g75C [1, 0, 1] = .block 0 (g75C [1, 0, 1, 0]) := by kernel_rfl
theorem g75er (env : Env) (st : St) : g75X (g75C []) g75kr env st = f75 (env 0) (env 1) st := by
  rw [(g75seq g75nr ((g75seq g75n1 rfl).trans (g75seq g75n10 ((g75blk g75n101).trans (g75e1010)))))]
  kernel_rfl
theorem s75_eq (x0 : V) (x1 : V) (st : St) : s75 [x0, x1] st = f75 x0 x1 st := by
  have h : afn Try.prog g75mu g75T big (areg Try.prog g75mu g75T) 75 [x0, x1] st = g75X (g75C []) g75kr (fun t => [x0, x1].getD t (.tup [])) st := by kernel_rfl
  rw [s75, sealF_eq]
  exact h.trans (g75er _ st)
/-! slices.ContainsFunc[[]string,string] -/
def g42mu : Nat → Bool := fun _ => false
noncomputable def g42T : Tbl := tget [(75, s75)]
theorem g42t : SimT Try.prog g42T := simT_cons sim75 (simT_nil)
noncomputable def s42 : Fn := sealF (afn Try.prog g42mu g42T big (areg Try.prog g42mu g42T) 42)
theorem sim42 : Sim Try.prog 42 s42 := (afn_sim g42t (fun m => areg_sound g42t hmix m) 42 (by kernel_rfl)).sealed
noncomputable def f42 (x0 : V) (x1 : V) (st : St) : Res :=
 A.ret (s75 [x0.er1, x1.er1] st) fun a1 z2 =>
 A.bin .geq a1 (.int .i64 0) fun a3 =>
 some (.ret a3.er1, z2)
theorem s42_eq (x0 : V) (x1 : V) (st : St) : s42 [x0, x1] st = f42 x0 x1 st := by
  rw [s42, sealF_eq]
  kernel_rfl
/-! sinew/query.fits -/
def g43mu : Nat → Bool := fun _ => false
noncomputable def g43T (R : Nat → Fn) : Tbl := tget [(76, R 76), (39, s39)]
theorem g43t (R : Nat → Fn) (hR : ∀ j, j ∈ [43, 76, 93, 77] → Sim Try.prog j (R j)) : SimT Try.prog (g43T R) := simT_cons (hR 76 (by decide)) ( simT_cons sim39 (simT_nil))
noncomputable def g43C (p : List Nat) : Code := sub (match Try.f43.body with | some c => c | none => .skip) p
noncomputable def g43X (R : Nat → Fn) (c : Code) (K : Kon) : Env → St → Res := aexec Try.prog g43mu (g43T R) big 65 (areg Try.prog g43mu (g43T R) 65) c K
noncomputable def g43kr (R : Nat → Fn) : Kon := aresK Try.prog Try.f43.results.toList
theorem g43reg (R : Nat → Fn) {c : Code} {K : Kon} {G : Env → St → Res} {id : Nat} {ops : Array Oper} {l1 l2 : List Nat} (hc : c = .region id ops false) (hl : List.range ops.size = l1 ++ l2) (h : (fun env st => aops Try.prog g43mu (g43T R) 65 ops l2 env st (K .normal)) = G) : (g43X R) c K = fun env st => aops Try.prog g43mu (g43T R) 65 ops l1 env st G := reg_cut hc hl h
theorem g43seq (R : Nat → Fn) {c x y : Code} {K : Kon} {G : Env → St → Res} (hc : c = .seq x y) (hy : (g43X R) y K = G) : (g43X R) c K = (g43X R) x (kSeq G K) := seq_cut hc hy
theorem g43blk (R : Nat → Fn) {c x : Code} {K : Kon} {i : Nat} (hc : c = .block i x) : (g43X R) c K = (g43X R) x (kBlk i K) := blk_cut hc
theorem g43loop (R : Nat → Fn) {c x : Code} {K : Kon} (hc : c = .loop x) : (g43X R) c K = aloop ((g43X R) x) K big := loop_cut hc
theorem g43cond (R : Nat → Fn) {c x y : Code} {K : Kon} {v : Operand} {F G : Env → St → Res} (hc : c = .cond v x y) (hx : (g43X R) x K = F) (hy : (g43X R) y K = G) : (g43X R) c K = condF v F G := cond_cut hc hx hy
noncomputable def g43b11111 (R : Nat → Fn) (x3 : V) (x4 : V) (x5 : V) (st : St) : Res :=
 A.faddr 2 x3 fun a1 =>
 A.load false 1 a1 st fun a2 z3 =>
 A.ret (R 76 [a2.er1, ((.fn 77 [] [x4, x5]) : V).er1] z3) fun a4 z5 =>
 A.un .not a4 fun a6 =>
 some (.ret a6.er1, z5)
theorem g43e11111 (R : Nat → Fn) : (g43X R) (g43C [1, 1, 1, 1, 1]) ((g43kr R)) = fun env st => (g43b11111 R) (env 3) (env 4) (env 5) st := by
  refine Eq.trans (Eq.refl ((g43X R) (g43C [1, 1, 1, 1, 1]) ((g43kr R)))) ?_
  funext env st
  kernel_rfl
noncomputable def g43b1111 (R : Nat → Fn) (x3 : V) (x4 : V) (x5 : V) (x8 : V) (st : St) : Res :=
 A.un .not x8 fun a1 =>
 A.guard a1 false
 (A.load false 1 x4 st fun a2 z3 =>
 A.bin .leq a2 (.int .i64 0) fun a4 =>
 A.guard a4 false
 (A.faddr 1 x3 fun a5 =>
 A.load false 1 a5 z3 fun a6 z7 =>
 A.eql 3 true a6 (.str []) fun a8 =>
 A.cond a8
 (some (.ret ((.bool false) : V).er1, z7))
 ((g43b11111 R) x3 x4 x5 z7))
 (some (.ret ((.bool false) : V).er1, z3)))
 (some (.ret ((.bool false) : V).er1, st))
theorem g43n1111 : g43C [1, 1, 1, 1] = .seq (g43C [1, 1, 1, 1, 0]) (g43C [1, 1, 1, 1, 1]) := by kernel_rfl
theorem g43e1111 (R : Nat → Fn) : (g43X R) (g43C [1, 1, 1, 1]) ((g43kr R)) = fun env st => (g43b1111 R) (env 3) (env 4) (env 5) (env 8) st := by
  refine Eq.trans ((g43seq R) g43n1111 ((g43e11111 R))) ?_
  funext env st
  kernel_rfl
noncomputable def g43k0 (R : Nat → Fn) : Kon := kSeq (fun env st => (g43b1111 R) (env 3) (env 4) (env 5) (env 8) st) ((g43kr R))
noncomputable def g43k1 (R : Nat → Fn) : Kon := kBlk 0 ((g43k0 R))
noncomputable def g43k2 (R : Nat → Fn) : Kon := kSeq ((g43X R) (g43C [1, 1, 1, 0, 1, 0, 1, 0, 1, 1]) ((g43k1 R))) ((g43k1 R))
noncomputable def g43b1110101010_7 (R : Nat → Fn) (x3 : V) (x5 : V) (x27 : V) (st : St) : Res :=
 A.guard x27 true
 (A.faddr 1 x3 fun a1 =>
 A.load false 1 a1 st fun a2 z3 =>
 A.ret (s39 [a2.er1] z3) fun a4 z5 =>
 A.guard a4 true
 (A.load false 1 x5 z5 fun a6 z7 =>
 A.nilc a6 fun a8 =>
 A.load false 1 a8 z7 fun a9 z10 =>
 A.bin .geq a9 (.int .i64 0) fun a11 =>
 some (.ret a11.er1, z10))
 (some (.ret ((.bool false) : V).er1, z5)))
 (some (.ret ((.bool false) : V).er1, st))
theorem g43e1110101010_7 (R : Nat → Fn) : (fun env st => aops Try.prog g43mu (g43T R) 65 (rops (g43C [1, 1, 1, 0, 1, 0, 1, 0, 1, 0])) [7, 8, 9, 10, 11, 12, 13, 14, 15, 16, 17] env st (((g43k2 R)) .normal)) = fun env st => (g43b1110101010_7 R) (env 3) (env 5) (env 27) st := by
  refine Eq.trans (Eq.refl _) ?_
  funext env st
  kernel_rfl
noncomputable def g43b111010111 (R : Nat → Fn) (x3 : V) (x4 : V) (x5 : V) (x7 : V) (x8 : V) (x13 : V) (x38 : V) (st : St) : Res :=
 A.cond x38
 (A.bin .geq x7 (.int .i64 2) fun a1 =>
 (g43b1111 R) x3 x4 x5 a1 st)
 (A.eql 2 false x13 (.int .i64 4) fun a2 =>
 A.cond a2
 (A.cond a2
 (A.eql 2 false x7 (.int .i64 1) fun a3 =>
 (g43b1111 R) x3 x4 x5 a3 st)
 ((g43b1111 R) x3 x4 x5 x8 st))
 (A.eql 2 false x13 (.int .i64 5) fun a4 =>
 A.cond a4
 (A.cond a4
 (A.eql 2 false x7 (.int .i64 1) fun a5 =>
 (g43b1111 R) x3 x4 x5 a5 st)
 ((g43b1111 R) x3 x4 x5 x8 st))
 (A.eql 2 false x13 (.int .i64 6) fun a6 =>
 A.cond a6
 (A.eql 2 false x7 (.int .i64 1) fun a7 =>
 (g43b1111 R) x3 x4 x5 a7 st)
 ((g43b1111 R) x3 x4 x5 x8 st))))
theorem g43e111010111 (R : Nat → Fn) : (g43X R) (g43C [1, 1, 1, 0, 1, 0, 1, 1, 1]) ((g43k1 R)) = fun env st => (g43b111010111 R) (env 3) (env 4) (env 5) (env 7) (env 8) (env 13) (env 38) st := by
  refine Eq.trans (Eq.refl ((g43X R) (g43C [1, 1, 1, 0, 1, 0, 1, 1, 1]) ((g43k1 R)))) ?_
  funext env st
  kernel_rfl
noncomputable def g43b11101 (R : Nat → Fn) (x3 : V) (x4 : V) (x5 : V) (x7 : V) (x8 : V) (x13 : V) (st : St) : Res :=
 A.eql 2 false x13 (.int .i64 1) fun a1 =>
 A.cond a1
 (A.load false 1 x5 st fun a2 z3 =>
 A.nilc a2 fun a4 =>
 A.load false 1 a4 z3 fun a5 z6 =>
 A.bin .sub a5 (.int .i64 1) fun a7 =>
 A.nilc a2 fun a8 =>
 A.store 1 a8 a7 z6 fun z9 =>
 A.load false 1 x4 z9 fun a10 z11 =>
 A.bin .gtr a10 (.int .i64 0) fun a12 =>
 A.guard a12 true
 (A.eql 2 false x7 (.int .i64 0) fun a13 =>
 (g43b1110101010_7 R) x3 x5 a13 z11)
 ((g43b1110101010_7 R) x3 x5 (.bool false) z11))
 (A.eql 2 false x13 (.int .i64 2) fun a14 =>
 A.cond a14
 ((g43b111010111 R) x3 x4 x5 x7 x8 x13 a14 st)
 (A.eql 2 false x13 (.int .i64 3) fun a15 =>
 (g43b111010111 R) x3 x4 x5 x7 x8 x13 a15 st))
theorem g43n11101 : g43C [1, 1, 1, 0, 1] = .block 0 (g43C [1, 1, 1, 0, 1, 0]) := by kernel_rfl
theorem g43n111010 : g43C [1, 1, 1, 0, 1, 0] = .seq (g43C [1, 1, 1, 0, 1, 0, 0]) (g43C [1, 1, 1, 0, 1, 0, 1]) := by kernel_rfl
theorem g43n1110101 : g43C [1, 1, 1, 0, 1, 0, 1] = .cond (.tmp 14) (g43C [1, 1, 1, 0, 1, 0, 1, 0]) (g43C [1, 1, 1, 0, 1, 0, 1, 1]) := by kernel_rfl
theorem g43n11101010 : g43C [1, 1, 1, 0, 1, 0, 1, 0] = .seq (g43C [1, 1, 1, 0, 1, 0, 1, 0, 0]) (g43C [1, 1, 1, 0, 1, 0, 1, 0, 1]) := by kernel_rfl
theorem g43n111010101 : g43C [1, 1, 1, 0, 1, 0, 1, 0, 1] = .seq (g43C [1, 1, 1, 0, 1, 0, 1, 0, 1, 0]) (g43C [1, 1, 1, 0, 1, 0, 1, 0, 1, 1]) := by kernel_rfl
theorem g43rg1110101010 : g43C [1, 1, 1, 0, 1, 0, 1, 0, 1, 0] = .region 6 (rops (g43C [1, 1, 1, 0, 1, 0, 1, 0, 1, 0])) false := by kernel_rfl
theorem g43rg1110101010l : List.range (rops (g43C [1, 1, 1, 0, 1, 0, 1, 0, 1, 0])).size = [0, 1, 2, 3, 4, 5, 6] ++ [7, 8, 9, 10, 11, 12, 13, 14, 15, 16, 17] := by kernel_rfl
theorem g43n11101011 : g43C [1, 1, 1, 0, 1, 0, 1, 1] = .seq (g43C [1, 1, 1, 0, 1, 0, 1, 1, 0]) (g43C [1, 1, 1, 0, 1, 0, 1, 1, 1]) := by kernel_rfl
theorem g43e11101 (R : Nat → Fn) : (g43X R) (g43C [1, 1, 1, 0, 1]) ((g43k0 R)) = fun env st => (g43b11101 R) (env 3) (env 4) (env 5) (env 7) (env 8) (env 13) st := by
  refine Eq.trans (((g43blk R) g43n11101).trans ((g43seq R) g43n111010 ((g43cond R) g43n1110101 ((g43seq R) g43n11101010 (((g43seq R) g43n111010101 rfl).trans ((g43reg R) g43rg1110101010 g43rg1110101010l ((g43e1110101010_7 R))))) ((g43seq R) g43n11101011 ((g43e111010111 R)))))) ?_
  funext env st
  kernel_rfl
noncomputable def f43 (R : Nat → Fn) (x0 : V) (x1 : V) (x2 : V) (st : St) : Res :=
 A.box x0 st fun a1 z2 =>
 A.box x1 z2 fun a3 z4 =>
 A.box x2 z4 fun a5 z6 =>
 A.faddr 2 a1 fun a7 =>
 A.load false 1 a7 z6 fun a8 z9 =>
 A.lenL a8 fun a10 =>
 A.faddr 0 a1 fun a11 =>
 A.load false 1 a11 z9 fun a12 z13 =>
 (g43b11101 R) a1 a3 a5 a10 (.bool false) a12 z13
theorem g43nr : g43C [] = .seq (g43C [0]) (g43C [1]) := by kernel_rfl
theorem g43n1 : g43C [1] = .seq (g43C [1, 0]) (g43C [1, 1]) := by kernel_rfl
theorem g43n11 : g43C [1, 1] = .seq (g43C [1, 1, 0]) (g43C [1, 1, 1]) := by kernel_rfl
theorem g43n111 : g43C [1, 1, 1] = .seq (g43C [1, 1, 1, 0]) (g43C [1, 1, 1, 1]) := by kernel_rfl
theorem g43n1110 : g43C [1, 1, 1, 0] = .seq (g43C [1, 1, 1, 0, 0]) (g43C [1, 1, 1, 0, 1]) := by kernel_rfl
theorem g43er (R : Nat → Fn) (env : Env) (st : St) : (g43X R) (g43C []) (g43kr R) env st = (f43 R) (env 0) (env 1) (env 2) st := by
  rw [((g43seq R) g43nr ((g43seq R) g43n1 ((g43seq R) g43n11 (((g43seq R) g43n111 ((g43e1111 R))).trans ((g43seq R) g43n1110 ((g43e11101 R)))))))]
  kernel_rfl
theorem s43R_eq (R : Nat → Fn) (x0 : V) (x1 : V) (x2 : V) (st : St) : afn Try.prog g43mu (g43T R) big (areg Try.prog g43mu (g43T R)) 43 [x0, x1, x2] st = (f43 R) x0 x1 x2 st := by
  have h : afn Try.prog g43mu (g43T R) big (areg Try.prog g43mu (g43T R)) 43 [x0, x1, x2] st = (g43X R) (g43C []) (g43kr R) (fun t => [x0, x1, x2].getD t (.tup [])) st := by kernel_rfl
  exact h.trans ((g43er R) _ st)
/-! slices.ContainsFunc[[]sinew/api.Path,sinew/api.Path] -/
def g76mu : Nat → Bool := fun _ => false
noncomputable def g76T (R : Nat → Fn) : Tbl := tget [(93, R 93)]
theorem g76t (R : Nat → Fn) (hR : ∀ j, j ∈ [43, 76, 93, 77] → Sim Try.prog j (R j)) : SimT Try.prog (g76T R) := simT_cons (hR 93 (by decide)) (simT_nil)
noncomputable def f76 (R : Nat → Fn) (x0 : V) (x1 : V) (st : St) : Res :=
 A.ret (R 93 [x0.er1, x1.er1] st) fun a1 z2 =>
 A.bin .geq a1 (.int .i64 0) fun a3 =>
 some (.ret a3.er1, z2)
theorem s76R_eq (R : Nat → Fn) (x0 : V) (x1 : V) (st : St) : afn Try.prog g76mu (g76T R) big (areg Try.prog g76mu (g76T R)) 76 [x0, x1] st = (f76 R) x0 x1 st := by
  kernel_rfl
/-! slices.IndexFunc[[]sinew/api.Path,sinew/api.Path] -/
def g93mu : Nat → Bool := fun _ => false
noncomputable def g93T (R : Nat → Fn) : Tbl := tget [(77, R 77)]
theorem g93t (R : Nat → Fn) (hR : ∀ j, j ∈ [43, 76, 93, 77] → Sim Try.prog j (R j)) : SimT Try.prog (g93T R) := simT_cons (hR 77 (by decide)) (simT_nil)
noncomputable def g93C (p : List Nat) : Code := sub (match Try.f93.body with | some c => c | none => .skip) p
noncomputable def g93X (R : Nat → Fn) (c : Code) (K : Kon) : Env → St → Res := aexec Try.prog g93mu (g93T R) big 19 (areg Try.prog g93mu (g93T R) 19) c K
noncomputable def g93kr (R : Nat → Fn) : Kon := aresK Try.prog Try.f93.results.toList
theorem g93reg (R : Nat → Fn) {c : Code} {K : Kon} {G : Env → St → Res} {id : Nat} {ops : Array Oper} {l1 l2 : List Nat} (hc : c = .region id ops false) (hl : List.range ops.size = l1 ++ l2) (h : (fun env st => aops Try.prog g93mu (g93T R) 19 ops l2 env st (K .normal)) = G) : (g93X R) c K = fun env st => aops Try.prog g93mu (g93T R) 19 ops l1 env st G := reg_cut hc hl h
theorem g93seq (R : Nat → Fn) {c x y : Code} {K : Kon} {G : Env → St → Res} (hc : c = .seq x y) (hy : (g93X R) y K = G) : (g93X R) c K = (g93X R) x (kSeq G K) := seq_cut hc hy
theorem g93blk (R : Nat → Fn) {c x : Code} {K : Kon} {i : Nat} (hc : c = .block i x) : (g93X R) c K = (g93X R) x (kBlk i K) := blk_cut hc
theorem g93loop (R : Nat → Fn) {c x : Code} {K : Kon} (hc : c = .loop x) : (g93X R) c K = aloop ((g93X R) x) K big := loop_cut hc
theorem g93cond (R : Nat → Fn) {c x y : Code} {K : Kon} {v : Operand} {F G : Env → St → Res} (hc : c = .cond v x y) (hx : (g93X R) x K = F) (hy : (g93X R) y K = G) : (g93X R) c K = condF v F G := cond_cut hc hx hy
noncomputable def g93k0 (R : Nat → Fn) : Kon := kSeq ((g93X R) (g93C [1, 1]) ((g93kr R))) ((g93kr R))
noncomputable def g93k1 (R : Nat → Fn) : Kon := kBlk 0 ((g93k0 R))
noncomputable def g93b1010 (R : Nat → Fn) : Nat → V → V → V → V → St → Res
| 0, _, _, _, _, _ => none
| n + 1, x0, x1, x7, x8, st =>
 A.bin .lss x8 x7 fun a1 =>
 A.cond a1
 (A.iaddr 3 x0 x8 fun a2 =>
 A.load true 3 a2 st fun a3 z4 =>
 A.call (g93T R) x1 [a3] z4 fun a5 z6 =>
 A.cond a5
 (some (.ret x8.er1, z6))
 (A.bin .add x8 (.int .i64 1) fun a7 =>
 ((g93b1010 R) n) x0 x1 x7 a7 z6))
 (some (.ret ((.int .i64 (-1)) : V).er1, st))
theorem g93n1010 : g93C [1, 0, 1, 0] = .loop (g93C [1, 0, 1, 0, 0]) := by kernel_rfl
noncomputable def g93k2 (R : Nat → Fn) (L1010 : V → V → V → V → St → Res) : Kon := kSeq (fun env st => L1010 (env 0) (env 1) (env 7) (env 8) st) ((g93k1 R))
theorem g93e1010 (R : Nat → Fn) : (g93X R) (g93C [1, 0, 1, 0]) ((g93k1 R)) = fun env st => (g93b1010 R) big (env 0) (env 1) (env 7) (env 8) st := by
  have key : ∀ n, aloop ((g93X R) (g93C [1, 0, 1, 0, 0])) ((g93k1 R)) n = fun env st => (g93b1010 R) n (env 0) (env 1) (env 7) (env 8) st := by
    intro n
    induction n with
    | zero => rfl
    | succ n ih =>
      have h : aloop ((g93X R) (g93C [1, 0, 1, 0, 0])) ((g93k1 R)) (n + 1) = (g93X R) (g93C [1, 0, 1, 0, 0]) (kSeq (aloop ((g93X R) (g93C [1, 0, 1, 0, 0])) ((g93k1 R)) n) ((g93k1 R))) := rfl
      rw [h, ih]
      refine Eq.trans (Eq.refl _) ?_
      funext env st
      kernel_rfl
  exact ((g93loop R) g93n1010).trans (key big)
noncomputable def f93 (R : Nat → Fn) (x0 : V) (x1 : V) (st : St) : Res :=
 A.lenL x0 fun a1 =>
 (g93b1010 R) big x0 x1 a1 (.int .i64 0) st
theorem g93nr : g93C [] = .seq (g93C [0]) (g93C [1]) := by kernel_rfl
theorem g93n1 : g93C [1] = .seq (g93C [1, 0]) (g93C [1, 1]) := by kernel_rfl
theorem g93n10 : g93C [1, 0] = .seq (g93C [1, 0, 0]) (g93C [1, 0, 1]) := by kernel_rfl
theorem g93n101 : g93C [1, 0, 1] = .block 0 (g93C [1, 0, 1, 0]) := by kernel_rfl
theorem g93er (R : Nat → Fn) (env : Env) (st : St) : (g93X R) (g93C []) (g93kr R) env st = (f93 R) (env 0) (env 1) st := by
  rw [((g93seq R) g93nr (((g93seq R) g93n1 rfl).trans ((g93seq R) g93n10 (((g93blk R) g93n101).trans ((g93e1010 R))))))]
  kernel_rfl
theorem s93R_eq (R : Nat → Fn) (x0 : V) (x1 : V) (st : St) : afn Try.prog g93mu (g93T R) big (areg Try.prog g93mu (g93T R)) 93 [x0, x1] st = (f93 R) x0 x1 st := by
  have h : afn Try.prog g93mu (g93T R) big (areg Try.prog g93mu (g93T R)) 93 [x0, x1] st = (g93X R) (g93C []) (g93kr R) (fun t => [x0, x1].getD t (.tup [])) st := by kernel_rfl
  exact h.trans ((g93er R) _ st)
/-! sinew/query.fits$1 -/
def g77mu : Nat → Bool := fun _ => false
noncomputable def g77T (R : Nat → Fn) : Tbl := tget [(43, R 43)]
theorem g77t (R : Nat → Fn) (hR : ∀ j, j ∈ [43, 76, 93, 77] → Sim Try.prog j (R j)) : SimT Try.prog (g77T R) := simT_cons (hR 43 (by decide)) (simT_nil)
noncomputable def f77 (R : Nat → Fn) (x0 : V) (x1 : V) (x2 : V) (st : St) : Res :=
 A.box x0 st fun a1 z2 =>
 A.load true 3 a1 z2 fun a3 z4 =>
 A.load false 1 x1 z4 fun a5 z6 =>
 A.bin .sub a5 (.int .i64 1) fun a7 =>
 A.load false 1 x2 z6 fun a8 z9 =>
 A.ret (R 43 [a3.er1, a7.er1, a8.er1] z9) fun a10 z11 =>
 A.un .not a10 fun a12 =>
 some (.ret a12.er1, z11)
theorem s77R_eq (R : Nat → Fn) (x0 : V) (x1 : V) (x2 : V) (st : St) : afn Try.prog g77mu (g77T R) big (areg Try.prog g77mu (g77T R)) 77 [x0, x1, x2] st = (f77 R) x0 x1 x2 st := by
  kernel_rfl
noncomputable def G43 : Nat → Nat → Fn
| 0 => fun _ _ _ => none
| n + 1 => fun j => ((tget [(43, afn Try.prog g43mu (g43T (G43 n)) big (areg Try.prog g43mu (g43T (G43 n))) 43), (76, afn Try.prog g76mu (g76T (G43 n)) big (areg Try.prog g76mu (g76T (G43 n))) 76), (93, afn Try.prog g93mu (g93T (G43 n)) big (areg Try.prog g93mu (g93T (G43 n))) 93), (77, afn Try.prog g77mu (g77T (G43 n)) big (areg Try.prog g77mu (g77T (G43 n))) 77)]) j).getD (fun _ _ => none)
theorem G43_43 (n : Nat) : G43 (n + 1) 43 = afn Try.prog g43mu (g43T (G43 n)) big (areg Try.prog g43mu (g43T (G43 n))) 43 := by kernel_rfl
theorem G43_76 (n : Nat) : G43 (n + 1) 76 = afn Try.prog g76mu (g76T (G43 n)) big (areg Try.prog g76mu (g76T (G43 n))) 76 := by kernel_rfl
theorem G43_93 (n : Nat) : G43 (n + 1) 93 = afn Try.prog g93mu (g93T (G43 n)) big (areg Try.prog g93mu (g93T (G43 n))) 93 := by kernel_rfl
theorem G43_77 (n : Nat) : G43 (n + 1) 77 = afn Try.prog g77mu (g77T (G43 n)) big (areg Try.prog g77mu (g77T (G43 n))) 77 := by kernel_rfl
theorem G43_ok : ∀ j, j ∈ [43, 76, 93, 77] → okFn Try.prog j = true := by
  intro j hj
  simp only [List.mem_cons, List.not_mem_nil, or_false] at hj
  rcases hj with rfl | rfl | rfl | rfl <;> kernel_rfl
theorem simG43 : ∀ n j, j ∈ [43, 76, 93, 77] → Sim Try.prog j (G43 n j)
| 0, j, hj => ⟨G43_ok j hj, fun _ _ _ _ _ _ _ h => by cases h⟩
| n + 1, j, hj => by
  have ih := simG43 n
  simp only [List.mem_cons, List.not_mem_nil, or_false] at hj
  rcases hj with rfl | rfl | rfl | rfl
  · rw [G43_43]; exact afn_sim (g43t (G43 n) ih) (fun m => areg_sound (g43t (G43 n) ih) hmix m) 43 (by kernel_rfl)
  · rw [G43_76]; exact afn_sim (g76t (G43 n) ih) (fun m => areg_sound (g76t (G43 n) ih) hmix m) 76 (by kernel_rfl)
  · rw [G43_93]; exact afn_sim (g93t (G43 n) ih) (fun m => areg_sound (g93t (G43 n) ih) hmix m) 93 (by kernel_rfl)
  · rw [G43_77]; exact afn_sim (g77t (G43 n) ih) (fun m => areg_sound (g77t (G43 n) ih) hmix m) 77 (by kernel_rfl)
noncomputable def s43 : Fn := sealF (G43 big 43)
theorem sim43 : Sim Try.prog 43 s43 := (simG43 big 43 (by decide)).sealed
theorem s43_n : s43 = G43 big 43 := sealF_eq _
theorem G43_43_eq (n : Nat) (x0 : V) (x1 : V) (x2 : V) (st : St) : G43 (n + 1) 43 [x0, x1, x2] st = f43 (G43 n) x0 x1 x2 st := by
  rw [G43_43]; exact s43R_eq (G43 n) x0 x1 x2 st
noncomputable def s76 : Fn := sealF (G43 big 76)
theorem sim76 : Sim Try.prog 76 s76 := (simG43 big 76 (by decide)).sealed
theorem s76_n : s76 = G43 big 76 := sealF_eq _
theorem G43_76_eq (n : Nat) (x0 : V) (x1 : V) (st : St) : G43 (n + 1) 76 [x0, x1] st = f76 (G43 n) x0 x1 st := by
  rw [G43_76]; exact s76R_eq (G43 n) x0 x1 st
noncomputable def s93 : Fn := sealF (G43 big 93)
theorem sim93 : Sim Try.prog 93 s93 := (simG43 big 93 (by decide)).sealed
theorem s93_n : s93 = G43 big 93 := sealF_eq _
theorem G43_93_eq (n : Nat) (x0 : V) (x1 : V) (st : St) : G43 (n + 1) 93 [x0, x1] st = f93 (G43 n) x0 x1 st := by
  rw [G43_93]; exact s93R_eq (G43 n) x0 x1 st
noncomputable def s77 : Fn := sealF (G43 big 77)
theorem sim77 : Sim Try.prog 77 s77 := (simG43 big 77 (by decide)).sealed
theorem s77_n : s77 = G43 big 77 := sealF_eq _
theorem G43_77_eq (n : Nat) (x0 : V) (x1 : V) (x2 : V) (st : St) : G43 (n + 1) 77 [x0, x1, x2] st = f77 (G43 n) x0 x1 x2 st := by
  rw [G43_77]; exact s77R_eq (G43 n) x0 x1 x2 st
/-! sinew/query.Check -/
def g19mu : Nat → Bool := fun _ => false
noncomputable def g19T : Tbl := tget [(26, s26), (40, s40), (41, s41), (42, s42), (43, s43)]
theorem g19t : SimT Try.prog g19T := simT_cons sim26 ( simT_cons sim40 ( simT_cons sim41 ( simT_cons sim42 ( simT_cons sim43 (simT_nil)))))
noncomputable def s19 : Fn := sealF (fun args st => fg (afn Try.prog g19mu g19T big (areg Try.prog g19mu g19T) 19 args st) st)
theorem sim19 : Sim Try.prog 19 s19 := (afn_sim g19t (fun m => areg_sound g19t hmix m) 19 (by kernel_rfl)).fg.sealed
noncomputable def g19C (p : List Nat) : Code := sub (match Try.f19.body with | some c => c | none => .skip) p
noncomputable def g19X (c : Code) (K : Kon) : Env → St → Res := aexec Try.prog g19mu g19T big 118 (areg Try.prog g19mu g19T 118) c K
noncomputable def g19kr : Kon := aresK Try.prog Try.f19.results.toList
theorem g19reg {c : Code} {K : Kon} {G : Env → St → Res} {id : Nat} {ops : Array Oper} {l1 l2 : List Nat} (hc : c = .region id ops false) (hl : List.range ops.size = l1 ++ l2) (h : (fun env st => aops Try.prog g19mu g19T 118 ops l2 env st (K .normal)) = G) : g19X c K = fun env st => aops Try.prog g19mu g19T 118 ops l1 env st G := reg_cut hc hl h
theorem g19seq {c x y : Code} {K : Kon} {G : Env → St → Res} (hc : c = .seq x y) (hy : g19X y K = G) : g19X c K = g19X x (kSeq G K) := seq_cut hc hy
theorem g19blk {c x : Code} {K : Kon} {i : Nat} (hc : c = .block i x) : g19X c K = g19X x (kBlk i K) := blk_cut hc
theorem g19loop {c x : Code} {K : Kon} (hc : c = .loop x) : g19X c K = aloop (g19X x) K big := loop_cut hc
theorem g19cond {c x y : Code} {K : Kon} {v : Operand} {F G : Env → St → Res} (hc : c = .cond v x y) (hx : g19X x K = F) (hy : g19X y K = G) : g19X c K = condF v F G := cond_cut hc hx hy
noncomputable def g19b1111 (x3 : V) (st : St) : Res :=
 A.un .not x3 fun a1 =>
 A.cond a1
 (some (.ret ((.int .i64 1) : V).er1, st))
 (some (.ret ((.int .i64 0) : V).er1, st))
theorem g19e1111 : g19X (g19C [1, 1, 1, 1]) (g19kr) = fun env st => g19b1111 (env 3) st := by
  refine Eq.trans (Eq.refl (g19X (g19C [1, 1, 1, 1]) (g19kr))) ?_
  funext env st
  kernel_rfl
noncomputable def g19k0 : Kon := kSeq (fun env st => g19b1111 (env 3) st) (g19kr)
noncomputable def g19k1 : Kon := kBlk 0 (g19k0)
noncomputable def g19b111010101_21 (x1 : V) (x5 : V) (x36 : V) (st : St) : Res :=
 A.guard x36 true
 (A.faddr 3 x1 fun a1 =>
 A.load false 1 a1 st fun a2 z3 =>
 A.ret (s40 [a2.er1, x5.er1] z3) fun a4 z5 =>
 A.un .not a4 fun a6 =>
 g19b1111 a6 z5)
 (g19b1111 (.bool false) st)
theorem g19e111010101_21 : (fun env st => aops Try.prog g19mu g19T 118 (rops (g19C [1, 1, 1, 0, 1, 0, 1, 0, 1])) [21, 22, 23, 24, 25, 26, 27] env st ((g19k1) .normal)) = fun env st => g19b111010101_21 (env 1) (env 5) (env 36) st := by
  refine Eq.trans (Eq.refl _) ?_
  funext env st
  kernel_rfl
noncomputable def g19b111010101_15 (x1 : V) (x5 : V) (x30 : V) (st : St) : Res :=
 A.guard x30 true
 (A.faddr 3 x1 fun a1 =>
 A.load false 1 a1 st fun a2 z3 =>
 A.lenL a2 fun a4 =>
 A.bin .leq a4 (.int .i64 64) fun a5 =>
 g19b111010101_21 x1 x5 a5 z3)
 (g19b111010101_21 x1 x5 (.bool false) st)
theorem g19e111010101_15 : (fun env st => aops Try.prog g19mu g19T 118 (rops (g19C [1, 1, 1, 0, 1, 0, 1, 0, 1])) [15, 16, 17, 18, 19, 20, 21, 22, 23, 24, 25, 26, 27] env st ((g19k1) .normal)) = fun env st => g19b111010101_15 (env 1) (env 5) (env 30) st := by
  refine Eq.trans (ops_cut (l1 := [15, 16, 17, 18, 19, 20]) (l2 := [21, 22, 23, 24, 25, 26, 27]) (g19e111010101_21)) ?_
  funext env st
  kernel_rfl
noncomputable def g19b111010101_9 (x1 : V) (x5 : V) (x24 : V) (st : St) : Res :=
 A.guard x24 true
 (A.faddr 3 x1 fun a1 =>
 A.load false 1 a1 st fun a2 z3 =>
 A.lenL a2 fun a4 =>
 A.bin .gtr a4 (.int .i64 0) fun a5 =>
 g19b111010101_15 x1 x5 a5 z3)
 (g19b111010101_15 x1 x5 (.bool false) st)
theorem g19e111010101_9 : (fun env st => aops Try.prog g19mu g19T 118 (rops (g19C [1, 1, 1, 0, 1, 0, 1, 0, 1])) [9, 10, 11, 12, 13, 14, 15, 16, 17, 18, 19, 20, 21, 22, 23, 24, 25, 26, 27] env st ((g19k1) .normal)) = fun env st => g19b111010101_9 (env 1) (env 5) (env 24) st := by
  refine Eq.trans (ops_cut (l1 := [9, 10, 11, 12, 13, 14]) (l2 := [15, 16, 17, 18, 19, 20, 21, 22, 23, 24, 25, 26, 27]) (g19e111010101_15)) ?_
  funext env st
  kernel_rfl
noncomputable def g19k2 : Kon := kSeq (g19X (g19C [1, 1, 1, 0, 1, 0, 1, 1, 1, 0, 1, 1, 1]) (g19k1)) (g19k1)
noncomputable def g19k3 : Kon := kBlk 1 (g19k2)
noncomputable def g19k4 (L111010111011010 : V → V → V → V → V → V → St → Res) : Kon := kSeq (fun env st => L111010111011010 (env 1) (env 3) (env 6) (env 81) (env 82) (env 83) st) (g19k3)
noncomputable def g19k5 (L111010111011010 : V → V → V → V → V → V → St → Res) : Kon := kSeq (g19X (g19C [1, 1, 1, 0, 1, 0, 1, 1, 1, 0, 1, 1, 0, 1, 0, 0, 1, 1, 1]) (g19k4 L111010111011010)) (g19k4 L111010111011010)
noncomputable def g19k6 (L111010111011010 : V → V → V → V → V → V → St → Res) : Kon := kBlk 2 (g19k5 L111010111011010)
noncomputable def g19b1110101110110100110011_18 (L111010111011010 : V → V → V → V → V → V → St → Res) (x1 : V) (x6 : V) (x8 : V) (x9 : V) (x81 : V) (x82 : V) (x83 : V) (x104 : V) (st : St) : Res :=
 A.guard x104 true
 (A.faddr 2 x8 fun a1 =>
 A.load true 3 a1 st fun a2 z3 =>
 A.ret (s43 [a2.er1, ((.int .i64 12) : V).er1, x9.er1] z3) fun a4 z5 =>
 A.bin .add x83 (.int .i64 1) fun a6 =>
 L111010111011010 x1 a4 x6 x81 x82 a6 z5)
 (A.bin .add x83 (.int .i64 1) fun a7 =>
 L111010111011010 x1 (.bool false) x6 x81 x82 a7 st)
theorem g19e1110101110110100110011_18 (L111010111011010 : V → V → V → V → V → V → St → Res) : (fun env st => aops Try.prog g19mu g19T 118 (rops (g19C [1, 1, 1, 0, 1, 0, 1, 1, 1, 0, 1, 1, 0, 1, 0, 0, 1, 1, 0, 0, 1, 1])) [18, 19, 20, 21, 22] env st ((g19k6 L111010111011010) .normal)) = fun env st => g19b1110101110110100110011_18 L111010111011010 (env 1) (env 6) (env 8) (env 9) (env 81) (env 82) (env 83) (env 104) st := by
  refine Eq.trans (Eq.refl _) ?_
  funext env st
  kernel_rfl
noncomputable def g19b1110101110110100110011_10 (L111010111011010 : V → V → V → V → V → V → St → Res) (x1 : V) (x6 : V) (x8 : V) (x9 : V) (x81 : V) (x82 : V) (x83 : V) (x96 : V) (st : St) : Res :=
 A.guard x96 true
 (A.faddr 5 x8 fun a1 =>
 A.faddr 1 a1 fun a2 =>
 A.load false 1 a2 st fun a3 z4 =>
 A.call g19T x6 [a3] z4 fun a5 z6 =>
 A.un .not a5 fun a7 =>
 g19b1110101110110100110011_18 L111010111011010 x1 x6 x8 x9 x81 x82 x83 a7 z6)
 (g19b1110101110110100110011_18 L111010111011010 x1 x6 x8 x9 x81 x82 x83 (.bool false) st)
theorem g19e1110101110110100110011_10 (L111010111011010 : V → V → V → V → V → V → St → Res) : (fun env st => aops Try.prog g19mu g19T 118 (rops (g19C [1, 1, 1, 0, 1, 0, 1, 1, 1, 0, 1, 1, 0, 1, 0, 0, 1, 1, 0, 0, 1, 1])) [10, 11, 12, 13, 14, 15, 16, 17, 18, 19, 20, 21, 22] env st ((g19k6 L111010111011010) .normal)) = fun env st => g19b1110101110110100110011_10 L111010111011010 (env 1) (env 6) (env 8) (env 9) (env 81) (env 82) (env 83) (env 96) st := by
  refine Eq.trans (ops_cut (l1 := [10, 11, 12, 13, 14, 15, 16, 17]) (l2 := [18, 19, 20, 21, 22]) (g19e1110101110110100110011_18 L111010111011010)) ?_
  funext env st
  kernel_rfl
noncomputable def g19b111010111011010 : Nat → V → V → V → V → V → V → St → Res
| 0, _, _, _, _, _, _, _ => none
| n + 1, x1, x3, x6, x81, x82, x83, st =>
 A.bin .lss x83 x82 fun a1 =>
 A.cond a1
 (A.iaddr 7 x81 x83 fun a2 =>
 A.load true 7 a2 st fun a3 z4 =>
 A.box (.agg [(.bool false), (.str []), (.int .i64 0), (.str []), (.lst [] 1), (.bool false), (.str [])]) z4 fun a5 z6 =>
 A.store 7 a5 a3 z6 fun z7 =>
 A.box (.int .i64 0) z7 fun a8 z9 =>
 A.store 1 a8 (.int .i64 24) z9 fun z10 =>
 A.guard x3 true
 (A.faddr 0 a5 fun a11 =>
 A.faddr 1 a11 fun a12 =>
 A.load false 1 a12 z10 fun a13 z14 =>
 A.call g19T x6 [a13] z14 fun a15 z16 =>
 A.un .not a15 fun a17 =>
 g19b1110101110110100110011_10 (g19b111010111011010 n) x1 x6 a5 a8 x81 x82 x83 a17 z16)
 (g19b1110101110110100110011_10 (g19b111010111011010 n) x1 x6 a5 a8 x81 x82 x83 (.bool false) z10))
 (A.guard x3 true
 (A.load true 4 x1 st fun a18 z19 =>
 A.ret (s26 [a18.er1] z19) fun a20 z21 =>
 A.eql 2 false a20 (.int .i64 0) fun a22 =>
 g19b1111 a22 z21)
 (g19b1111 (.bool false) st))
theorem g19n111010111011010 : g19C [1, 1, 1, 0, 1, 0, 1, 1, 1, 0, 1, 1, 0, 1, 0] = .loop (g19C [1, 1, 1, 0, 1, 0, 1, 1, 1, 0, 1, 1, 0, 1, 0, 0]) := by kernel_rfl
theorem g19n1110101110110100 : g19C [1, 1, 1, 0, 1, 0, 1, 1, 1, 0, 1, 1, 0, 1, 0, 0] = .seq (g19C [1, 1, 1, 0, 1, 0, 1, 1, 1, 0, 1, 1, 0, 1, 0, 0, 0]) (g19C [1, 1, 1, 0, 1, 0, 1, 1, 1, 0, 1, 1, 0, 1, 0, 0, 1]) := by kernel_rfl
theorem g19n11101011101101001 : g19C [1, 1, 1, 0, 1, 0, 1, 1, 1, 0, 1, 1, 0, 1, 0, 0, 1] = .seq (g19C [1, 1, 1, 0, 1, 0, 1, 1, 1, 0, 1, 1, 0, 1, 0, 0, 1, 0]) (g19C [1, 1, 1, 0, 1, 0, 1, 1, 1, 0, 1, 1, 0, 1, 0, 0, 1, 1]) := by kernel_rfl
theorem g19n111010111011010011 : g19C [1, 1, 1, 0, 1, 0, 1, 1, 1, 0, 1, 1, 0, 1, 0, 0, 1, 1] = .seq (g19C [1, 1, 1, 0, 1, 0, 1, 1, 1, 0, 1, 1, 0, 1, 0, 0, 1, 1, 0]) (g19C [1, 1, 1, 0, 1, 0, 1, 1, 1, 0, 1, 1, 0, 1, 0, 0, 1, 1, 1]) := by kernel_rfl
theorem g19n1110101110110100110 : g19C [1, 1, 1, 0, 1, 0, 1, 1, 1, 0, 1, 1, 0, 1, 0, 0, 1, 1, 0] = .block 2 (g19C [1, 1, 1, 0, 1, 0, 1, 1, 1, 0, 1, 1, 0, 1, 0, 0, 1, 1, 0, 0]) := by kernel_rfl
theorem g19n11101011101101001100 : g19C [1, 1, 1, 0, 1, 0, 1, 1, 1, 0, 1, 1, 0, 1, 0, 0, 1, 1, 0, 0] = .seq (g19C [1, 1, 1, 0, 1, 0, 1, 1, 1, 0, 1, 1, 0, 1, 0, 0, 1, 1, 0, 0, 0]) (g19C [1, 1, 1, 0, 1, 0, 1, 1, 1, 0, 1, 1, 0, 1, 0, 0, 1, 1, 0, 0, 1]) := by kernel_rfl
theorem g19n111010111011010011001 : g19C [1, 1, 1, 0, 1, 0, 1, 1, 1, 0, 1, 1, 0, 1, 0, 0, 1, 1, 0, 0, 1] = .seq (g19C [1, 1, 1, 0, 1, 0, 1, 1, 1, 0, 1, 1, 0, 1, 0, 0, 1, 1, 0, 0, 1, 0]) (g19C [1, 1, 1, 0, 1, 0, 1, 1, 1, 0, 1, 1, 0, 1, 0, 0, 1, 1, 0, 0, 1, 1]) := by kernel_rfl
theorem g19rg1110101110110100110011 : g19C [1, 1, 1, 0, 1, 0, 1, 1, 1, 0, 1, 1, 0, 1, 0, 0, 1, 1, 0, 0, 1, 1] = .region 14 (rops (g19C [1, 1, 1, 0, 1, 0, 1, 1, 1, 0, 1, 1, 0, 1, 0, 0, 1, 1, 0, 0, 1, 1])) false := by kernel_rfl
theorem g19rg1110101110110100110011l : List.range (rops (g19C [1, 1, 1, 0, 1, 0, 1, 1, 1, 0, 1, 1, 0, 1, 0, 0, 1, 1, 0, 0, 1, 1])).size = [0, 1, 2, 3, 4, 5, 6, 7, 8, 9] ++ [10, 11, 12, 13, 14, 15, 16, 17, 18, 19, 20, 21, 22] := by kernel_rfl
theorem g19e111010111011010 : g19X (g19C [1, 1, 1, 0, 1, 0, 1, 1, 1, 0, 1, 1, 0, 1, 0]) (g19k3) = fun env st => g19b111010111011010 big (env 1) (env 3) (env 6) (env 81) (env 82) (env 83) st := by
  have key : ∀ n, aloop (g19X (g19C [1, 1, 1, 0, 1, 0, 1, 1, 1, 0, 1, 1, 0, 1, 0, 0])) (g19k3) n = fun env st => g19b111010111011010 n (env 1) (env 3) (env 6) (env 81) (env 82) (env 83) st := by
    intro n
    induction n with
    | zero => rfl
    | succ n ih =>
      have h : aloop (g19X (g19C [1, 1, 1, 0, 1, 0, 1, 1, 1, 0, 1, 1, 0, 1, 0, 0])) (g19k3) (n + 1) = g19X (g19C [1, 1, 1, 0, 1, 0, 1, 1, 1, 0, 1, 1, 0, 1, 0, 0]) (kSeq (aloop (g19X (g19C [1, 1, 1, 0, 1, 0, 1, 1, 1, 0, 1, 1, 0, 1, 0, 0])) (g19k3) n) (g19k3)) := rfl
      rw [h, ih]
      refine Eq.trans (g19seq g19n1110101110110100 (g19seq g19n11101011101101001 ((g19seq g19n111010111011010011 rfl).trans ((g19blk g19n1110101110110100110).trans (g19seq g19n11101011101101001100 (g19seq g19n111010111011010011001 (g19reg g19rg1110101110110100110011 g19rg1110101110110100110011l (g19e1110101110110100110011_10 (g19b111010111011010 n))))))))) ?_
      funext env st
      kernel_rfl
  exact (g19loop g19n111010111011010).trans (key big)
noncomputable def g19b111010111011 (x1 : V) (x3 : V) (x4 : V) (x6 : V) (st : St) : Res :=
 A.faddr 1 x4 fun a1 =>
 A.load false 1 a1 st fun a2 z3 =>
 A.lenL a2 fun a4 =>
 g19b111010111011010 big x1 x3 x6 a2 a4 (.int .i64 0) z3
theorem g19n111010111011 : g19C [1, 1, 1, 0, 1, 0, 1, 1, 1, 0, 1, 1] = .seq (g19C [1, 1, 1, 0, 1, 0, 1, 1, 1, 0, 1, 1, 0]) (g19C [1, 1, 1, 0, 1, 0, 1, 1, 1, 0, 1, 1, 1]) := by kernel_rfl
theorem g19n1110101110110 : g19C [1, 1, 1, 0, 1, 0, 1, 1, 1, 0, 1, 1, 0] = .seq (g19C [1, 1, 1, 0, 1, 0, 1, 1, 1, 0, 1, 1, 0, 0]) (g19C [1, 1, 1, 0, 1, 0, 1, 1, 1, 0, 1, 1, 0, 1]) := by kernel_rfl
theorem g19n11101011101101 : g19C [1, 1, 1, 0, 1, 0, 1, 1, 1, 0, 1, 1, 0, 1] = .block 1 (g19C [1, 1, 1, 0, 1, 0, 1, 1, 1, 0, 1, 1, 0, 1, 0]) := by kernel_rfl
theorem g19e111010111011 : g19X (g19C [1, 1, 1, 0, 1, 0, 1, 1, 1, 0, 1, 1]) (g19k1) = fun env st => g19b111010111011 (env 1) (env 3) (env 4) (env 6) st := by
  refine Eq.trans ((g19seq g19n111010111011 rfl).trans (g19seq g19n1110101110110 ((g19blk g19n11101011101101).trans (g19e111010111011010)))) ?_
  funext env st
  kernel_rfl
noncomputable def g19k7 : Kon := kSeq (fun env st => g19b111010111011 (env 1) (env 3) (env 4) (env 6) st) (g19k1)
noncomputable def g19b111010111010_29 (x1 : V) (x4 : V) (x6 : V) (x73 : V) (st : St) : Res :=
 A.guard x73 true
 (A.faddr 0 x4 fun a1 =>
 A.load false 1 a1 st fun a2 z3 =>
 A.ret (s42 [a2.er1, x6.er1] z3) fun a4 z5 =>
 A.un .not a4 fun a6 =>
 g19b111010111011 x1 a6 x4 x6 z5)
 (g19b111010111011 x1 (.bool false) x4 x6 st)
theorem g19e111010111010_29 : (fun env st => aops Try.prog g19mu g19T 118 (rops (g19C [1, 1, 1, 0, 1, 0, 1, 1, 1, 0, 1, 0])) [29, 30, 31, 32, 33, 34, 35] env st ((g19k7) .normal)) = fun env st => g19b111010111010_29 (env 1) (env 4) (env 6) (env 73) st := by
  refine Eq.trans (Eq.refl _) ?_
  funext env st
  kernel_rfl
noncomputable def g19b111010111010_23 (x1 : V) (x4 : V) (x6 : V) (x67 : V) (st : St) : Res :=
 A.guard x67 true
 (A.faddr 1 x4 fun a1 =>
 A.load false 1 a1 st fun a2 z3 =>
 A.lenL a2 fun a4 =>
 A.bin .leq a4 (.int .i64 6) fun a5 =>
 g19b111010111010_29 x1 x4 x6 a5 z3)
 (g19b111010111010_29 x1 x4 x6 (.bool false) st)
theorem g19e111010111010_23 : (fun env st => aops Try.prog g19mu g19T 118 (rops (g19C [1, 1, 1, 0, 1, 0, 1, 1, 1, 0, 1, 0])) [23, 24, 25, 26, 27, 28, 29, 30, 31, 32, 33, 34, 35] env st ((g19k7) .normal)) = fun env st => g19b111010111010_23 (env 1) (env 4) (env 6) (env 67) st := by
  refine Eq.trans (ops_cut (l1 := [23, 24, 25, 26, 27, 28]) (l2 := [29, 30, 31, 32, 33, 34, 35]) (g19e111010111010_29)) ?_
  funext env st
  kernel_rfl
noncomputable def g19b111010111010_17 (x1 : V) (x4 : V) (x6 : V) (x61 : V) (st : St) : Res :=
 A.guard x61 true
 (A.faddr 0 x4 fun a1 =>
 A.load false 1 a1 st fun a2 z3 =>
 A.lenL a2 fun a4 =>
 A.bin .leq a4 (.int .i64 6) fun a5 =>
 g19b111010111010_23 x1 x4 x6 a5 z3)
 (g19b111010111010_23 x1 x4 x6 (.bool false) st)
theorem g19e111010111010_17 : (fun env st => aops Try.prog g19mu g19T 118 (rops (g19C [1, 1, 1, 0, 1, 0, 1, 1, 1, 0, 1, 0])) [17, 18, 19, 20, 21, 22, 23, 24, 25, 26, 27, 28, 29, 30, 31, 32, 33, 34, 35] env st ((g19k7) .normal)) = fun env st => g19b111010111010_17 (env 1) (env 4) (env 6) (env 61) st := by
  refine Eq.trans (ops_cut (l1 := [17, 18, 19, 20, 21, 22]) (l2 := [23, 24, 25, 26, 27, 28, 29, 30, 31, 32, 33, 34, 35]) (g19e111010111010_23)) ?_
  funext env st
  kernel_rfl
noncomputable def g19b111010111010_11 (x1 : V) (x4 : V) (x6 : V) (x55 : V) (st : St) : Res :=
 A.guard x55 true
 (A.faddr 1 x4 fun a1 =>
 A.load false 1 a1 st fun a2 z3 =>
 A.lenL a2 fun a4 =>
 A.bin .gtr a4 (.int .i64 0) fun a5 =>
 g19b111010111010_17 x1 x4 x6 a5 z3)
 (g19b111010111010_17 x1 x4 x6 (.bool false) st)
theorem g19e111010111010_11 : (fun env st => aops Try.prog g19mu g19T 118 (rops (g19C [1, 1, 1, 0, 1, 0, 1, 1, 1, 0, 1, 0])) [11, 12, 13, 14, 15, 16, 17, 18, 19, 20, 21, 22, 23, 24, 25, 26, 27, 28, 29, 30, 31, 32, 33, 34, 35] env st ((g19k7) .normal)) = fun env st => g19b111010111010_11 (env 1) (env 4) (env 6) (env 55) st := by
  refine Eq.trans (ops_cut (l1 := [11, 12, 13, 14, 15, 16]) (l2 := [17, 18, 19, 20, 21, 22, 23, 24, 25, 26, 27, 28, 29, 30, 31, 32, 33, 34, 35]) (g19e111010111010_17)) ?_
  funext env st
  kernel_rfl
noncomputable def g19b1110101 (x1 : V) (x3 : V) (x4 : V) (x13 : V) (x14 : V) (st : St) : Res :=
 A.cond x14
 (A.faddr 0 x4 fun a1 =>
 A.load false 1 a1 st fun a2 z3 =>
 A.lenL a2 fun a4 =>
 A.faddr 1 x4 fun a5 =>
 A.load false 1 a5 z3 fun a6 z7 =>
 A.lenL a6 fun a8 =>
 A.bin .add a4 a8 fun a9 =>
 A.eql 2 false a9 (.int .i64 0) fun a10 =>
 g19b111010101_9 x1 (.fn 38 [] []) a10 z7)
 (A.eql 2 false x13 (.int .i64 1) fun a11 =>
 A.cond a11
 (A.faddr 3 x1 fun a12 =>
 A.load false 1 a12 st fun a13 z14 =>
 A.lenL a13 fun a15 =>
 A.eql 2 false a15 (.int .i64 0) fun a16 =>
 A.guard a16 true
 (A.faddr 0 x4 fun a17 =>
 A.load false 1 a17 z14 fun a18 z19 =>
 A.lenL a18 fun a20 =>
 A.bin .gtr a20 (.int .i64 0) fun a21 =>
 g19b111010111010_11 x1 x4 (.fn 41 [] []) a21 z19)
 (g19b111010111010_11 x1 x4 (.fn 41 [] []) (.bool false) z14))
 (g19b1111 x3 st))
theorem g19n1110101 : g19C [1, 1, 1, 0, 1, 0, 1] = .cond (.tmp 14) (g19C [1, 1, 1, 0, 1, 0, 1, 0]) (g19C [1, 1, 1, 0, 1, 0, 1, 1]) := by kernel_rfl
theorem g19n11101010 : g19C [1, 1, 1, 0, 1, 0, 1, 0] = .seq (g19C [1, 1, 1, 0, 1, 0, 1, 0, 0]) (g19C [1, 1, 1, 0, 1, 0, 1, 0, 1]) := by kernel_rfl
theorem g19rg111010101 : g19C [1, 1, 1, 0, 1, 0, 1, 0, 1] = .region 6 (rops (g19C [1, 1, 1, 0, 1, 0, 1, 0, 1])) false := by kernel_rfl
theorem g19rg111010101l : List.range (rops (g19C [1, 1, 1, 0, 1, 0, 1, 0, 1])).size = [0, 1, 2, 3, 4, 5, 6, 7, 8] ++ [9, 10, 11, 12, 13, 14, 15, 16, 17, 18, 19, 20, 21, 22, 23, 24, 25, 26, 27] := by kernel_rfl
theorem g19n11101011 : g19C [1, 1, 1, 0, 1, 0, 1, 1] = .seq (g19C [1, 1, 1, 0, 1, 0, 1, 1, 0]) (g19C [1, 1, 1, 0, 1, 0, 1, 1, 1]) := by kernel_rfl
theorem g19n111010111 : g19C [1, 1, 1, 0, 1, 0, 1, 1, 1] = .cond (.tmp 43) (g19C [1, 1, 1, 0, 1, 0, 1, 1, 1, 0]) (g19C [1, 1, 1, 0, 1, 0, 1, 1, 1, 1]) := by kernel_rfl
theorem g19n1110101110 : g19C [1, 1, 1, 0, 1, 0, 1, 1, 1, 0] = .seq (g19C [1, 1, 1, 0, 1, 0, 1, 1, 1, 0, 0]) (g19C [1, 1, 1, 0, 1, 0, 1, 1, 1, 0, 1]) := by kernel_rfl
theorem g19n11101011101 : g19C [1, 1, 1, 0, 1, 0, 1, 1, 1, 0, 1] = .seq (g19C [1, 1, 1, 0, 1, 0, 1, 1, 1, 0, 1, 0]) (g19C [1, 1, 1, 0, 1, 0, 1, 1, 1, 0, 1, 1]) := by kernel_rfl
theorem g19rg111010111010 : g19C [1, 1, 1, 0, 1, 0, 1, 1, 1, 0, 1, 0] = .region 9 (rops (g19C [1, 1, 1, 0, 1, 0, 1, 1, 1, 0, 1, 0])) false := by kernel_rfl
theorem g19rg111010111010l : List.range (rops (g19C [1, 1, 1, 0, 1, 0, 1, 1, 1, 0, 1, 0])).size = [0, 1, 2, 3, 4, 5, 6, 7, 8, 9, 10] ++ [11, 12, 13, 14, 15, 16, 17, 18, 19, 20, 21, 22, 23, 24, 25, 26, 27, 28, 29, 30, 31, 32, 33, 34, 35] := by kernel_rfl
theorem g19e1110101 : g19X (g19C [1, 1, 1, 0, 1, 0, 1]) (g19k1) = fun env st => g19b1110101 (env 1) (env 3) (env 4) (env 13) (env 14) st := by
  refine Eq.trans (g19cond g19n1110101 (g19seq g19n11101010 (g19reg g19rg111010101 g19rg111010101l (g19e111010101_9))) (g19seq g19n11101011 (g19cond g19n111010111 (g19seq g19n1110101110 ((g19seq g19n11101011101 (g19e111010111011)).trans (g19reg g19rg111010111010 g19rg111010111010l (g19e111010111010_11)))) rfl))) ?_
  funext env st
  kernel_rfl
noncomputable def f19 (x0 : V) (st : St) : Res :=
 A.box x0 st fun a1 z2 =>
 A.faddr 1 a1 fun a3 =>
 A.load true 2 a3 z2 fun a4 z5 =>
 A.box (.agg [(.lst [] 1), (.lst [] 1)]) z5 fun a6 z7 =>
 A.store 2 a6 a4 z7 fun z8 =>
 A.faddr 0 a1 fun a9 =>
 A.load false 1 a9 z8 fun a10 z11 =>
 A.eql 2 false a10 (.int .i64 2) fun a12 =>
 g19b1110101 a1 (.bool false) a6 a10 a12 z11
theorem g19nr : g19C [] = .seq (g19C [0]) (g19C [1]) := by kernel_rfl
theorem g19n1 : g19C [1] = .seq (g19C [1, 0]) (g19C [1, 1]) := by kernel_rfl
theorem g19n11 : g19C [1, 1] = .seq (g19C [1, 1, 0]) (g19C [1, 1, 1]) := by kernel_rfl
theorem g19n111 : g19C [1, 1, 1] = .seq (g19C [1, 1, 1, 0]) (g19C [1, 1, 1, 1]) := by kernel_rfl
theorem g19n1110 : g19C [1, 1, 1, 0] = .seq (g19C [1, 1, 1, 0, 0]) (g19C [1, 1, 1, 0, 1]) := by kernel_rfl
theorem g19n11101 : g19C [1, 1, 1, 0, 1] = .block 0 (g19C [1, 1, 1, 0, 1, 0]) := by kernel_rfl
theorem g19n111010 : g19C [1, 1, 1, 0, 1, 0] = .seq (g19C [1, 1, 1, 0, 1, 0, 0]) (g19C [1, 1, 1, 0, 1, 0, 1]) := by kernel_rfl
theorem g19er (env : Env) (st : St) : g19X (g19C []) g19kr env st = f19 (env 0) st := by
  rw [(g19seq g19nr (g19seq g19n1 (g19seq g19n11 ((g19seq g19n111 (g19e1111)).trans (g19seq g19n1110 ((g19blk g19n11101).trans (g19seq g19n111010 (g19e1110101))))))))]
  kernel_rfl
theorem s19_eq (x0 : V) (st : St) : s19 [x0] st = fg (f19 x0 st) st := by
  have h : afn Try.prog g19mu g19T big (areg Try.prog g19mu g19T) 19 [x0] st = g19X (g19C []) g19kr (fun t => [x0].getD t (.tup [])) st := by kernel_rfl
  rw [s19, sealF_eq]
  show fg _ st = fg _ st
  refine congrArg (fun r => fg r st) ?_
  exact h.trans (g19er _ st)
/-! sinew/query.named -/
def g33mu : Nat → Bool := fun _ => false
noncomputable def g33T : Tbl := tget []
theorem g33t : SimT Try.prog g33T := simT_nil
noncomputable def s33 : Fn := sealF (afn Try.prog g33mu g33T big (areg Try.prog g33mu g33T) 33)
theorem sim33 : Sim Try.prog 33 s33 := (afn_sim g33t (fun m => areg_sound g33t hmix m) 33 (by kernel_rfl)).sealed
noncomputable def f33 (x0 : V) (st : St) : Res :=
 A.box x0 st fun a1 z2 =>
 A.faddr 0 a1 fun a3 =>
 A.load false 1 a3 z2 fun a4 z5 =>
 A.cond a4
 (A.faddr 1 a1 fun a6 =>
 A.load false 1 a6 z5 fun a7 z8 =>
 A.bin .add (.str [63]) a7 fun a9 =>
 some (.ret a9.er1, z8))
 (A.faddr 1 a1 fun a10 =>
 A.load false 1 a10 z5 fun a11 z12 =>
 some (.ret a11.er1, z12))
theorem s33_eq (x0 : V) (st : St) : s33 [x0] st = f33 x0 st := by
  rw [s33, sealF_eq]
  kernel_rfl
/-! slices.Index[[]int,int] -/
def g90mu : Nat → Bool := fun _ => false
noncomputable def g90T : Tbl := tget []
theorem g90t : SimT Try.prog g90T := simT_nil
noncomputable def s90 : Fn := sealF (afn Try.prog g90mu g90T big (areg Try.prog g90mu g90T) 90)
theorem sim90 : Sim Try.prog 90 s90 := (afn_sim g90t (fun m => areg_sound g90t hmix m) 90 (by kernel_rfl)).sealed
noncomputable def g90C (p : List Nat) : Code := sub (match Try.f90.body with | some c => c | none => .skip) p
noncomputable def g90X (c : Code) (K : Kon) : Env → St → Res := aexec Try.prog g90mu g90T big 19 (areg Try.prog g90mu g90T 19) c K
noncomputable def g90kr : Kon := aresK Try.prog Try.f90.results.toList
theorem g90reg {c : Code} {K : Kon} {G : Env → St → Res} {id : Nat} {ops : Array Oper} {l1 l2 : List Nat} (hc : c = .region id ops false) (hl : List.range ops.size = l1 ++ l2) (h : (fun env st => aops Try.prog g90mu g90T 19 ops l2 env st (K .normal)) = G) : g90X c K = fun env st => aops Try.prog g90mu g90T 19 ops l1 env st G := reg_cut hc hl h
theorem g90seq {c x y : Code} {K : Kon} {G : Env → St → Res} (hc : c = .seq x y) (hy : g90X y K = G) : g90X c K = g90X x (kSeq G K) := seq_cut hc hy
theorem g90blk {c x : Code} {K : Kon} {i : Nat} (hc : c = .block i x) : g90X c K = g90X x (kBlk i K) := blk_cut hc
theorem g90loop {c x : Code} {K : Kon} (hc : c = .loop x) : g90X c K = aloop (g90X x) K big := loop_cut hc
theorem g90cond {c x y : Code} {K : Kon} {v : Operand} {F G : Env → St → Res} (hc : c = .cond v x y) (hx : g90X x K = F) (hy : g90X y K = G) : g90X c K = condF v F G := cond_cut hc hx hy
noncomputable def g90k0 : Kon := kSeq (g90X (g90C [1, 1]) (g90kr)) (g90kr)
noncomputable def g90k1 : Kon := kBlk 0 (g90k0)
noncomputable def g90b1010 : Nat → V → V → V → V → St → Res
| 0, _, _, _, _, _ => none
| n + 1, x0, x1, x7, x8, st =>
 A.bin .lss x8 x7 fun a1 =>
 A.cond a1
 (A.iaddr 1 x0 x8 fun a2 =>
 A.load false 1 a2 st fun a3 z4 =>
 A.eql 2 false x1 a3 fun a5 =>
 A.cond a5
 (some (.ret x8.er1, z4))
 (A.bin .add x8 (.int .i64 1) fun a6 =>
 (g90b1010 n) x0 x1 x7 a6 z4))
 (some (.ret ((.int .i64 (-1)) : V).er1, st))
theorem g90n1010 : g90C [1, 0, 1, 0] = .loop (g90C [1, 0, 1, 0, 0]) := by kernel_rfl
noncomputable def g90k2 (L1010 : V → V → V → V → St → Res) : Kon := kSeq (fun env st => L1010 (env 0) (env 1) (env 7) (env 8) st) (g90k1)
theorem g90e1010 : g90X (g90C [1, 0, 1, 0]) (g90k1) = fun env st => g90b1010 big (env 0) (env 1) (env 7) (env 8) st := by
  have key : ∀ n, aloop (g90X (g90C [1, 0, 1, 0, 0])) (g90k1) n = fun env st => g90b1010 n (env 0) (env 1) (env 7) (env 8) st := by
    intro n
    induction n with
    | zero => rfl
    | succ n ih =>
      have h : aloop (g90X (g90C [1, 0, 1, 0, 0])) (g90k1) (n + 1) = g90X (g90C [1, 0, 1, 0, 0]) (kSeq (aloop (g90X (g90C [1, 0, 1, 0, 0])) (g90k1) n) (g90k1)) := rfl
      rw [h, ih]
      refine Eq.trans (Eq.refl _) ?_
      funext env st
      kernel_rfl
  exact (g90loop g90n1010).trans (key big)
noncomputable def f90 (x0 : V) (x1 : V) (st : St) : Res :=
 A.lenL x0 fun a1 =>
 g90b1010 big x0 x1 a1 (.int .i64 0) st
theorem g90nr : g90C [] = .seq (g90C [0]) (g90C [1]) := by kernel_rfl
theorem g90n1 : g90C [1] = .seq (g90C [1, 0]) (g90C [1, 1]) := by kernel_rfl
theorem g90n10 : g90C [1, 0] = .seq (g90C [1, 0, 0]) (g90C [1, 0, 1]) := by kernel_rfl
theorem g90n101 : g90C [1, 0, 1] = .block 0 (g90C [1, 0, 1, 0]) := by kernel_rfl
theorem g90er (env : Env) (st : St) : g90X (g90C []) g90kr env st = f90 (env 0) (env 1) st := by
  rw [(g90seq g90nr ((g90seq g90n1 rfl).trans (g90seq g90n10 ((g90blk g90n101).trans (g90e1010)))))]
  kernel_rfl
theorem s90_eq (x0 : V) (x1 : V) (st : St) : s90 [x0, x1] st = f90 x0 x1 st := by
  have h : afn Try.prog g90mu g90T big (areg Try.prog g90mu g90T) 90 [x0, x1] st = g90X (g90C []) g90kr (fun t => [x0, x1].getD t (.tup [])) st := by kernel_rfl
  rw [s90, sealF_eq]
  exact h.trans (g90er _ st)
/-! slices.Contains[[]int,int] -/
def g68mu : Nat → Bool := fun _ => false
noncomputable def g68T : Tbl := tget [(90, s90)]
theorem g68t : SimT Try.prog g68T := simT_cons sim90 (simT_nil)
noncomputable def s68 : Fn := sealF (afn Try.prog g68mu g68T big (areg Try.prog g68mu g68T) 68)
theorem sim68 : Sim Try.prog 68 s68 := (afn_sim g68t (fun m => areg_sound g68t hmix m) 68 (by kernel_rfl)).sealed
noncomputable def f68 (x0 : V) (x1 : V) (st : St) : Res :=
 A.ret (s90 [x0.er1, x1.er1] st) fun a1 z2 =>
 A.bin .geq a1 (.int .i64 0) fun a3 =>
 some (.ret a3.er1, z2)
theorem s68_eq (x0 : V) (x1 : V) (st : St) : s68 [x0, x1] st = f68 x0 x1 st := by
  rw [s68, sealF_eq]
  kernel_rfl
/-! sinew/query.text -/
def g34mu : Nat → Bool := fun _ => false
noncomputable def g34T (R : Nat → Fn) : Tbl := tget [(67, R 67), (32, s32)]
theorem g34t (R : Nat → Fn) (hR : ∀ j, j ∈ [34, 67] → Sim Try.prog j (R j)) : SimT Try.prog (g34T R) := simT_cons (hR 67 (by decide)) ( simT_cons sim32 (simT_nil))
noncomputable def g34C (p : List Nat) : Code := sub (match Try.f34.body with | some c => c | none => .skip) p
noncomputable def g34X (R : Nat → Fn) (c : Code) (K : Kon) : Env → St → Res := aexec Try.prog g34mu (g34T R) big 68 (areg Try.prog g34mu (g34T R) 68) c K
noncomputable def g34kr (R : Nat → Fn) : Kon := aresK Try.prog Try.f34.results.toList
theorem g34reg (R : Nat → Fn) {c : Code} {K : Kon} {G : Env → St → Res} {id : Nat} {ops : Array Oper} {l1 l2 : List Nat} (hc : c = .region id ops false) (hl : List.range ops.size = l1 ++ l2) (h : (fun env st => aops Try.prog g34mu (g34T R) 68 ops l2 env st (K .normal)) = G) : (g34X R) c K = fun env st => aops Try.prog g34mu (g34T R) 68 ops l1 env st G := reg_cut hc hl h
theorem g34seq (R : Nat → Fn) {c x y : Code} {K : Kon} {G : Env → St → Res} (hc : c = .seq x y) (hy : (g34X R) y K = G) : (g34X R) c K = (g34X R) x (kSeq G K) := seq_cut hc hy
theorem g34blk (R : Nat → Fn) {c x : Code} {K : Kon} {i : Nat} (hc : c = .block i x) : (g34X R) c K = (g34X R) x (kBlk i K) := blk_cut hc
theorem g34loop (R : Nat → Fn) {c x : Code} {K : Kon} (hc : c = .loop x) : (g34X R) c K = aloop ((g34X R) x) K big := loop_cut hc
theorem g34cond (R : Nat → Fn) {c x y : Code} {K : Kon} {v : Operand} {F G : Env → St → Res} (hc : c = .cond v x y) (hx : (g34X R) x K = F) (hy : (g34X R) y K = G) : (g34X R) c K = condF v F G := cond_cut hc hx hy
noncomputable def g34b1111 (R : Nat → Fn) (x1 : V) (x3 : V) (st : St) : Res :=
 A.mkmap st fun a1 z2 =>
 A.mapUpdK (keyB Try.prog 3 (.int .i64 4)) a1 (.int .i64 4) (.str [42]) z2 fun z3 =>
 A.mapUpdK (keyB Try.prog 3 (.int .i64 5)) a1 (.int .i64 5) (.str [43]) z3 fun z4 =>
 A.mapUpdK (keyB Try.prog 3 (.int .i64 6)) a1 (.int .i64 6) (.str [63]) z4 fun z5 =>
 A.faddr 0 x1 fun a6 =>
 A.load false 1 a6 z5 fun a7 z8 =>
 A.lookupK (keyB Try.prog 3 a7) (.str []) false a1 a7 z8 fun a9 =>
 A.faddr 2 x1 fun a10 =>
 A.load false 1 a10 z8 fun a11 z12 =>
 A.iaddr 3 a11 (.int .i64 0) fun a13 =>
 A.load true 3 a13 z12 fun a14 z15 =>
 A.bslice 1 (.int .i64 0) 5 [(0, (.int .i64 3)), (1, (.int .i64 2)), (2, (.int .i64 4)), (3, (.int .i64 5)), (4, (.int .i64 6))] fun a16 =>
 A.call (g34T R) x3 [a14, a16] z15 fun a17 z18 =>
 A.bin .add a17 a9 fun a19 =>
 some (.ret a19.er1, z18)
theorem g34e1111 (R : Nat → Fn) : (g34X R) (g34C [1, 1, 1, 1]) ((g34kr R)) = fun env st => (g34b1111 R) (env 1) (env 3) st := by
  refine Eq.trans (Eq.refl ((g34X R) (g34C [1, 1, 1, 1]) ((g34kr R)))) ?_
  funext env st
  kernel_rfl
noncomputable def g34k0 (R : Nat → Fn) : Kon := kSeq (fun env st => (g34b1111 R) (env 1) (env 3) st) ((g34kr R))
noncomputable def g34k1 (R : Nat → Fn) : Kon := kBlk 0 ((g34k0 R))
noncomputable def g34k2 (R : Nat → Fn) : Kon := kSeq ((g34X R) (g34C [1, 1, 1, 0, 1, 0, 1, 1, 1, 0, 1]) ((g34k1 R))) ((g34k1 R))
noncomputable def g34k3 (R : Nat → Fn) : Kon := kBlk 1 ((g34k2 R))
noncomputable def g34b1110101110010 (R : Nat → Fn) : Nat → V → V → V → V → V → St → Res
| 0, _, _, _, _, _, _ => none
| n + 1, x3, x4, x19, x20, x21, st =>
 A.bin .lss x21 x20 fun a1 =>
 A.cond a1
 (A.iaddr 3 x19 x21 fun a2 =>
 A.load true 3 a2 st fun a3 z4 =>
 A.box (.agg [(.int .i64 0), (.str []), (.lst [] 1)]) z4 fun a5 z6 =>
 A.store 3 a5 a3 z6 fun z7 =>
 A.load true 3 a5 z7 fun a8 z9 =>
 A.bslice 1 (.int .i64 0) 1 [(0, (.int .i64 3))] fun a10 =>
 A.call (g34T R) x3 [a8, a10] z9 fun a11 z12 =>
 A.bslice 1 (.str []) 1 [(0, a11)] fun a13 =>
 A.app 1 x4 (elemsOf 5 1 a13 z12) z12 fun a14 z15 =>
 A.bin .add x21 (.int .i64 1) fun a16 =>
 ((g34b1110101110010 R) n) x3 a14 x19 x20 a16 z15)
 (A.ret (s32 [x4.er1, ((.str [124]) : V).er1] st) fun a17 z18 =>
 some (.ret a17.er1, z18))
theorem g34n1110101110010 : g34C [1, 1, 1, 0, 1, 0, 1, 1, 1, 0, 0, 1, 0] = .loop (g34C [1, 1, 1, 0, 1, 0, 1, 1, 1, 0, 0, 1, 0, 0]) := by kernel_rfl
noncomputable def g34k4 (R : Nat → Fn) (L1110101110010 : V → V → V → V → V → St → Res) : Kon := kSeq (fun env st => L1110101110010 (env 3) (env 4) (env 19) (env 20) (env 21) st) ((g34k3 R))
theorem g34e1110101110010 (R : Nat → Fn) : (g34X R) (g34C [1, 1, 1, 0, 1, 0, 1, 1, 1, 0, 0, 1, 0]) ((g34k3 R)) = fun env st => (g34b1110101110010 R) big (env 3) (env 4) (env 19) (env 20) (env 21) st := by
  have key : ∀ n, aloop ((g34X R) (g34C [1, 1, 1, 0, 1, 0, 1, 1, 1, 0, 0, 1, 0, 0])) ((g34k3 R)) n = fun env st => (g34b1110101110010 R) n (env 3) (env 4) (env 19) (env 20) (env 21) st := by
    intro n
    induction n with
    | zero => rfl
    | succ n ih =>
      have h : aloop ((g34X R) (g34C [1, 1, 1, 0, 1, 0, 1, 1, 1, 0, 0, 1, 0, 0])) ((g34k3 R)) (n + 1) = (g34X R) (g34C [1, 1, 1, 0, 1, 0, 1, 1, 1, 0, 0, 1, 0, 0]) (kSeq (aloop ((g34X R) (g34C [1, 1, 1, 0, 1, 0, 1, 1, 1, 0, 0, 1, 0, 0])) ((g34k3 R)) n) ((g34k3 R))) := rfl
      rw [h, ih]
      refine Eq.trans (Eq.refl _) ?_
      funext env st
      kernel_rfl
  exact ((g34loop R) g34n1110101110010).trans (key big)
noncomputable def g34b111010111001 (R : Nat → Fn) (x3 : V) (x4 : V) (x19 : V) (x20 : V) (x21 : V) (st : St) : Res :=
 (g34b1110101110010 R) big x3 x4 x19 x20 x21 st
theorem g34n111010111001 : g34C [1, 1, 1, 0, 1, 0, 1, 1, 1, 0, 0, 1] = .block 1 (g34C [1, 1, 1, 0, 1, 0, 1, 1, 1, 0, 0, 1, 0]) := by kernel_rfl
theorem g34e111010111001 (R : Nat → Fn) : (g34X R) (g34C [1, 1, 1, 0, 1, 0, 1, 1, 1, 0, 0, 1]) ((g34k2 R)) = fun env st => (g34b111010111001 R) (env 3) (env 4) (env 19) (env 20) (env 21) st := by
  refine Eq.trans (((g34blk R) g34n111010111001).trans ((g34e1110101110010 R))) ?_
  funext env st
  kernel_rfl
noncomputable def g34k5 (R : Nat → Fn) : Kon := kSeq ((g34X R) (g34C [1, 1, 1, 0, 1, 0, 1, 1, 1, 1, 1, 0, 1]) ((g34k1 R))) ((g34k1 R))
noncomputable def g34k6 (R : Nat → Fn) : Kon := kBlk 3 ((g34k5 R))
noncomputable def g34b111010111110010 (R : Nat → Fn) : Nat → V → V → V → V → V → St → Res
| 0, _, _, _, _, _, _ => none
| n + 1, x3, x4, x38, x39, x40, st =>
 A.bin .lss x40 x39 fun a1 =>
 A.cond a1
 (A.iaddr 3 x38 x40 fun a2 =>
 A.load true 3 a2 st fun a3 z4 =>
 A.box (.agg [(.int .i64 0), (.str []), (.lst [] 1)]) z4 fun a5 z6 =>
 A.store 3 a5 a3 z6 fun z7 =>
 A.load true 3 a5 z7 fun a8 z9 =>
 A.bslice 1 (.int .i64 0) 2 [(0, (.int .i64 3)), (1, (.int .i64 2))] fun a10 =>
 A.call (g34T R) x3 [a8, a10] z9 fun a11 z12 =>
 A.bslice 1 (.str []) 1 [(0, a11)] fun a13 =>
 A.app 1 x4 (elemsOf 5 1 a13 z12) z12 fun a14 z15 =>
 A.bin .add x40 (.int .i64 1) fun a16 =>
 ((g34b111010111110010 R) n) x3 a14 x38 x39 a16 z15)
 (A.ret (s32 [x4.er1, ((.str [47]) : V).er1] st) fun a17 z18 =>
 some (.ret a17.er1, z18))
theorem g34n111010111110010 : g34C [1, 1, 1, 0, 1, 0, 1, 1, 1, 1, 1, 0, 0, 1, 0] = .loop (g34C [1, 1, 1, 0, 1, 0, 1, 1, 1, 1, 1, 0, 0, 1, 0, 0]) := by kernel_rfl
noncomputable def g34k7 (R : Nat → Fn) (L111010111110010 : V → V → V → V → V → St → Res) : Kon := kSeq (fun env st => L111010111110010 (env 3) (env 4) (env 38) (env 39) (env 40) st) ((g34k6 R))
theorem g34e111010111110010 (R : Nat → Fn) : (g34X R) (g34C [1, 1, 1, 0, 1, 0, 1, 1, 1, 1, 1, 0, 0, 1, 0]) ((g34k6 R)) = fun env st => (g34b111010111110010 R) big (env 3) (env 4) (env 38) (env 39) (env 40) st := by
  have key : ∀ n, aloop ((g34X R) (g34C [1, 1, 1, 0, 1, 0, 1, 1, 1, 1, 1, 0, 0, 1, 0, 0])) ((g34k6 R)) n = fun env st => (g34b111010111110010 R) n (env 3) (env 4) (env 38) (env 39) (env 40) st := by
    intro n
    induction n with
    | zero => rfl
    | succ n ih =>
      have h : aloop ((g34X R) (g34C [1, 1, 1, 0, 1, 0, 1, 1, 1, 1, 1, 0, 0, 1, 0, 0])) ((g34k6 R)) (n + 1) = (g34X R) (g34C [1, 1, 1, 0, 1, 0, 1, 1, 1, 1, 1, 0, 0, 1, 0, 0]) (kSeq (aloop ((g34X R) (g34C [1, 1, 1, 0, 1, 0, 1, 1, 1, 1, 1, 0, 0, 1, 0, 0])) ((g34k6 R)) n) ((g34k6 R))) := rfl
      rw [h, ih]
      refine Eq.trans (Eq.refl _) ?_
      funext env st
      kernel_rfl
  exact ((g34loop R) g34n111010111110010).trans (key big)
noncomputable def g34b11101011111 (R : Nat → Fn) (x1 : V) (x3 : V) (x4 : V) (x35 : V) (st : St) : Res :=
 A.cond x35
 (A.faddr 2 x1 fun a1 =>
 A.load false 1 a1 st fun a2 z3 =>
 A.lenL a2 fun a4 =>
 (g34b111010111110010 R) big x3 x4 a2 a4 (.int .i64 0) z3)
 ((g34b1111 R) x1 x3 st)
theorem g34n11101011111 : g34C [1, 1, 1, 0, 1, 0, 1, 1, 1, 1, 1] = .cond (.tmp 35) (g34C [1, 1, 1, 0, 1, 0, 1, 1, 1, 1, 1, 0]) (g34C [1, 1, 1, 0, 1, 0, 1, 1, 1, 1, 1, 1]) := by kernel_rfl
theorem g34n111010111110 : g34C [1, 1, 1, 0, 1, 0, 1, 1, 1, 1, 1, 0] = .seq (g34C [1, 1, 1, 0, 1, 0, 1, 1, 1, 1, 1, 0, 0]) (g34C [1, 1, 1, 0, 1, 0, 1, 1, 1, 1, 1, 0, 1]) := by kernel_rfl
theorem g34n1110101111100 : g34C [1, 1, 1, 0, 1, 0, 1, 1, 1, 1, 1, 0, 0] = .seq (g34C [1, 1, 1, 0, 1, 0, 1, 1, 1, 1, 1, 0, 0, 0]) (g34C [1, 1, 1, 0, 1, 0, 1, 1, 1, 1, 1, 0, 0, 1]) := by kernel_rfl
theorem g34n11101011111001 : g34C [1, 1, 1, 0, 1, 0, 1, 1, 1, 1, 1, 0, 0, 1] = .block 3 (g34C [1, 1, 1, 0, 1, 0, 1, 1, 1, 1, 1, 0, 0, 1, 0]) := by kernel_rfl
theorem g34e11101011111 (R : Nat → Fn) : (g34X R) (g34C [1, 1, 1, 0, 1, 0, 1, 1, 1, 1, 1]) ((g34k1 R)) = fun env st => (g34b11101011111 R) (env 1) (env 3) (env 4) (env 35) st := by
  refine Eq.trans ((g34cond R) g34n11101011111 (((g34seq R) g34n111010111110 rfl).trans ((g34seq R) g34n1110101111100 (((g34blk R) g34n11101011111001).trans ((g34e111010111110010 R))))) rfl) ?_
  funext env st
  kernel_rfl
noncomputable def f34 (R : Nat → Fn) (x0 : V) (st : St) : Res :=
 A.box x0 st fun a1 z2 =>
 A.faddr 0 a1 fun a3 =>
 A.load false 1 a3 z2 fun a4 z5 =>
 A.eql 2 false a4 (.int .i64 1) fun a6 =>
 A.cond a6
 (A.faddr 1 a1 fun a7 =>
 A.load false 1 a7 z5 fun a8 z9 =>
 some (.ret a8.er1, z9))
 (A.eql 2 false a4 (.int .i64 3) fun a10 =>
 A.cond a10
 (A.faddr 2 a1 fun a11 =>
 A.load false 1 a11 z5 fun a12 z13 =>
 A.lenL a12 fun a14 =>
 (g34b111010111001 R) (.fn 67 [] []) (.lst [] 1) a12 a14 (.int .i64 0) z13)
 (A.eql 2 false a4 (.int .i64 2) fun a15 =>
 (g34b11101011111 R) a1 (.fn 67 [] []) (.lst [] 1) a15 z5))
theorem g34nr : g34C [] = .seq (g34C [0]) (g34C [1]) := by kernel_rfl
theorem g34n1 : g34C [1] = .seq (g34C [1, 0]) (g34C [1, 1]) := by kernel_rfl
theorem g34n11 : g34C [1, 1] = .seq (g34C [1, 1, 0]) (g34C [1, 1, 1]) := by kernel_rfl
theorem g34n111 : g34C [1, 1, 1] = .seq (g34C [1, 1, 1, 0]) (g34C [1, 1, 1, 1]) := by kernel_rfl
theorem g34n1110 : g34C [1, 1, 1, 0] = .seq (g34C [1, 1, 1, 0, 0]) (g34C [1, 1, 1, 0, 1]) := by kernel_rfl
theorem g34n11101 : g34C [1, 1, 1, 0, 1] = .block 0 (g34C [1, 1, 1, 0, 1, 0]) := by kernel_rfl
theorem g34n111010 : g34C [1, 1, 1, 0, 1, 0] = .seq (g34C [1, 1, 1, 0, 1, 0, 0]) (g34C [1, 1, 1, 0, 1, 0, 1]) := by kernel_rfl
theorem g34n1110101 : g34C [1, 1, 1, 0, 1, 0, 1] = .cond (.tmp 12) (g34C [1, 1, 1, 0, 1, 0, 1, 0]) (g34C [1, 1, 1, 0, 1, 0, 1, 1]) := by kernel_rfl
theorem g34n11101011 : g34C [1, 1, 1, 0, 1, 0, 1, 1] = .seq (g34C [1, 1, 1, 0, 1, 0, 1, 1, 0]) (g34C [1, 1, 1, 0, 1, 0, 1, 1, 1]) := by kernel_rfl
theorem g34n111010111 : g34C [1, 1, 1, 0, 1, 0, 1, 1, 1] = .cond (.tmp 16) (g34C [1, 1, 1, 0, 1, 0, 1, 1, 1, 0]) (g34C [1, 1, 1, 0, 1, 0, 1, 1, 1, 1]) := by kernel_rfl
theorem g34n1110101110 : g34C [1, 1, 1, 0, 1, 0, 1, 1, 1, 0] = .seq (g34C [1, 1, 1, 0, 1, 0, 1, 1, 1, 0, 0]) (g34C [1, 1, 1, 0, 1, 0, 1, 1, 1, 0, 1]) := by kernel_rfl
theorem g34n11101011100 : g34C [1, 1, 1, 0, 1, 0, 1, 1, 1, 0, 0] = .seq (g34C [1, 1, 1, 0, 1, 0, 1, 1, 1, 0, 0, 0]) (g34C [1, 1, 1, 0, 1, 0, 1, 1, 1, 0, 0, 1]) := by kernel_rfl
theorem g34n1110101111 : g34C [1, 1, 1, 0, 1, 0, 1, 1, 1, 1] = .seq (g34C [1, 1, 1, 0, 1, 0, 1, 1, 1, 1, 0]) (g34C [1, 1, 1, 0, 1, 0, 1, 1, 1, 1, 1]) := by kernel_rfl
theorem g34er (R : Nat → Fn) (env : Env) (st : St) : (g34X R) (g34C []) (g34kr R) env st = (f34 R) (env 0) st := by
  rw [((g34seq R) g34nr ((g34seq R) g34n1 ((g34seq R) g34n11 (((g34seq R) g34n111 ((g34e1111 R))).trans ((g34seq R) g34n1110 (((g34blk R) g34n11101).trans ((g34seq R) g34n111010 ((g34cond R) g34n1110101 rfl ((g34seq R) g34n11101011 ((g34cond R) g34n111010111 (((g34seq R) g34n1110101110 rfl).trans ((g34seq R) g34n11101011100 ((g34e111010111001 R)))) ((g34seq R) g34n1110101111 ((g34e11101011111 R)))))))))))))]
  kernel_rfl
theorem s34R_eq (R : Nat → Fn) (x0 : V) (st : St) : afn Try.prog g34mu (g34T R) big (areg Try.prog g34mu (g34T R)) 34 [x0] st = (f34 R) x0 st := by
  have h : afn Try.prog g34mu (g34T R) big (areg Try.prog g34mu (g34T R)) 34 [x0] st = (g34X R) (g34C []) (g34kr R) (fun t => [x0].getD t (.tup [])) st := by kernel_rfl
  exact h.trans ((g34er R) _ st)
/-! sinew/query.text$1 -/
def g67mu : Nat → Bool := fun _ => false
noncomputable def g67T (R : Nat → Fn) : Tbl := tget [(34, R 34), (68, s68)]
theorem g67t (R : Nat → Fn) (hR : ∀ j, j ∈ [34, 67] → Sim Try.prog j (R j)) : SimT Try.prog (g67T R) := simT_cons (hR 34 (by decide)) ( simT_cons sim68 (simT_nil))
noncomputable def f67 (R : Nat → Fn) (x0 : V) (x1 : V) (st : St) : Res :=
 A.box x0 st fun a1 z2 =>
 A.faddr 0 a1 fun a3 =>
 A.load false 1 a3 z2 fun a4 z5 =>
 A.ret (s68 [x1.er1, a4.er1] z5) fun a6 z7 =>
 A.cond a6
 (A.load true 3 a1 z7 fun a8 z9 =>
 A.ret (R 34 [a8.er1] z9) fun a10 z11 =>
 A.bin .add (.str [40]) a10 fun a12 =>
 A.bin .add a12 (.str [41]) fun a13 =>
 some (.ret a13.er1, z11))
 (A.load true 3 a1 z7 fun a14 z15 =>
 A.ret (R 34 [a14.er1] z15) fun a16 z17 =>
 some (.ret a16.er1, z17))
theorem s67R_eq (R : Nat → Fn) (x0 : V) (x1 : V) (st : St) : afn Try.prog g67mu (g67T R) big (areg Try.prog g67mu (g67T R)) 67 [x0, x1] st = (f67 R) x0 x1 st := by
  kernel_rfl
noncomputable def G34 : Nat → Nat → Fn
| 0 => fun _ _ _ => none
| n + 1 => fun j => ((tget [(34, afn Try.prog g34mu (g34T (G34 n)) big (areg Try.prog g34mu (g34T (G34 n))) 34), (67, afn Try.prog g67mu (g67T (G34 n)) big (areg Try.prog g67mu (g67T (G34 n))) 67)]) j).getD (fun _ _ => none)
theorem G34_34 (n : Nat) : G34 (n + 1) 34 = afn Try.prog g34mu (g34T (G34 n)) big (areg Try.prog g34mu (g34T (G34 n))) 34 := by kernel_rfl
theorem G34_67 (n : Nat) : G34 (n + 1) 67 = afn Try.prog g67mu (g67T (G34 n)) big (areg Try.prog g67mu (g67T (G34 n))) 67 := by kernel_rfl
theorem G34_ok : ∀ j, j ∈ [34, 67] → okFn Try.prog j = true := by
  intro j hj
  simp only [List.mem_cons, List.not_mem_nil, or_false] at hj
  rcases hj with rfl | rfl <;> kernel_rfl
theorem simG34 : ∀ n j, j ∈ [34, 67] → Sim Try.prog j (G34 n j)
| 0, j, hj => ⟨G34_ok j hj, fun _ _ _ _ _ _ _ h => by cases h⟩
| n + 1, j, hj => by
  have ih := simG34 n
  simp only [List.mem_cons, List.not_mem_nil, or_false] at hj
  rcases hj with rfl | rfl
  · rw [G34_34]; exact afn_sim (g34t (G34 n) ih) (fun m => areg_sound (g34t (G34 n) ih) hmix m) 34 (by kernel_rfl)
  · rw [G34_67]; exact afn_sim (g67t (G34 n) ih) (fun m => areg_sound (g67t (G34 n) ih) hmix m) 67 (by kernel_rfl)
noncomputable def s34 : Fn := sealF (G34 big 34)
theorem sim34 : Sim Try.prog 34 s34 := (simG34 big 34 (by decide)).sealed
theorem s34_n : s34 = G34 big 34 := sealF_eq _
theorem G34_34_eq (n : Nat) (x0 : V) (st : St) : G34 (n + 1) 34 [x0] st = f34 (G34 n) x0 st := by
  rw [G34_34]; exact s34R_eq (G34 n) x0 st
noncomputable def s67 : Fn := sealF (G34 big 67)
theorem sim67 : Sim Try.prog 67 s67 := (simG34 big 67 (by decide)).sealed
theorem s67_n : s67 = G34 big 67 := sealF_eq _
theorem G34_67_eq (n : Nat) (x0 : V) (x1 : V) (st : St) : G34 (n + 1) 67 [x0, x1] st = f67 (G34 n) x0 x1 st := by
  rw [G34_67]; exact s67R_eq (G34 n) x0 x1 st
/-! sinew/query.Print -/
def g17mu : Nat → Bool := fun _ => false
noncomputable def g17T : Tbl := tget [(19, s19), (32, s32), (33, s33), (34, s34)]
theorem g17t : SimT Try.prog g17T := simT_cons sim19 ( simT_cons sim32 ( simT_cons sim33 ( simT_cons sim34 (simT_nil))))
noncomputable def s17 : Fn := sealF (fun args st => fg (afn Try.prog g17mu g17T big (areg Try.prog g17mu g17T) 17 args st) st)
theorem sim17 : Sim Try.prog 17 s17 := (afn_sim g17t (fun m => areg_sound g17t hmix m) 17 (by kernel_rfl)).fg.sealed
noncomputable def g17C (p : List Nat) : Code := sub (match Try.f17.body with | some c => c | none => .skip) p
noncomputable def g17X (c : Code) (K : Kon) : Env → St → Res := aexec Try.prog g17mu g17T big 82 (areg Try.prog g17mu g17T 82) c K
noncomputable def g17kr : Kon := aresK Try.prog Try.f17.results.toList
theorem g17reg {c : Code} {K : Kon} {G : Env → St → Res} {id : Nat} {ops : Array Oper} {l1 l2 : List Nat} (hc : c = .region id ops false) (hl : List.range ops.size = l1 ++ l2) (h : (fun env st => aops Try.prog g17mu g17T 82 ops l2 env st (K .normal)) = G) : g17X c K = fun env st => aops Try.prog g17mu g17T 82 ops l1 env st G := reg_cut hc hl h
theorem g17seq {c x y : Code} {K : Kon} {G : Env → St → Res} (hc : c = .seq x y) (hy : g17X y K = G) : g17X c K = g17X x (kSeq G K) := seq_cut hc hy
theorem g17blk {c x : Code} {K : Kon} {i : Nat} (hc : c = .block i x) : g17X c K = g17X x (kBlk i K) := blk_cut hc
theorem g17loop {c x : Code} {K : Kon} (hc : c = .loop x) : g17X c K = aloop (g17X x) K big := loop_cut hc
theorem g17cond {c x y : Code} {K : Kon} {v : Operand} {F G : Env → St → Res} (hc : c = .cond v x y) (hx : g17X x K = F) (hy : g17X y K = G) : g17X c K = condF v F G := cond_cut hc hx hy
noncomputable def g17k0 : Kon := kSeq (g17X (g17C [1, 1, 1, 1, 1]) (g17kr)) (g17kr)
noncomputable def g17k1 : Kon := kBlk 2 (g17k0)
noncomputable def g17b1111010 : Nat → V → V → V → V → V → St → Res
| 0, _, _, _, _, _, _ => none
| n + 1, x1, x5, x44, x45, x46, st =>
 A.bin .lss x46 x45 fun a1 =>
 A.cond a1
 (A.iaddr 7 x44 x46 fun a2 =>
 A.load true 7 a2 st fun a3 z4 =>
 A.box (.agg [(.bool false), (.str []), (.int .i64 0), (.str []), (.lst [] 1), (.bool false), (.str [])]) z4 fun a5 z6 =>
 A.store 7 a5 a3 z6 fun z7 =>
 A.faddr 0 a5 fun a8 =>
 A.load true 2 a8 z7 fun a9 _ =>
 A.noP (A.ret (s33 [a9.er1] z7) kid) fun a10 z11 =>
 A.bin .add a10 (.str [32]) fun a12 =>
 A.faddr 2 a5 fun a13 =>
 A.load true 3 a13 z11 fun a14 _ =>
 A.chk (ldv true 3 a13 z7) a14
 (A.noP (A.ret (s34 [a14.er1] z11) kid) fun a15 z16 =>
 A.bin .add a12 a15 fun a17 =>
 A.bin .add a17 (.str [32]) fun a18 =>
 A.faddr 5 a5 fun a19 =>
 A.load true 2 a19 z16 fun a20 _ =>
 A.chk (ldv true 2 a19 z11) a20
 (A.chk (ldv true 2 a19 z7) a20
 (A.ret (A.ret (s33 [a20.er1] z16) kid) fun a21 z22 =>
 A.bin .add a18 a21 fun a23 =>
 A.bslice 1 (.str []) 1 [(0, a23)] fun a24 =>
 A.ret (A.app 1 x5 (elemsOf 5 1 a24 z22) z22 kid) fun a25 z26 =>
 A.bin .add x46 (.int .i64 1) fun a27 =>
 (g17b1111010 n) x1 a25 x44 x45 a27 z26))))
 (A.ret (s32 [x5.er1, ((.str [32, 46, 32]) : V).er1] st) fun a28 z29 =>
 A.faddr 0 x1 fun a30 =>
 A.load false 1 a30 z29 fun a31 z32 =>
 A.eql 2 false a31 (.int .i64 1) fun a33 =>
 A.cond a33
 (A.faddr 1 x1 fun a34 =>
 A.faddr 0 a34 fun a35 =>
 A.load false 1 a35 z32 fun a36 z37 =>
 A.ret (s32 [a36.er1, ((.str [32, 63]) : V).er1] z37) fun a38 z39 =>
 A.bin .add (.str [115, 101, 108, 101, 99, 116, 32, 63]) a38 fun a40 =>
 A.bin .add a40 (.str [32, 119, 104, 101, 114, 101, 32, 123, 32]) fun a41 =>
 A.bin .add a41 a28 fun a42 =>
 A.bin .add a42 (.str [32, 125]) fun a43 =>
 some (.ret (.tup [a43.er1, ((.int .i64 0) : V).er1]), z39))
 (some (.ret (.tup [a28.er1, ((.int .i64 0) : V).er1]), z32)))
theorem g17n1111010 : g17C [1, 1, 1, 1, 0, 1, 0] = .loop (g17C [1, 1, 1, 1, 0, 1, 0, 0]) := by kernel_rfl
noncomputable def g17k2 (L1111010 : V → V → V → V → V → St → Res) : Kon := kSeq (fun env st => L1111010 (env 1) (env 5) (env 44) (env 45) (env 46) st) (g17k1)
theorem g17e1111010 : g17X (g17C [1, 1, 1, 1, 0, 1, 0]) (g17k1) = fun env st => g17b1111010 big (env 1) (env 5) (env 44) (env 45) (env 46) st := by
  have key : ∀ n, aloop (g17X (g17C [1, 1, 1, 1, 0, 1, 0, 0])) (g17k1) n = fun env st => g17b1111010 n (env 1) (env 5) (env 44) (env 45) (env 46) st := by
    intro n
    induction n with
    | zero => rfl
    | succ n ih =>
      have h : aloop (g17X (g17C [1, 1, 1, 1, 0, 1, 0, 0])) (g17k1) (n + 1) = g17X (g17C [1, 1, 1, 1, 0, 1, 0, 0]) (kSeq (aloop (g17X (g17C [1, 1, 1, 1, 0, 1, 0, 0])) (g17k1) n) (g17k1)) := rfl
      rw [h, ih]
      refine Eq.trans (Eq.refl _) ?_
      funext env st
      kernel_rfl
  exact (g17loop g17n1111010).trans (key big)
noncomputable def g17b1111 (x1 : V) (x5 : V) (st : St) : Res :=
 A.faddr 1 x1 fun a1 =>
 A.faddr 1 a1 fun a2 =>
 A.load false 1 a2 st fun a3 z4 =>
 A.lenL a3 fun a5 =>
 g17b1111010 big x1 x5 a3 a5 (.int .i64 0) z4
theorem g17n1111 : g17C [1, 1, 1, 1] = .seq (g17C [1, 1, 1, 1, 0]) (g17C [1, 1, 1, 1, 1]) := by kernel_rfl
theorem g17n11110 : g17C [1, 1, 1, 1, 0] = .seq (g17C [1, 1, 1, 1, 0, 0]) (g17C [1, 1, 1, 1, 0, 1]) := by kernel_rfl
theorem g17n111101 : g17C [1, 1, 1, 1, 0, 1] = .block 2 (g17C [1, 1, 1, 1, 0, 1, 0]) := by kernel_rfl
theorem g17e1111 : g17X (g17C [1, 1, 1, 1]) (g17kr) = fun env st => g17b1111 (env 1) (env 5) st := by
  refine Eq.trans ((g17seq g17n1111 rfl).trans (g17seq g17n11110 ((g17blk g17n111101).trans (g17e1111010)))) ?_
  funext env st
  kernel_rfl
noncomputable def g17k3 : Kon := kSeq (fun env st => g17b1111 (env 1) (env 5) st) (g17kr)
noncomputable def g17k4 : Kon := kBlk 0 (g17k3)
noncomputable def g17k5 (L111010 : V → V → V → V → V → St → Res) : Kon := kSeq (fun env st => L111010 (env 1) (env 5) (env 18) (env 19) (env 20) st) (g17k4)
noncomputable def g17k6 (L111010 : V → V → V → V → V → St → Res) : Kon := kSeq (g17X (g17C [1, 1, 1, 0, 1, 0, 0, 1, 1, 1]) (g17k5 L111010)) (g17k5 L111010)
noncomputable def g17k7 (L111010 : V → V → V → V → V → St → Res) : Kon := kBlk 1 (g17k6 L111010)
noncomputable def g17b11101001100111 (L111010 : V → V → V → V → V → St → Res) (x1 : V) (x5 : V) (x7 : V) (x8 : V) (x18 : V) (x19 : V) (x20 : V) (st : St) : Res :=
 A.faddr 1 x7 fun a1 =>
 A.faddr 0 a1 fun a2 =>
 A.load false 1 a2 st fun a3 z4 =>
 A.faddr 1 x7 fun a5 =>
 A.faddr 1 a5 fun a6 =>
 A.load false 1 a6 z4 fun a7 z8 =>
 A.faddr 1 x7 fun a9 =>
 A.faddr 2 a9 fun a10 =>
 A.load false 1 a10 z8 fun a11 z12 =>
 A.bslice 1 (.str []) 4 [(0, x8), (1, a3), (2, a7), (3, a11)] fun a13 =>
 A.ret (s32 [a13.er1, ((.str [32]) : V).er1] z12) fun a14 z15 =>
 A.bslice 1 (.str []) 1 [(0, a14)] fun a16 =>
 A.app 1 x5 (elemsOf 5 1 a16 z15) z15 fun a17 z18 =>
 A.bin .add x20 (.int .i64 1) fun a19 =>
 L111010 x1 a17 x18 x19 a19 z18
theorem g17e11101001100111 (L111010 : V → V → V → V → V → St → Res) : g17X (g17C [1, 1, 1, 0, 1, 0, 0, 1, 1, 0, 0, 1, 1, 1]) (g17k7 L111010) = fun env st => g17b11101001100111 L111010 (env 1) (env 5) (env 7) (env 8) (env 18) (env 19) (env 20) st := by
  refine Eq.trans (Eq.refl (g17X (g17C [1, 1, 1, 0, 1, 0, 0, 1, 1, 0, 0, 1, 1, 1]) (g17k7 L111010))) ?_
  funext env st
  kernel_rfl
noncomputable def g17b111010 : Nat → V → V → V → V → V → St → Res
| 0, _, _, _, _, _, _ => none
| n + 1, x1, x5, x18, x19, x20, st =>
 A.bin .lss x20 x19 fun a1 =>
 A.cond a1
 (A.iaddr 4 x18 x20 fun a2 =>
 A.load true 4 a2 st fun a3 z4 =>
 A.box (.agg [(.bool false), (.str []), (.str []), (.str [])]) z4 fun a5 z6 =>
 A.store 4 a5 a3 z6 fun z7 =>
 A.faddr 0 a5 fun a8 =>
 A.load false 1 a8 z7 fun a9 z10 =>
 A.cond a9
 (g17b11101001100111 (g17b111010 n) x1 x5 a5 (.str [100, 101, 108, 101, 116, 101]) x18 x19 x20 z10)
 (g17b11101001100111 (g17b111010 n) x1 x5 a5 (.str [105, 110, 115, 101, 114, 116]) x18 x19 x20 z10))
 (g17b1111 x1 x5 st)
theorem g17n111010 : g17C [1, 1, 1, 0, 1, 0] = .loop (g17C [1, 1, 1, 0, 1, 0, 0]) := by kernel_rfl
theorem g17n1110100 : g17C [1, 1, 1, 0, 1, 0, 0] = .seq (g17C [1, 1, 1, 0, 1, 0, 0, 0]) (g17C [1, 1, 1, 0, 1, 0, 0, 1]) := by kernel_rfl
theorem g17n11101001 : g17C [1, 1, 1, 0, 1, 0, 0, 1] = .seq (g17C [1, 1, 1, 0, 1, 0, 0, 1, 0]) (g17C [1, 1, 1, 0, 1, 0, 0, 1, 1]) := by kernel_rfl
theorem g17n111010011 : g17C [1, 1, 1, 0, 1, 0, 0, 1, 1] = .seq (g17C [1, 1, 1, 0, 1, 0, 0, 1, 1, 0]) (g17C [1, 1, 1, 0, 1, 0, 0, 1, 1, 1]) := by kernel_rfl
theorem g17n1110100110 : g17C [1, 1, 1, 0, 1, 0, 0, 1, 1, 0] = .block 1 (g17C [1, 1, 1, 0, 1, 0, 0, 1, 1, 0, 0]) := by kernel_rfl
theorem g17n11101001100 : g17C [1, 1, 1, 0, 1, 0, 0, 1, 1, 0, 0] = .seq (g17C [1, 1, 1, 0, 1, 0, 0, 1, 1, 0, 0, 0]) (g17C [1, 1, 1, 0, 1, 0, 0, 1, 1, 0, 0, 1]) := by kernel_rfl
theorem g17n111010011001 : g17C [1, 1, 1, 0, 1, 0, 0, 1, 1, 0, 0, 1] = .seq (g17C [1, 1, 1, 0, 1, 0, 0, 1, 1, 0, 0, 1, 0]) (g17C [1, 1, 1, 0, 1, 0, 0, 1, 1, 0, 0, 1, 1]) := by kernel_rfl
theorem g17n1110100110011 : g17C [1, 1, 1, 0, 1, 0, 0, 1, 1, 0, 0, 1, 1] = .seq (g17C [1, 1, 1, 0, 1, 0, 0, 1, 1, 0, 0, 1, 1, 0]) (g17C [1, 1, 1, 0, 1, 0, 0, 1, 1, 0, 0, 1, 1, 1]) := by kernel_rfl
theorem g17e111010 : g17X (g17C [1, 1, 1, 0, 1, 0]) (g17k4) = fun env st => g17b111010 big (env 1) (env 5) (env 18) (env 19) (env 20) st := by
  have key : ∀ n, aloop (g17X (g17C [1, 1, 1, 0, 1, 0, 0])) (g17k4) n = fun env st => g17b111010 n (env 1) (env 5) (env 18) (env 19) (env 20) st := by
    intro n
    induction n with
    | zero => rfl
    | succ n ih =>
      have h : aloop (g17X (g17C [1, 1, 1, 0, 1, 0, 0])) (g17k4) (n + 1) = g17X (g17C [1, 1, 1, 0, 1, 0, 0]) (kSeq (aloop (g17X (g17C [1, 1, 1, 0, 1, 0, 0])) (g17k4) n) (g17k4)) := rfl
      rw [h, ih]
      refine Eq.trans (g17seq g17n1110100 (g17seq g17n11101001 ((g17seq g17n111010011 rfl).trans ((g17blk g17n1110100110).trans (g17seq g17n11101001100 (g17seq g17n111010011001 (g17seq g17n1110100110011 (g17e11101001100111 (g17b111010 n))))))))) ?_
      funext env st
      kernel_rfl
  exact (g17loop g17n111010).trans (key big)
noncomputable def g17b11 (x1 : V) (st : St) : Res :=
 A.faddr 3 x1 fun a1 =>
 A.load false 1 a1 st fun a2 z3 =>
 A.lenL a2 fun a4 =>
 g17b111010 big x1 (.lst [] 1) a2 a4 (.int .i64 0) z3
theorem g17n11 : g17C [1, 1] = .seq (g17C [1, 1, 0]) (g17C [1, 1, 1]) := by kernel_rfl
theorem g17n111 : g17C [1, 1, 1] = .seq (g17C [1, 1, 1, 0]) (g17C [1, 1, 1, 1]) := by kernel_rfl
theorem g17n1110 : g17C [1, 1, 1, 0] = .seq (g17C [1, 1, 1, 0, 0]) (g17C [1, 1, 1, 0, 1]) := by kernel_rfl
theorem g17n11101 : g17C [1, 1, 1, 0, 1] = .block 0 (g17C [1, 1, 1, 0, 1, 0]) := by kernel_rfl
theorem g17e11 : g17X (g17C [1, 1]) (g17kr) = fun env st => g17b11 (env 1) st := by
  refine Eq.trans (g17seq g17n11 ((g17seq g17n111 (g17e1111)).trans (g17seq g17n1110 ((g17blk g17n11101).trans (g17e111010))))) ?_
  funext env st
  kernel_rfl
noncomputable def f17 (x0 : V) (st : St) : Res :=
 A.box x0 st fun a1 z2 =>
 A.load true 4 a1 z2 fun a3 z4 =>
 A.ret (s19 [a3.er1] z4) fun a5 z6 =>
 A.eql 2 true a5 (.int .i64 0) fun a7 =>
 A.cond a7
 (some (.ret (.tup [((.str []) : V).er1, a5.er1]), z6))
 (g17b11 a1 z6)
theorem g17nr : g17C [] = .seq (g17C [0]) (g17C [1]) := by kernel_rfl
theorem g17n1 : g17C [1] = .seq (g17C [1, 0]) (g17C [1, 1]) := by kernel_rfl
theorem g17er (env : Env) (st : St) : g17X (g17C []) g17kr env st = f17 (env 0) st := by
  rw [(g17seq g17nr (g17seq g17n1 (g17e11)))]
  kernel_rfl
theorem s17_eq (x0 : V) (st : St) : s17 [x0] st = fg (f17 x0 st) st := by
  have h : afn Try.prog g17mu g17T big (areg Try.prog g17mu g17T) 17 [x0] st = g17X (g17C []) g17kr (fun t => [x0].getD t (.tup [])) st := by kernel_rfl
  rw [s17, sealF_eq]
  show fg _ st = fg _ st
  refine congrArg (fun r => fg r st) ?_
  exact h.trans (g17er _ st)
end Go.Ab
