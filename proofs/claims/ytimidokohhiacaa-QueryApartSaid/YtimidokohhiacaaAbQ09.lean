import Derived.Test.YtimidokohhiacaaAbQuiet
import Derived.Test.YtimidokohhiacaaHshelf
import Derived.Test.YtimidokohhiacaaAbForget
import Derived.Test.YtimidokohhiacaaAbRow
namespace Go.Ab
open Go.Proofs
set_option linter.unusedVariables false
set_option maxRecDepth 100000
theorem hmix : Try.prog.follows .mixedOrders = true := by kernel_rfl
/-! sinew/words.Is$1 -/
def g72mu : Nat → Bool := fun _ => false
noncomputable def g72T : Tbl := tget []
theorem g72t : SimT Try.prog g72T := simT_nil
noncomputable def s72 : Fn := sealF (afn Try.prog g72mu g72T big (areg Try.prog g72mu g72T) 72)
theorem sim72 : Sim Try.prog 72 s72 := (afn_sim g72t (fun m => areg_sound g72t hmix m) 72 (by kernel_rfl)).sealed
noncomputable def g72C (p : List Nat) : Code := sub (match Try.f72.body with | some c => c | none => .skip) p
noncomputable def g72X (c : Code) (K : Kon) : Env → St → Res := aexec Try.prog g72mu g72T big 25 (areg Try.prog g72mu g72T 25) c K
noncomputable def g72kr : Kon := aresK Try.prog Try.f72.results.toList
theorem g72reg {c : Code} {K : Kon} {G : Env → St → Res} {id : Nat} {ops : Array Oper} {l1 l2 : List Nat} (hc : c = .region id ops false) (hl : List.range ops.size = l1 ++ l2) (h : (fun env st => aops Try.prog g72mu g72T 25 ops l2 env st (K .normal)) = G) : g72X c K = fun env st => aops Try.prog g72mu g72T 25 ops l1 env st G := reg_cut hc hl h
theorem g72seq {c x y : Code} {K : Kon} {G : Env → St → Res} (hc : c = .seq x y) (hy : g72X y K = G) : g72X c K = g72X x (kSeq G K) := seq_cut hc hy
theorem g72blk {c x : Code} {K : Kon} {i : Nat} (hc : c = .block i x) : g72X c K = g72X x (kBlk i K) := blk_cut hc
theorem g72loop {c x : Code} {K : Kon} (hc : c = .loop x) : g72X c K = aloop (g72X x) K big := loop_cut hc
theorem g72cond {c x y : Code} {K : Kon} {v : Operand} {F G : Env → St → Res} (hc : c = .cond v x y) (hx : g72X x K = F) (hy : g72X y K = G) : g72X c K = condF v F G := cond_cut hc hx hy
noncomputable def g72k0 : Kon := kSeq (g72X (g72C [1, 1]) (g72kr)) (g72kr)
noncomputable def g72b10_15 (x0 : V) (x17 : V) (st : St) : Res :=
 A.guard x17 true
 (A.eql 2 true x0 (.int .i32 45) fun a1 =>
 A.guard a1 true
 (A.eql 2 true x0 (.int .i32 58) fun a2 =>
 some (.ret a2.er1, st))
 (some (.ret ((.bool false) : V).er1, st)))
 (some (.ret ((.bool false) : V).er1, st))
theorem g72e10_15 : (fun env st => aops Try.prog g72mu g72T 25 (rops (g72C [1, 0])) [15, 16, 17, 18, 19, 20, 21, 22] env st ((g72k0) .normal)) = fun env st => g72b10_15 (env 0) (env 17) st := by
  refine Eq.trans (Eq.refl _) ?_
  funext env st
  kernel_rfl
noncomputable def g72b10_7 (x0 : V) (x9 : V) (st : St) : Res :=
 A.guard x9 true
 (A.bin .lss x0 (.int .i32 48) fun a1 =>
 A.guardT a1 false
 (A.bin .gtr x0 (.int .i32 57) fun a2 =>
 g72b10_15 x0 a2 st)
 (g72b10_15 x0 (.bool true) st)
 (A.guardT a1 false
 (A.bin .gtr (.tup []) (.int .i32 57) fun a3 =>
 g72b10_15 x0 a3 st)
 (g72b10_15 x0 (.bool true) st)
 (A.pick a1 (.bool true) (.tup []) fun a4 =>
 g72b10_15 x0 a4 st)))
 (g72b10_15 x0 (.bool false) st)
theorem g72e10_7 : (fun env st => aops Try.prog g72mu g72T 25 (rops (g72C [1, 0])) [7, 8, 9, 10, 11, 12, 13, 14, 15, 16, 17, 18, 19, 20, 21, 22] env st ((g72k0) .normal)) = fun env st => g72b10_7 (env 0) (env 9) st := by
  refine Eq.trans (ops_cut (l1 := [7, 8, 9, 10, 11, 12, 13, 14]) (l2 := [15, 16, 17, 18, 19, 20, 21, 22]) (g72e10_15)) ?_
  funext env st
  kernel_rfl
noncomputable def f72 (x0 : V) (st : St) : Res :=
 A.bin .lss x0 (.int .i32 97) fun a1 =>
 A.guard a1 false
 (A.bin .gtr x0 (.int .i32 122) fun a2 =>
 g72b10_7 x0 a2 st)
 (g72b10_7 x0 (.bool true) st)
theorem g72nr : g72C [] = .seq (g72C [0]) (g72C [1]) := by kernel_rfl
theorem g72n1 : g72C [1] = .seq (g72C [1, 0]) (g72C [1, 1]) := by kernel_rfl
theorem g72rg10 : g72C [1, 0] = .region 1 (rops (g72C [1, 0])) false := by kernel_rfl
theorem g72rg10l : List.range (rops (g72C [1, 0])).size = [0, 1, 2, 3, 4, 5, 6] ++ [7, 8, 9, 10, 11, 12, 13, 14, 15, 16, 17, 18, 19, 20, 21, 22] := by kernel_rfl
theorem g72er (env : Env) (st : St) : g72X (g72C []) g72kr env st = f72 (env 0) st := by
  rw [(g72seq g72nr ((g72seq g72n1 rfl).trans (g72reg g72rg10 g72rg10l (g72e10_7))))]
  kernel_rfl
theorem s72_eq (x0 : V) (st : St) : s72 [x0] st = f72 x0 st := by
  have h : afn Try.prog g72mu g72T big (areg Try.prog g72mu g72T) 72 [x0] st = g72X (g72C []) g72kr (fun t => [x0].getD t (.tup [])) st := by kernel_rfl
  rw [s72, sealF_eq]
  exact h.trans (g72er _ st)
end Go.Ab
