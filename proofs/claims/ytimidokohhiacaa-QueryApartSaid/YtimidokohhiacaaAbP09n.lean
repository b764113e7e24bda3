import Derived.Test.YtimidokohhiacaaAbQuiet
import Derived.Test.YtimidokohhiacaaAbR09
import Derived.Test.YtimidokohhiacaaAbSpec
import Derived.Test.YtimidokohhiacaaAbIn2
namespace Go.Ab
open Go.Proofs
set_option linter.unusedVariables false
set_option maxRecDepth 100000
/-! slices.Index[[]string,string] -/
def g78mu : Nat → Bool := fun _ => false
noncomputable def g78T : Tbl := tget []
theorem g78t : SimT Try.prog g78T := simT_nil
noncomputable def s78 : Fn := sealF (afn Try.prog g78mu g78T big (areg Try.prog g78mu g78T) 78)
theorem sim78 : Sim Try.prog 78 s78 := (afn_sim g78t (fun m => areg_sound g78t hmix m) 78 (by kernel_rfl)).sealed
noncomputable def g78C (p : List Nat) : Code := sub (match Try.f78.body with | some c => c | none => .skip) p
noncomputable def g78X (c : Code) (K : Kon) : Env → St → Res := aexec Try.prog g78mu g78T big 19 (areg Try.prog g78mu g78T 19) c K
noncomputable def g78kr : Kon := aresK Try.prog Try.f78.results.toList
theorem g78reg {c : Code} {K : Kon} {G : Env → St → Res} {id : Nat} {ops : Array Oper} {l1 l2 : List Nat} (hc : c = .region id ops false) (hl : List.range ops.size = l1 ++ l2) (h : (fun env st => aops Try.prog g78mu g78T 19 ops l2 env st (K .normal)) = G) : g78X c K = fun env st => aops Try.prog g78mu g78T 19 ops l1 env st G := reg_cut hc hl h
theorem g78seq {c x y : Code} {K : Kon} {G : Env → St → Res} (hc : c = .seq x y) (hy : g78X y K = G) : g78X c K = g78X x (kSeq G K) := seq_cut hc hy
theorem g78blk {c x : Code} {K : Kon} {i : Nat} (hc : c = .block i x) : g78X c K = g78X x (kBlk i K) := blk_cut hc
theorem g78loop {c x : Code} {K : Kon} (hc : c = .loop x) : g78X c K = aloop (g78X x) K big := loop_cut hc
theorem g78cond {c x y : Code} {K : Kon} {v : Operand} {F G : Env → St → Res} (hc : c = .cond v x y) (hx : g78X x K = F) (hy : g78X y K = G) : g78X c K = condF v F G := cond_cut hc hx hy
noncomputable def g78k0 : Kon := kSeq (g78X (g78C [1, 1]) (g78kr)) (g78kr)
noncomputable def g78k1 : Kon := kBlk 0 (g78k0)
noncomputable def g78b1010 : Nat → V → V → V → V → St → Res
| 0, _, _, _, _, _ => none
| n + 1, x0, x1, x7, x8, st =>
 A.bin .lss x8 x7 fun a1 =>
 A.cond a1
 (A.iaddr 1 x0 x8 fun a2 =>
 A.load false 1 a2 st fun a3 z4 =>
 A.eql 3 false x1 a3 fun a5 =>
 A.cond a5
 (some (.ret x8.er1, z4))
 (A.bin .add x8 (.int .i64 1) fun a6 =>
 (g78b1010 n) x0 x1 x7 a6 z4))
 (some (.ret ((.int .i64 (-1)) : V).er1, st))
theorem g78n1010 : g78C [1, 0, 1, 0] = .loop (g78C [1, 0, 1, 0, 0]) := by kernel_rfl
noncomputable def g78k2 (L1010 : V → V → V → V → St → Res) : Kon := kSeq (fun env st => L1010 (env 0) (env 1) (env 7) (env 8) st) (g78k1)
theorem g78e1010 : g78X (g78C [1, 0, 1, 0]) (g78k1) = fun env st => g78b1010 big (env 0) (env 1) (env 7) (env 8) st := by
  have key : ∀ n, aloop (g78X (g78C [1, 0, 1, 0, 0])) (g78k1) n = fun env st => g78b1010 n (env 0) (env 1) (env 7) (env 8) st := by
    intro n
    induction n with
    | zero => rfl
    | succ n ih =>
      have h : aloop (g78X (g78C [1, 0, 1, 0, 0])) (g78k1) (n + 1) = g78X (g78C [1, 0, 1, 0, 0]) (kSeq (aloop (g78X (g78C [1, 0, 1, 0, 0])) (g78k1) n) (g78k1)) := rfl
      rw [h, ih]
      refine Eq.trans (Eq.refl _) ?_
      funext env st
      kernel_rfl
  exact (g78loop g78n1010).trans (key big)
noncomputable def f78 (x0 : V) (x1 : V) (st : St) : Res :=
 A.lenL x0 fun a1 =>
 g78b1010 big x0 x1 a1 (.int .i64 0) st
theorem g78nr : g78C [] = .seq (g78C [0]) (g78C [1]) := by kernel_rfl
theorem g78n1 : g78C [1] = .seq (g78C [1, 0]) (g78C [1, 1]) := by kernel_rfl
theorem g78n10 : g78C [1, 0] = .seq (g78C [1, 0, 0]) (g78C [1, 0, 1]) := by kernel_rfl
theorem g78n101 : g78C [1, 0, 1] = .block 0 (g78C [1, 0, 1, 0]) := by kernel_rfl
theorem g78er (env : Env) (st : St) : g78X (g78C []) g78kr env st = f78 (env 0) (env 1) st := by
  rw [(g78seq g78nr ((g78seq g78n1 rfl).trans (g78seq g78n10 ((g78blk g78n101).trans (g78e1010)))))]
  kernel_rfl
theorem s78_eq (x0 : V) (x1 : V) (st : St) : s78 [x0, x1] st = f78 x0 x1 st := by
  have h : afn Try.prog g78mu g78T big (areg Try.prog g78mu g78T) 78 [x0, x1] st = g78X (g78C []) g78kr (fun t => [x0, x1].getD t (.tup [])) st := by kernel_rfl
  rw [s78, sealF_eq]
  exact h.trans (g78er _ st)
/-! slices.Contains[[]string,string] -/
def g44mu : Nat → Bool := fun _ => false
noncomputable def g44T : Tbl := tget [(78, s78)]
theorem g44t : SimT Try.prog g44T := simT_cons sim78 (simT_nil)
noncomputable def s44 : Fn := sealF (afn Try.prog g44mu g44T big (areg Try.prog g44mu g44T) 44)
theorem sim44 : Sim Try.prog 44 s44 := (afn_sim g44t (fun m => areg_sound g44t hmix m) 44 (by kernel_rfl)).sealed
noncomputable def f44 (x0 : V) (x1 : V) (st : St) : Res :=
 A.ret (s78 [x0.er1, x1.er1] st) fun a1 z2 =>
 A.bin .geq a1 (.int .i64 0) fun a3 =>
 some (.ret a3.er1, z2)
theorem s44_eq (x0 : V) (x1 : V) (st : St) : s44 [x0, x1] st = f44 x0 x1 st := by
  rw [s44, sealF_eq]
  kernel_rfl
/-! sinew/query.Names -/
def g21mu : Nat → Bool := fun _ => false
noncomputable def g21T : Tbl := tget [(44, s44)]
theorem g21t : SimT Try.prog g21T := simT_cons sim44 (simT_nil)
noncomputable def s21 : Fn := sealF (afn Try.prog g21mu g21T big (areg Try.prog g21mu g21T) 21)
theorem sim21 : Sim Try.prog 21 s21 := (afn_sim g21t (fun m => areg_sound g21t hmix m) 21 (by kernel_rfl)).sealed
noncomputable def g21C (p : List Nat) : Code := sub (match Try.f21.body with | some c => c | none => .skip) p
noncomputable def g21X (c : Code) (K : Kon) : Env → St → Res := aexec Try.prog g21mu g21T big 42 (areg Try.prog g21mu g21T 42) c K
noncomputable def g21kr : Kon := aresK Try.prog Try.f21.results.toList
theorem g21reg {c : Code} {K : Kon} {G : Env → St → Res} {id : Nat} {ops : Array Oper} {l1 l2 : List Nat} (hc : c = .region id ops false) (hl : List.range ops.size = l1 ++ l2) (h : (fun env st => aops Try.prog g21mu g21T 42 ops l2 env st (K .normal)) = G) : g21X c K = fun env st => aops Try.prog g21mu g21T 42 ops l1 env st G := reg_cut hc hl h
theorem g21seq {c x y : Code} {K : Kon} {G : Env → St → Res} (hc : c = .seq x y) (hy : g21X y K = G) : g21X c K = g21X x (kSeq G K) := seq_cut hc hy
theorem g21blk {c x : Code} {K : Kon} {i : Nat} (hc : c = .block i x) : g21X c K = g21X x (kBlk i K) := blk_cut hc
theorem g21loop {c x : Code} {K : Kon} (hc : c = .loop x) : g21X c K = aloop (g21X x) K big := loop_cut hc
theorem g21cond {c x y : Code} {K : Kon} {v : Operand} {F G : Env → St → Res} (hc : c = .cond v x y) (hx : g21X x K = F) (hy : g21X y K = G) : g21X c K = condF v F G := cond_cut hc hx hy
noncomputable def g21k0 : Kon := kSeq (g21X (g21C [1, 1, 1]) (g21kr)) (g21kr)
noncomputable def g21k1 : Kon := kBlk 0 (g21k0)
noncomputable def g21k2 (L11010 : V → V → V → V → St → Res) : Kon := kSeq (fun env st => L11010 (env 3) (env 9) (env 10) (env 11) st) (g21k1)
noncomputable def g21k3 (L11010 : V → V → V → V → St → Res) : Kon := kSeq (g21X (g21C [1, 1, 0, 1, 0, 0, 1, 1, 1]) (g21k2 L11010)) (g21k2 L11010)
noncomputable def g21k4 (L11010 : V → V → V → V → St → Res) : Kon := kBlk 1 (g21k3 L11010)
noncomputable def g21k5 (L11010 : V → V → V → V → St → Res) : Kon := kBlk 2 (g21k4 L11010)
noncomputable def g21k6 (L11010 : V → V → V → V → St → Res) (L1101001100110 : V → V → V → V → V → V → V → St → Res) : Kon := kSeq (fun env st => L1101001100110 (env 3) (env 9) (env 10) (env 11) (env 19) (env 20) (env 21) st) (g21k5 L11010)
noncomputable def g21k7 (L11010 : V → V → V → V → St → Res) (L1101001100110 : V → V → V → V → V → V → V → St → Res) : Kon := kSeq (g21X (g21C [1, 1, 0, 1, 0, 0, 1, 1, 0, 0, 1, 1, 0, 0, 1, 1, 1]) (g21k6 L11010 L1101001100110)) (g21k6 L11010 L1101001100110)
noncomputable def g21k8 (L11010 : V → V → V → V → St → Res) (L1101001100110 : V → V → V → V → V → V → V → St → Res) : Kon := kBlk 3 (g21k7 L11010 L1101001100110)
noncomputable def g21b11010011001100110011 (L11010 : V → V → V → V → St → Res) (L1101001100110 : V → V → V → V → V → V → V → St → Res) (x3 : V) (x7 : V) (x9 : V) (x10 : V) (x11 : V) (x19 : V) (x20 : V) (x21 : V) (x33 : V) (st : St) : Res :=
 A.cond x33
 (A.faddr 1 x7 fun a1 =>
 A.load false 1 a1 st fun a2 z3 =>
 A.bslice 1 (.str []) 1 [(0, a2)] fun a4 =>
 A.app 1 x3 (elemsOf 5 1 a4 z3) z3 fun a5 z6 =>
 A.bin .add x21 (.int .i64 1) fun a7 =>
 L1101001100110 a5 x9 x10 x11 x19 x20 a7 z6)
 (A.bin .add x21 (.int .i64 1) fun a8 =>
 L1101001100110 x3 x9 x10 x11 x19 x20 a8 st)
theorem g21e11010011001100110011 (L11010 : V → V → V → V → St → Res) (L1101001100110 : V → V → V → V → V → V → V → St → Res) : g21X (g21C [1, 1, 0, 1, 0, 0, 1, 1, 0, 0, 1, 1, 0, 0, 1, 1, 0, 0, 1, 1]) (g21k8 L11010 L1101001100110) = fun env st => g21b11010011001100110011 L11010 L1101001100110 (env 3) (env 7) (env 9) (env 10) (env 11) (env 19) (env 20) (env 21) (env 33) st := by
  refine Eq.trans (Eq.refl (g21X (g21C [1, 1, 0, 1, 0, 0, 1, 1, 0, 0, 1, 1, 0, 0, 1, 1, 0, 0, 1, 1]) (g21k8 L11010 L1101001100110))) ?_
  funext env st
  kernel_rfl
noncomputable def g21b1101001100110 (L11010 : V → V → V → V → St → Res) : Nat → V → V → V → V → V → V → V → St → Res
| 0, _, _, _, _, _, _, _, _ => none
| n + 1, x3, x9, x10, x11, x19, x20, x21, st =>
 A.bin .lss x21 x20 fun a1 =>
 A.cond a1
 (A.iaddr 2 x19 x21 fun a2 =>
 A.load true 2 a2 st fun a3 z4 =>
 A.box (.agg [(.bool false), (.str [])]) z4 fun a5 z6 =>
 A.store 2 a5 a3 z6 fun z7 =>
 A.faddr 0 a5 fun a8 =>
 A.load false 1 a8 z7 fun a9 z10 =>
 A.guard a9 true
 (A.faddr 1 a5 fun a11 =>
 A.load false 1 a11 z10 fun a12 z13 =>
 A.ret (s44 [x3.er1, a12.er1] z13) fun a14 z15 =>
 A.un .not a14 fun a16 =>
 g21b11010011001100110011 L11010 (g21b1101001100110 L11010 n) x3 a5 x9 x10 x11 x19 x20 x21 a16 z15)
 (g21b11010011001100110011 L11010 (g21b1101001100110 L11010 n) x3 a5 x9 x10 x11 x19 x20 x21 (.bool false) z10))
 (A.bin .add x11 (.int .i64 1) fun a17 =>
 L11010 x3 x9 x10 a17 st)
theorem g21n1101001100110 : g21C [1, 1, 0, 1, 0, 0, 1, 1, 0, 0, 1, 1, 0] = .loop (g21C [1, 1, 0, 1, 0, 0, 1, 1, 0, 0, 1, 1, 0, 0]) := by kernel_rfl
theorem g21n11010011001100 : g21C [1, 1, 0, 1, 0, 0, 1, 1, 0, 0, 1, 1, 0, 0] = .seq (g21C [1, 1, 0, 1, 0, 0, 1, 1, 0, 0, 1, 1, 0, 0, 0]) (g21C [1, 1, 0, 1, 0, 0, 1, 1, 0, 0, 1, 1, 0, 0, 1]) := by kernel_rfl
theorem g21n110100110011001 : g21C [1, 1, 0, 1, 0, 0, 1, 1, 0, 0, 1, 1, 0, 0, 1] = .seq (g21C [1, 1, 0, 1, 0, 0, 1, 1, 0, 0, 1, 1, 0, 0, 1, 0]) (g21C [1, 1, 0, 1, 0, 0, 1, 1, 0, 0, 1, 1, 0, 0, 1, 1]) := by kernel_rfl
theorem g21n1101001100110011 : g21C [1, 1, 0, 1, 0, 0, 1, 1, 0, 0, 1, 1, 0, 0, 1, 1] = .seq (g21C [1, 1, 0, 1, 0, 0, 1, 1, 0, 0, 1, 1, 0, 0, 1, 1, 0]) (g21C [1, 1, 0, 1, 0, 0, 1, 1, 0, 0, 1, 1, 0, 0, 1, 1, 1]) := by kernel_rfl
theorem g21n11010011001100110 : g21C [1, 1, 0, 1, 0, 0, 1, 1, 0, 0, 1, 1, 0, 0, 1, 1, 0] = .block 3 (g21C [1, 1, 0, 1, 0, 0, 1, 1, 0, 0, 1, 1, 0, 0, 1, 1, 0, 0]) := by kernel_rfl
theorem g21n110100110011001100 : g21C [1, 1, 0, 1, 0, 0, 1, 1, 0, 0, 1, 1, 0, 0, 1, 1, 0, 0] = .seq (g21C [1, 1, 0, 1, 0, 0, 1, 1, 0, 0, 1, 1, 0, 0, 1, 1, 0, 0, 0]) (g21C [1, 1, 0, 1, 0, 0, 1, 1, 0, 0, 1, 1, 0, 0, 1, 1, 0, 0, 1]) := by kernel_rfl
theorem g21n1101001100110011001 : g21C [1, 1, 0, 1, 0, 0, 1, 1, 0, 0, 1, 1, 0, 0, 1, 1, 0, 0, 1] = .seq (g21C [1, 1, 0, 1, 0, 0, 1, 1, 0, 0, 1, 1, 0, 0, 1, 1, 0, 0, 1, 0]) (g21C [1, 1, 0, 1, 0, 0, 1, 1, 0, 0, 1, 1, 0, 0, 1, 1, 0, 0, 1, 1]) := by kernel_rfl
theorem g21e1101001100110 (L11010 : V → V → V → V → St → Res) : g21X (g21C [1, 1, 0, 1, 0, 0, 1, 1, 0, 0, 1, 1, 0]) (g21k5 L11010) = fun env st => g21b1101001100110 L11010 big (env 3) (env 9) (env 10) (env 11) (env 19) (env 20) (env 21) st := by
  have key : ∀ n, aloop (g21X (g21C [1, 1, 0, 1, 0, 0, 1, 1, 0, 0, 1, 1, 0, 0])) (g21k5 L11010) n = fun env st => g21b1101001100110 L11010 n (env 3) (env 9) (env 10) (env 11) (env 19) (env 20) (env 21) st := by
    intro n
    induction n with
    | zero => rfl
    | succ n ih =>
      have h : aloop (g21X (g21C [1, 1, 0, 1, 0, 0, 1, 1, 0, 0, 1, 1, 0, 0])) (g21k5 L11010) (n + 1) = g21X (g21C [1, 1, 0, 1, 0, 0, 1, 1, 0, 0, 1, 1, 0, 0]) (kSeq (aloop (g21X (g21C [1, 1, 0, 1, 0, 0, 1, 1, 0, 0, 1, 1, 0, 0])) (g21k5 L11010) n) (g21k5 L11010)) := rfl
      rw [h, ih]
      refine Eq.trans (g21seq g21n11010011001100 (g21seq g21n110100110011001 ((g21seq g21n1101001100110011 rfl).trans ((g21blk g21n11010011001100110).trans (g21seq g21n110100110011001100 (g21seq g21n1101001100110011001 (g21e11010011001100110011 L11010 (g21b1101001100110 L11010 n)))))))) ?_
      funext env st
      kernel_rfl
  exact (g21loop g21n1101001100110).trans (key big)
noncomputable def g21b110100110011 (L11010 : V → V → V → V → St → Res) (x3 : V) (x9 : V) (x10 : V) (x11 : V) (x19 : V) (x20 : V) (x21 : V) (st : St) : Res :=
 g21b1101001100110 L11010 big x3 x9 x10 x11 x19 x20 x21 st
theorem g21n110100110011 : g21C [1, 1, 0, 1, 0, 0, 1, 1, 0, 0, 1, 1] = .block 2 (g21C [1, 1, 0, 1, 0, 0, 1, 1, 0, 0, 1, 1, 0]) := by kernel_rfl
theorem g21e110100110011 (L11010 : V → V → V → V → St → Res) : g21X (g21C [1, 1, 0, 1, 0, 0, 1, 1, 0, 0, 1, 1]) (g21k4 L11010) = fun env st => g21b110100110011 L11010 (env 3) (env 9) (env 10) (env 11) (env 19) (env 20) (env 21) st := by
  refine Eq.trans ((g21blk g21n110100110011).trans (g21e1101001100110 L11010)) ?_
  funext env st
  kernel_rfl
noncomputable def g21b11010 : Nat → V → V → V → V → St → Res
| 0, _, _, _, _, _ => none
| n + 1, x3, x9, x10, x11, st =>
 A.bin .lss x11 x10 fun a1 =>
 A.cond a1
 (A.iaddr 7 x9 x11 fun a2 =>
 A.load true 7 a2 st fun a3 z4 =>
 A.box (.agg [(.bool false), (.str []), (.int .i64 0), (.str []), (.lst [] 1), (.bool false), (.str [])]) z4 fun a5 z6 =>
 A.store 7 a5 a3 z6 fun z7 =>
 A.faddr 0 a5 fun a8 =>
 A.load true 2 a8 z7 fun a9 z10 =>
 A.faddr 5 a5 fun a11 =>
 A.load true 2 a11 z10 fun a12 z13 =>
 A.bslice 2 (.agg [(.bool false), (.str [])]) 2 [(0, a9), (1, a12)] fun a14 =>
 A.lenL a14 fun a15 =>
 g21b110100110011 (g21b11010 n) x3 x9 x10 x11 a14 a15 (.int .i64 0) z13)
 (some (.ret x3.er1, st))
theorem g21n11010 : g21C [1, 1, 0, 1, 0] = .loop (g21C [1, 1, 0, 1, 0, 0]) := by kernel_rfl
theorem g21n110100 : g21C [1, 1, 0, 1, 0, 0] = .seq (g21C [1, 1, 0, 1, 0, 0, 0]) (g21C [1, 1, 0, 1, 0, 0, 1]) := by kernel_rfl
theorem g21n1101001 : g21C [1, 1, 0, 1, 0, 0, 1] = .seq (g21C [1, 1, 0, 1, 0, 0, 1, 0]) (g21C [1, 1, 0, 1, 0, 0, 1, 1]) := by kernel_rfl
theorem g21n11010011 : g21C [1, 1, 0, 1, 0, 0, 1, 1] = .seq (g21C [1, 1, 0, 1, 0, 0, 1, 1, 0]) (g21C [1, 1, 0, 1, 0, 0, 1, 1, 1]) := by kernel_rfl
theorem g21n110100110 : g21C [1, 1, 0, 1, 0, 0, 1, 1, 0] = .block 1 (g21C [1, 1, 0, 1, 0, 0, 1, 1, 0, 0]) := by kernel_rfl
theorem g21n1101001100 : g21C [1, 1, 0, 1, 0, 0, 1, 1, 0, 0] = .seq (g21C [1, 1, 0, 1, 0, 0, 1, 1, 0, 0, 0]) (g21C [1, 1, 0, 1, 0, 0, 1, 1, 0, 0, 1]) := by kernel_rfl
theorem g21n11010011001 : g21C [1, 1, 0, 1, 0, 0, 1, 1, 0, 0, 1] = .seq (g21C [1, 1, 0, 1, 0, 0, 1, 1, 0, 0, 1, 0]) (g21C [1, 1, 0, 1, 0, 0, 1, 1, 0, 0, 1, 1]) := by kernel_rfl
theorem g21e11010 : g21X (g21C [1, 1, 0, 1, 0]) (g21k1) = fun env st => g21b11010 big (env 3) (env 9) (env 10) (env 11) st := by
  have key : ∀ n, aloop (g21X (g21C [1, 1, 0, 1, 0, 0])) (g21k1) n = fun env st => g21b11010 n (env 3) (env 9) (env 10) (env 11) st := by
    intro n
    induction n with
    | zero => rfl
    | succ n ih =>
      have h : aloop (g21X (g21C [1, 1, 0, 1, 0, 0])) (g21k1) (n + 1) = g21X (g21C [1, 1, 0, 1, 0, 0]) (kSeq (aloop (g21X (g21C [1, 1, 0, 1, 0, 0])) (g21k1) n) (g21k1)) := rfl
      rw [h, ih]
      refine Eq.trans (g21seq g21n110100 (g21seq g21n1101001 ((g21seq g21n11010011 rfl).trans ((g21blk g21n110100110).trans (g21seq g21n1101001100 (g21seq g21n11010011001 (g21e110100110011 (g21b11010 n)))))))) ?_
      funext env st
      kernel_rfl
  exact (g21loop g21n11010).trans (key big)
noncomputable def f21 (x0 : V) (st : St) : Res :=
 A.box x0 st fun a1 z2 =>
 A.faddr 1 a1 fun a3 =>
 A.load false 1 a3 z2 fun a4 z5 =>
 A.lenL a4 fun a6 =>
 g21b11010 big (.lst [] 1) a4 a6 (.int .i64 0) z5
theorem g21nr : g21C [] = .seq (g21C [0]) (g21C [1]) := by kernel_rfl
theorem g21n1 : g21C [1] = .seq (g21C [1, 0]) (g21C [1, 1]) := by kernel_rfl
theorem g21n11 : g21C [1, 1] = .seq (g21C [1, 1, 0]) (g21C [1, 1, 1]) := by kernel_rfl
theorem g21n110 : g21C [1, 1, 0] = .seq (g21C [1, 1, 0, 0]) (g21C [1, 1, 0, 1]) := by kernel_rfl
theorem g21n1101 : g21C [1, 1, 0, 1] = .block 0 (g21C [1, 1, 0, 1, 0]) := by kernel_rfl
theorem g21er (env : Env) (st : St) : g21X (g21C []) g21kr env st = f21 (env 0) st := by
  rw [(g21seq g21nr (g21seq g21n1 ((g21seq g21n11 rfl).trans (g21seq g21n110 ((g21blk g21n1101).trans (g21e11010))))))]
  kernel_rfl
theorem s21_eq (x0 : V) (st : St) : s21 [x0] st = f21 x0 st := by
  have h : afn Try.prog g21mu g21T big (areg Try.prog g21mu g21T) 21 [x0] st = g21X (g21C []) g21kr (fun t => [x0].getD t (.tup [])) st := by kernel_rfl
  rw [s21, sealF_eq]
  exact h.trans (g21er _ st)
end Go.Ab
