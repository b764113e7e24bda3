import Derived.Test.YtimidokohhiacaaAbQuiet
import Derived.Test.YtimidokohhiacaaAbRun1
namespace Go.Ab
open Go.Proofs
set_option linter.unusedVariables false
set_option maxRecDepth 100000
/-! sinew/sinewref05.Is -/
def g69mu : Nat → Bool := fun _ => false
noncomputable def g69T : Tbl := tget []
theorem g69t : SimT Try.prog g69T := simT_nil
noncomputable def s69 : Fn := sealF (fun args st => fg (afn Try.prog g69mu g69T big (areg Try.prog g69mu g69T) 69 args st) st)
theorem sim69 : Sim Try.prog 69 s69 := (afn_sim g69t (fun m => areg_sound g69t hmix m) 69 (by kernel_rfl)).fg.sealed
noncomputable def g69C (p : List Nat) : Code := sub (match Try.f69.body with | some c => c | none => .skip) p
noncomputable def g69X (c : Code) (K : Kon) : Env → St → Res := aexec Try.prog g69mu g69T big 52 (areg Try.prog g69mu g69T 52) c K
noncomputable def g69kr : Kon := aresK Try.prog Try.f69.results.toList
theorem g69reg {c : Code} {K : Kon} {G : Env → St → Res} {id : Nat} {ops : Array Oper} {l1 l2 : List Nat} (hc : c = .region id ops false) (hl : List.range ops.size = l1 ++ l2) (h : (fun env st => aops Try.prog g69mu g69T 52 ops l2 env st (K .normal)) = G) : g69X c K = fun env st => aops Try.prog g69mu g69T 52 ops l1 env st G := reg_cut hc hl h
theorem g69seq {c x y : Code} {K : Kon} {G : Env → St → Res} (hc : c = .seq x y) (hy : g69X y K = G) : g69X c K = g69X x (kSeq G K) := seq_cut hc hy
theorem g69blk {c x : Code} {K : Kon} {i : Nat} (hc : c = .block i x) : g69X c K = g69X x (kBlk i K) := blk_cut hc
theorem g69loop {c x : Code} {K : Kon} (hc : c = .loop x) : g69X c K = aloop (g69X x) K big := loop_cut hc
theorem g69cond {c x y : Code} {K : Kon} {v : Operand} {F G : Env → St → Res} (hc : c = .cond v x y) (hx : g69X x K = F) (hy : g69X y K = G) : g69X c K = condF v F G := cond_cut hc hx hy
noncomputable def g69k0 : Kon := kSeq (g69X (g69C [1, 1]) (g69kr)) (g69kr)
noncomputable def g69k1 : Kon := kBlk 0 (g69k0)
noncomputable def g69k2 (L1010 : V → V → St → Res) : Kon := kSeq (fun env st => L1010 (env 0) (env 3) st) (g69k1)
noncomputable def g69k3 (L1010 : V → V → St → Res) : Kon := kSeq (g69X (g69C [1, 0, 1, 0, 0, 1, 1]) (g69k2 L1010)) (g69k2 L1010)
noncomputable def g69k4 (L1010 : V → V → St → Res) : Kon := kBlk 1 (g69k3 L1010)
noncomputable def g69k5 (L1010 : V → V → St → Res) : Kon := kSeq (g69X (g69C [1, 0, 1, 0, 0, 1, 0, 0, 1]) (g69k4 L1010)) (g69k4 L1010)
noncomputable def g69b101001000_29 (L1010 : V → V → St → Res) (x0 : V) (x3 : V) (x38 : V) (st : St) : Res :=
 A.guard x38 true
 (A.idxS x0 x3 fun a1 =>
 A.eql 2 true a1 (.int .u8 58) fun a2 =>
 A.cond a2
 (some (.ret ((.bool false) : V).er1, st))
 (A.bin .add x3 (.int .i64 1) fun a3 =>
 L1010 x0 a3 st))
 (A.bin .add x3 (.int .i64 1) fun a4 =>
 L1010 x0 a4 st)
theorem g69e101001000_29 (L1010 : V → V → St → Res) : (fun env st => aops Try.prog g69mu g69T 52 (rops (g69C [1, 0, 1, 0, 0, 1, 0, 0, 0])) [29, 30, 31, 32, 33] env st ((g69k5 L1010) .normal)) = fun env st => g69b101001000_29 L1010 (env 0) (env 3) (env 38) st := by
  refine Eq.trans (Eq.refl _) ?_
  funext env st
  kernel_rfl
noncomputable def g69b101001000_23 (L1010 : V → V → St → Res) (x0 : V) (x3 : V) (x32 : V) (st : St) : Res :=
 A.guard x32 true
 (A.idxS x0 x3 fun a1 =>
 A.eql 2 true a1 (.int .u8 45) fun a2 =>
 g69b101001000_29 L1010 x0 x3 a2 st)
 (g69b101001000_29 L1010 x0 x3 (.bool false) st)
theorem g69e101001000_23 (L1010 : V → V → St → Res) : (fun env st => aops Try.prog g69mu g69T 52 (rops (g69C [1, 0, 1, 0, 0, 1, 0, 0, 0])) [23, 24, 25, 26, 27, 28, 29, 30, 31, 32, 33] env st ((g69k5 L1010) .normal)) = fun env st => g69b101001000_23 L1010 (env 0) (env 3) (env 32) st := by
  refine Eq.trans (ops_cut (l1 := [23, 24, 25, 26, 27, 28]) (l2 := [29, 30, 31, 32, 33]) (g69e101001000_29 L1010)) ?_
  funext env st
  kernel_rfl
noncomputable def g69b101001000_11 (L1010 : V → V → St → Res) (x0 : V) (x3 : V) (x20 : V) (st : St) : Res :=
 A.guard x20 true
 (A.idxS x0 x3 fun a1 =>
 A.bin .lss a1 (.int .u8 48) fun a2 =>
 A.guardT a2 false
 (A.idxS x0 x3 fun a3 =>
 A.bin .gtr a3 (.int .u8 57) fun a4 =>
 g69b101001000_23 L1010 x0 x3 a4 st)
 (g69b101001000_23 L1010 x0 x3 (.bool true) st)
 (A.guardT a2 false
 (A.idxS (.tup []) x3 fun a5 =>
 A.bin .gtr a5 (.int .u8 57) fun a6 =>
 g69b101001000_23 L1010 x0 x3 a6 st)
 (g69b101001000_23 L1010 x0 x3 (.bool true) st)
 (A.guardT a2 false
 (A.idxS (.tup []) (.tup []) fun a7 =>
 A.bin .gtr a7 (.int .u8 57) fun a8 =>
 g69b101001000_23 L1010 x0 x3 a8 st)
 (g69b101001000_23 L1010 x0 x3 (.bool true) st)
 (A.guardT a2 false
 (A.bin .gtr (.tup []) (.int .u8 57) fun a9 =>
 g69b101001000_23 L1010 x0 x3 a9 st)
 (g69b101001000_23 L1010 x0 x3 (.bool true) st)
 (A.pick a2 (.bool true) (.tup []) fun a10 =>
 g69b101001000_23 L1010 x0 x3 a10 st)))))
 (g69b101001000_23 L1010 x0 x3 (.bool false) st)
theorem g69e101001000_11 (L1010 : V → V → St → Res) : (fun env st => aops Try.prog g69mu g69T 52 (rops (g69C [1, 0, 1, 0, 0, 1, 0, 0, 0])) [11, 12, 13, 14, 15, 16, 17, 18, 19, 20, 21, 22, 23, 24, 25, 26, 27, 28, 29, 30, 31, 32, 33] env st ((g69k5 L1010) .normal)) = fun env st => g69b101001000_11 L1010 (env 0) (env 3) (env 20) st := by
  refine Eq.trans (ops_cut (l1 := [11, 12, 13, 14, 15, 16, 17, 18, 19, 20, 21, 22]) (l2 := [23, 24, 25, 26, 27, 28, 29, 30, 31, 32, 33]) (g69e101001000_23 L1010)) ?_
  funext env st
  kernel_rfl
noncomputable def g69b1010 : Nat → V → V → St → Res
| 0, _, _, _ => none
| n + 1, x0, x3, st =>
 A.lenS x0 fun a1 =>
 A.bin .lss x3 a1 fun a2 =>
 A.cond a2
 (A.idxS x0 x3 fun a3 =>
 A.bin .lss a3 (.int .u8 97) fun a4 =>
 A.guard a4 false
 (A.idxS x0 x3 fun a5 =>
 A.bin .gtr a5 (.int .u8 122) fun a6 =>
 g69b101001000_11 (g69b1010 n) x0 x3 a6 st)
 (g69b101001000_11 (g69b1010 n) x0 x3 (.bool true) st))
 (A.lenS x0 fun a7 =>
 A.bin .geq a7 (.int .i64 1) fun a8 =>
 A.guard a8 true
 (A.lenS x0 fun a9 =>
 A.bin .leq a9 (.int .i64 16) fun a10 =>
 some (.ret a10.er1, st))
 (some (.ret ((.bool false) : V).er1, st)))
theorem g69n1010 : g69C [1, 0, 1, 0] = .loop (g69C [1, 0, 1, 0, 0]) := by kernel_rfl
theorem g69n10100 : g69C [1, 0, 1, 0, 0] = .seq (g69C [1, 0, 1, 0, 0, 0]) (g69C [1, 0, 1, 0, 0, 1]) := by kernel_rfl
theorem g69n101001 : g69C [1, 0, 1, 0, 0, 1] = .seq (g69C [1, 0, 1, 0, 0, 1, 0]) (g69C [1, 0, 1, 0, 0, 1, 1]) := by kernel_rfl
theorem g69n1010010 : g69C [1, 0, 1, 0, 0, 1, 0] = .block 1 (g69C [1, 0, 1, 0, 0, 1, 0, 0]) := by kernel_rfl
theorem g69n10100100 : g69C [1, 0, 1, 0, 0, 1, 0, 0] = .seq (g69C [1, 0, 1, 0, 0, 1, 0, 0, 0]) (g69C [1, 0, 1, 0, 0, 1, 0, 0, 1]) := by kernel_rfl
theorem g69rg101001000 : g69C [1, 0, 1, 0, 0, 1, 0, 0, 0] = .region 4 (rops (g69C [1, 0, 1, 0, 0, 1, 0, 0, 0])) false := by kernel_rfl
theorem g69rg101001000l : List.range (rops (g69C [1, 0, 1, 0, 0, 1, 0, 0, 0])).size = [0, 1, 2, 3, 4, 5, 6, 7, 8, 9, 10] ++ [11, 12, 13, 14, 15, 16, 17, 18, 19, 20, 21, 22, 23, 24, 25, 26, 27, 28, 29, 30, 31, 32, 33] := by kernel_rfl
theorem g69e1010 : g69X (g69C [1, 0, 1, 0]) (g69k1) = fun env st => g69b1010 big (env 0) (env 3) st := by
  have key : ∀ n, aloop (g69X (g69C [1, 0, 1, 0, 0])) (g69k1) n = fun env st => g69b1010 n (env 0) (env 3) st := by
    intro n
    induction n with
    | zero => rfl
    | succ n ih =>
      have h : aloop (g69X (g69C [1, 0, 1, 0, 0])) (g69k1) (n + 1) = g69X (g69C [1, 0, 1, 0, 0]) (kSeq (aloop (g69X (g69C [1, 0, 1, 0, 0])) (g69k1) n) (g69k1)) := rfl
      rw [h, ih]
      refine Eq.trans (g69seq g69n10100 ((g69seq g69n101001 rfl).trans ((g69blk g69n1010010).trans ((g69seq g69n10100100 rfl).trans (g69reg g69rg101001000 g69rg101001000l (g69e101001000_11 (g69b1010 n))))))) ?_
      funext env st
      kernel_rfl
  exact (g69loop g69n1010).trans (key big)
noncomputable def f69 (x0 : V) (st : St) : Res :=
 g69b1010 big x0 (.int .i64 0) st
theorem g69nr : g69C [] = .seq (g69C [0]) (g69C [1]) := by kernel_rfl
theorem g69n1 : g69C [1] = .seq (g69C [1, 0]) (g69C [1, 1]) := by kernel_rfl
theorem g69n10 : g69C [1, 0] = .seq (g69C [1, 0, 0]) (g69C [1, 0, 1]) := by kernel_rfl
theorem g69n101 : g69C [1, 0, 1] = .block 0 (g69C [1, 0, 1, 0]) := by kernel_rfl
theorem g69er (env : Env) (st : St) : g69X (g69C []) g69kr env st = f69 (env 0) st := by
  rw [(g69seq g69nr ((g69seq g69n1 rfl).trans (g69seq g69n10 ((g69blk g69n101).trans (g69e1010)))))]
  kernel_rfl
theorem s69_eq (x0 : V) (st : St) : s69 [x0] st = fg (f69 x0 st) st := by
  have h : afn Try.prog g69mu g69T big (areg Try.prog g69mu g69T) 69 [x0] st = g69X (g69C []) g69kr (fun t => [x0].getD t (.tup [])) st := by kernel_rfl
  rw [s69, sealF_eq]
  show fg _ st = fg _ st
  refine congrArg (fun r => fg r st) ?_
  exact h.trans (g69er _ st)
/-! sinew/sinewref09.shaped -/
def g91mu : Nat → Bool := fun _ => false
noncomputable def g91T (R : Fn) : Tbl := tget [(91, R), (69, s69)]
theorem g91t (R : Fn) (hR : Sim Try.prog 91 R) : SimT Try.prog (g91T R) := simT_cons hR (simT_cons sim69 (simT_nil))
noncomputable def s91n : Nat → Fn
| 0 => fun _ _ => none
| n + 1 => fun args st => fg (afn Try.prog g91mu (g91T (s91n n)) big (areg Try.prog g91mu (g91T (s91n n))) 91 args st) st
theorem sim91n : ∀ n, Sim Try.prog 91 (s91n n)
| 0 => ⟨by kernel_rfl, fun _ _ _ _ _ _ _ h => by cases h⟩
| n + 1 => (afn_sim (g91t (s91n n) (sim91n n)) (fun m => areg_sound (g91t (s91n n) (sim91n n)) hmix m) 91 (by kernel_rfl)).fg
noncomputable def s91 : Fn := sealF (s91n big)
theorem sim91 : Sim Try.prog 91 s91 := (sim91n big).sealed
theorem s91_n : s91 = s91n big := sealF_eq _
noncomputable def g91C (p : List Nat) : Code := sub (match Try.f91.body with | some c => c | none => .skip) p
noncomputable def g91X (R : Fn) (c : Code) (K : Kon) : Env → St → Res := aexec Try.prog g91mu (g91T R) big 69 (areg Try.prog g91mu (g91T R) 69) c K
noncomputable def g91kr (R : Fn) : Kon := aresK Try.prog Try.f91.results.toList
theorem g91reg (R : Fn) {c : Code} {K : Kon} {G : Env → St → Res} {id : Nat} {ops : Array Oper} {l1 l2 : List Nat} (hc : c = .region id ops false) (hl : List.range ops.size = l1 ++ l2) (h : (fun env st => aops Try.prog g91mu (g91T R) 69 ops l2 env st (K .normal)) = G) : (g91X R) c K = fun env st => aops Try.prog g91mu (g91T R) 69 ops l1 env st G := reg_cut hc hl h
theorem g91seq (R : Fn) {c x y : Code} {K : Kon} {G : Env → St → Res} (hc : c = .seq x y) (hy : (g91X R) y K = G) : (g91X R) c K = (g91X R) x (kSeq G K) := seq_cut hc hy
theorem g91blk (R : Fn) {c x : Code} {K : Kon} {i : Nat} (hc : c = .block i x) : (g91X R) c K = (g91X R) x (kBlk i K) := blk_cut hc
theorem g91loop (R : Fn) {c x : Code} {K : Kon} (hc : c = .loop x) : (g91X R) c K = aloop ((g91X R) x) K big := loop_cut hc
theorem g91cond (R : Fn) {c x y : Code} {K : Kon} {v : Operand} {F G : Env → St → Res} (hc : c = .cond v x y) (hx : (g91X R) x K = F) (hy : (g91X R) y K = G) : (g91X R) c K = condF v F G := cond_cut hc hx hy
noncomputable def g91k0 (R : Fn) : Kon := kSeq ((g91X R) (g91C [1, 1, 1, 1, 1, 1]) ((g91kr R))) ((g91kr R))
noncomputable def g91k1 (R : Fn) : Kon := kBlk 1 ((g91k0 R))
noncomputable def g91b11111010 (R : Fn) : Nat → V → V → V → V → St → Res
| 0, _, _, _, _, _ => none
| n + 1, x1, x2, x5, x7, st =>
 A.bin .lss x7 x5 fun a1 =>
 A.cond a1
 (A.faddr 2 x2 fun a2 =>
 A.load false 1 a2 st fun a3 z4 =>
 A.iaddr 3 a3 x7 fun a5 =>
 A.load true 3 a5 z4 fun a6 z7 =>
 A.bin .sub x1 (.int .i64 1) fun a8 =>
 A.ret (R [a6.er1, a8.er1] z7) fun a9 z10 =>
 A.un .not a9 fun a11 =>
 A.cond a11
 (some (.ret ((.bool false) : V).er1, z10))
 (A.bin .add x7 (.int .i64 1) fun a12 =>
 ((g91b11111010 R) n) x1 x2 x5 a12 z10))
 (some (.ret ((.bool true) : V).er1, st))
theorem g91n11111010 : g91C [1, 1, 1, 1, 1, 0, 1, 0] = .loop (g91C [1, 1, 1, 1, 1, 0, 1, 0, 0]) := by kernel_rfl
noncomputable def g91k2 (R : Fn) (L11111010 : V → V → V → V → St → Res) : Kon := kSeq (fun env st => L11111010 (env 1) (env 2) (env 5) (env 7) st) ((g91k1 R))
theorem g91e11111010 (R : Fn) : (g91X R) (g91C [1, 1, 1, 1, 1, 0, 1, 0]) ((g91k1 R)) = fun env st => (g91b11111010 R) big (env 1) (env 2) (env 5) (env 7) st := by
  have key : ∀ n, aloop ((g91X R) (g91C [1, 1, 1, 1, 1, 0, 1, 0, 0])) ((g91k1 R)) n = fun env st => (g91b11111010 R) n (env 1) (env 2) (env 5) (env 7) st := by
    intro n
    induction n with
    | zero => rfl
    | succ n ih =>
      have h : aloop ((g91X R) (g91C [1, 1, 1, 1, 1, 0, 1, 0, 0])) ((g91k1 R)) (n + 1) = (g91X R) (g91C [1, 1, 1, 1, 1, 0, 1, 0, 0]) (kSeq (aloop ((g91X R) (g91C [1, 1, 1, 1, 1, 0, 1, 0, 0])) ((g91k1 R)) n) ((g91k1 R))) := rfl
      rw [h, ih]
      refine Eq.trans (Eq.refl _) ?_
      funext env st
      kernel_rfl
  exact ((g91loop R) g91n11111010).trans (key big)
noncomputable def g91b11111 (R : Fn) (x1 : V) (x2 : V) (x5 : V) (st : St) : Res :=
 (g91b11111010 R) big x1 x2 x5 (.int .i64 0) st
theorem g91n11111 : g91C [1, 1, 1, 1, 1] = .seq (g91C [1, 1, 1, 1, 1, 0]) (g91C [1, 1, 1, 1, 1, 1]) := by kernel_rfl
theorem g91n111110 : g91C [1, 1, 1, 1, 1, 0] = .seq (g91C [1, 1, 1, 1, 1, 0, 0]) (g91C [1, 1, 1, 1, 1, 0, 1]) := by kernel_rfl
theorem g91n1111101 : g91C [1, 1, 1, 1, 1, 0, 1] = .block 1 (g91C [1, 1, 1, 1, 1, 0, 1, 0]) := by kernel_rfl
theorem g91e11111 (R : Fn) : (g91X R) (g91C [1, 1, 1, 1, 1]) ((g91kr R)) = fun env st => (g91b11111 R) (env 1) (env 2) (env 5) st := by
  refine Eq.trans (((g91seq R) g91n11111 rfl).trans ((g91seq R) g91n111110 (((g91blk R) g91n1111101).trans ((g91e11111010 R))))) ?_
  funext env st
  kernel_rfl
noncomputable def g91b1111 (R : Fn) (x1 : V) (x2 : V) (x5 : V) (x6 : V) (st : St) : Res :=
 A.un .not x6 fun a1 =>
 A.guard a1 false
 (A.faddr 1 x2 fun a2 =>
 A.load false 1 a2 st fun a3 z4 =>
 A.eql 3 true a3 (.str []) fun a5 =>
 A.guard a5 false
 (A.bin .gtr x5 (.int .i64 24) fun a6 =>
 A.cond a6
 (some (.ret ((.bool false) : V).er1, z4))
 ((g91b11111 R) x1 x2 x5 z4))
 (some (.ret ((.bool false) : V).er1, z4)))
 (some (.ret ((.bool false) : V).er1, st))
theorem g91n1111 : g91C [1, 1, 1, 1] = .seq (g91C [1, 1, 1, 1, 0]) (g91C [1, 1, 1, 1, 1]) := by kernel_rfl
theorem g91e1111 (R : Fn) : (g91X R) (g91C [1, 1, 1, 1]) ((g91kr R)) = fun env st => (g91b1111 R) (env 1) (env 2) (env 5) (env 6) st := by
  refine Eq.trans ((g91seq R) g91n1111 ((g91e11111 R))) ?_
  funext env st
  kernel_rfl
noncomputable def g91k3 (R : Fn) : Kon := kSeq (fun env st => (g91b1111 R) (env 1) (env 2) (env 5) (env 6) st) ((g91kr R))
noncomputable def g91k4 (R : Fn) : Kon := kBlk 0 ((g91k3 R))
noncomputable def g91b11101011111 (R : Fn) (x1 : V) (x2 : V) (x5 : V) (x6 : V) (x35 : V) (st : St) : Res :=
 A.cond x35
 (A.guard x6 true
 (A.eql 2 false x5 (.int .i64 1) fun a1 =>
 (g91b1111 R) x1 x2 x5 a1 st)
 ((g91b1111 R) x1 x2 x5 (.bool false) st))
 (some (.ret ((.bool false) : V).er1, st))
theorem g91e11101011111 (R : Fn) : (g91X R) (g91C [1, 1, 1, 0, 1, 0, 1, 1, 1, 1, 1]) ((g91k4 R)) = fun env st => (g91b11101011111 R) (env 1) (env 2) (env 5) (env 6) (env 35) st := by
  refine Eq.trans (Eq.refl ((g91X R) (g91C [1, 1, 1, 0, 1, 0, 1, 1, 1, 1, 1]) ((g91k4 R)))) ?_
  funext env st
  kernel_rfl
noncomputable def g91b111010111 (R : Fn) (x1 : V) (x2 : V) (x5 : V) (x6 : V) (x14 : V) (x27 : V) (st : St) : Res :=
 A.cond x27
 (A.guard x6 true
 (A.bin .geq x5 (.int .i64 2) fun a1 =>
 (g91b1111 R) x1 x2 x5 a1 st)
 ((g91b1111 R) x1 x2 x5 (.bool false) st))
 (A.eql 2 false x14 (.int .i64 4) fun a2 =>
 A.cond a2
 ((g91b11101011111 R) x1 x2 x5 x6 a2 st)
 (A.eql 2 false x14 (.int .i64 5) fun a3 =>
 A.cond a3
 ((g91b11101011111 R) x1 x2 x5 x6 a3 st)
 (A.eql 2 false x14 (.int .i64 6) fun a4 =>
 (g91b11101011111 R) x1 x2 x5 x6 a4 st)))
theorem g91n111010111 : g91C [1, 1, 1, 0, 1, 0, 1, 1, 1] = .cond (.tmp 27) (g91C [1, 1, 1, 0, 1, 0, 1, 1, 1, 0]) (g91C [1, 1, 1, 0, 1, 0, 1, 1, 1, 1]) := by kernel_rfl
theorem g91n1110101111 : g91C [1, 1, 1, 0, 1, 0, 1, 1, 1, 1] = .seq (g91C [1, 1, 1, 0, 1, 0, 1, 1, 1, 1, 0]) (g91C [1, 1, 1, 0, 1, 0, 1, 1, 1, 1, 1]) := by kernel_rfl
theorem g91e111010111 (R : Fn) : (g91X R) (g91C [1, 1, 1, 0, 1, 0, 1, 1, 1]) ((g91k4 R)) = fun env st => (g91b111010111 R) (env 1) (env 2) (env 5) (env 6) (env 14) (env 27) st := by
  refine Eq.trans ((g91cond R) g91n111010111 rfl ((g91seq R) g91n1110101111 ((g91e11101011111 R)))) ?_
  funext env st
  kernel_rfl
noncomputable def g91b11101 (R : Fn) (x1 : V) (x2 : V) (x5 : V) (x6 : V) (x14 : V) (st : St) : Res :=
 A.eql 2 false x14 (.int .i64 1) fun a1 =>
 A.cond a1
 (A.guard x6 true
 (A.eql 2 false x5 (.int .i64 0) fun a2 =>
 A.guard a2 true
 (A.faddr 1 x2 fun a3 =>
 A.load false 1 a3 st fun a4 z5 =>
 A.ret (s69 [a4.er1] z5) fun a6 z7 =>
 some (.ret a6.er1, z7))
 (some (.ret ((.bool false) : V).er1, st)))
 (some (.ret ((.bool false) : V).er1, st)))
 (A.eql 2 false x14 (.int .i64 2) fun a8 =>
 A.cond a8
 ((g91b111010111 R) x1 x2 x5 x6 x14 a8 st)
 (A.eql 2 false x14 (.int .i64 3) fun a9 =>
 (g91b111010111 R) x1 x2 x5 x6 x14 a9 st))
theorem g91n11101 : g91C [1, 1, 1, 0, 1] = .block 0 (g91C [1, 1, 1, 0, 1, 0]) := by kernel_rfl
theorem g91n111010 : g91C [1, 1, 1, 0, 1, 0] = .seq (g91C [1, 1, 1, 0, 1, 0, 0]) (g91C [1, 1, 1, 0, 1, 0, 1]) := by kernel_rfl
theorem g91n1110101 : g91C [1, 1, 1, 0, 1, 0, 1] = .cond (.tmp 15) (g91C [1, 1, 1, 0, 1, 0, 1, 0]) (g91C [1, 1, 1, 0, 1, 0, 1, 1]) := by kernel_rfl
theorem g91n11101011 : g91C [1, 1, 1, 0, 1, 0, 1, 1] = .seq (g91C [1, 1, 1, 0, 1, 0, 1, 1, 0]) (g91C [1, 1, 1, 0, 1, 0, 1, 1, 1]) := by kernel_rfl
theorem g91e11101 (R : Fn) : (g91X R) (g91C [1, 1, 1, 0, 1]) ((g91k3 R)) = fun env st => (g91b11101 R) (env 1) (env 2) (env 5) (env 6) (env 14) st := by
  refine Eq.trans (((g91blk R) g91n11101).trans ((g91seq R) g91n111010 ((g91cond R) g91n1110101 rfl ((g91seq R) g91n11101011 ((g91e111010111 R)))))) ?_
  funext env st
  kernel_rfl
noncomputable def f91 (R : Fn) (x0 : V) (x1 : V) (st : St) : Res :=
 A.box x0 st fun a1 z2 =>
 A.faddr 2 a1 fun a3 =>
 A.load false 1 a3 z2 fun a4 z5 =>
 A.lenL a4 fun a6 =>
 A.bin .gtr x1 (.int .i64 0) fun a7 =>
 A.faddr 0 a1 fun a8 =>
 A.load false 1 a8 z5 fun a9 z10 =>
 (g91b11101 R) x1 a1 a6 a7 a9 z10
theorem g91nr : g91C [] = .seq (g91C [0]) (g91C [1]) := by kernel_rfl
theorem g91n1 : g91C [1] = .seq (g91C [1, 0]) (g91C [1, 1]) := by kernel_rfl
theorem g91n11 : g91C [1, 1] = .seq (g91C [1, 1, 0]) (g91C [1, 1, 1]) := by kernel_rfl
theorem g91n111 : g91C [1, 1, 1] = .seq (g91C [1, 1, 1, 0]) (g91C [1, 1, 1, 1]) := by kernel_rfl
theorem g91n1110 : g91C [1, 1, 1, 0] = .seq (g91C [1, 1, 1, 0, 0]) (g91C [1, 1, 1, 0, 1]) := by kernel_rfl
theorem g91er (R : Fn) (env : Env) (st : St) : (g91X R) (g91C []) (g91kr R) env st = (f91 R) (env 0) (env 1) st := by
  rw [((g91seq R) g91nr ((g91seq R) g91n1 ((g91seq R) g91n11 (((g91seq R) g91n111 ((g91e1111 R))).trans ((g91seq R) g91n1110 ((g91e11101 R)))))))]
  kernel_rfl
theorem s91n_eq (n : Nat) (x0 : V) (x1 : V) (st : St) : s91n (n + 1) [x0, x1] st = fg ((f91 (s91n n)) x0 x1 st) st := by
  have h : afn Try.prog g91mu (g91T (s91n n)) big (areg Try.prog g91mu (g91T (s91n n))) 91 [x0, x1] st = (g91X (s91n n)) (g91C []) (g91kr (s91n n)) (fun t => [x0, x1].getD t (.tup [])) st := by kernel_rfl
  show fg (afn Try.prog g91mu (g91T (s91n n)) big (areg Try.prog g91mu (g91T (s91n n))) 91 _ st) st = fg _ st
  refine congrArg (fun r => fg r st) ?_
  exact h.trans ((g91er (s91n n)) _ st)
/-! sinew/sinewref09.MayPath -/
def g70mu : Nat → Bool := fun _ => false
noncomputable def g70T : Tbl := tget [(61, s61), (91, s91)]
theorem g70t : SimT Try.prog g70T := simT_cons sim61 ( simT_cons sim91 (simT_nil))
noncomputable def s70 : Fn := sealF (fun args st => fg (afn Try.prog g70mu g70T big (areg Try.prog g70mu g70T) 70 args st) st)
theorem sim70 : Sim Try.prog 70 s70 := (afn_sim g70t (fun m => areg_sound g70t hmix m) 70 (by kernel_rfl)).fg.sealed
noncomputable def f70 (x0 : V) (st : St) : Res :=
 A.box x0 st fun a1 z2 =>
 A.load true 3 a1 z2 fun a3 z4 =>
 A.ret (s91 [a3.er1, ((.int .i64 12) : V).er1] z4) fun a5 z6 =>
 A.guard a5 true
 (A.load true 3 a1 z6 fun a7 z8 =>
 A.ret (s61 [a7.er1] z8) fun a9 z10 =>
 A.bin .leq a9 (.int .i64 24) fun a11 =>
 some (.ret a11.er1, z10))
 (some (.ret ((.bool false) : V).er1, z6))
theorem s70_eq (x0 : V) (st : St) : s70 [x0] st = fg (f70 x0 st) st := by
  rw [s70, sealF_eq]
  show fg _ st = fg _ st
  refine congrArg (fun r => fg r st) ?_
  kernel_rfl
/-! sinew/sinewref09.May -/
def g35mu : Nat → Bool := fun _ => false
noncomputable def g35T : Tbl := tget [(29, s29), (69, s69), (70, s70)]
theorem g35t : SimT Try.prog g35T := simT_cons sim29 ( simT_cons sim69 ( simT_cons sim70 (simT_nil)))
noncomputable def s35 : Fn := sealF (fun args st => fg (afn Try.prog g35mu g35T big (areg Try.prog g35mu g35T) 35 args st) st)
theorem sim35 : Sim Try.prog 35 s35 := (afn_sim g35t (fun m => areg_sound g35t hmix m) 35 (by kernel_rfl)).fg.sealed
noncomputable def g35C (p : List Nat) : Code := sub (match Try.f35.body with | some c => c | none => .skip) p
noncomputable def g35X (c : Code) (K : Kon) : Env → St → Res := aexec Try.prog g35mu g35T big 143 (areg Try.prog g35mu g35T 143) c K
noncomputable def g35kr : Kon := aresK Try.prog Try.f35.results.toList
theorem g35reg {c : Code} {K : Kon} {G : Env → St → Res} {id : Nat} {ops : Array Oper} {l1 l2 : List Nat} (hc : c = .region id ops false) (hl : List.range ops.size = l1 ++ l2) (h : (fun env st => aops Try.prog g35mu g35T 143 ops l2 env st (K .normal)) = G) : g35X c K = fun env st => aops Try.prog g35mu g35T 143 ops l1 env st G := reg_cut hc hl h
theorem g35seq {c x y : Code} {K : Kon} {G : Env → St → Res} (hc : c = .seq x y) (hy : g35X y K = G) : g35X c K = g35X x (kSeq G K) := seq_cut hc hy
theorem g35blk {c x : Code} {K : Kon} {i : Nat} (hc : c = .block i x) : g35X c K = g35X x (kBlk i K) := blk_cut hc
theorem g35loop {c x : Code} {K : Kon} (hc : c = .loop x) : g35X c K = aloop (g35X x) K big := loop_cut hc
theorem g35cond {c x y : Code} {K : Kon} {v : Operand} {F G : Env → St → Res} (hc : c = .cond v x y) (hx : g35X x K = F) (hy : g35X y K = G) : g35X c K = condF v F G := cond_cut hc hx hy
noncomputable def g35k0 : Kon := kSeq (g35X (g35C [1, 1, 1, 1, 1, 1]) (g35kr)) (g35kr)
noncomputable def g35k1 : Kon := kBlk 4 (g35k0)
noncomputable def g35k2 (L11111010 : V → V → V → St → Res) : Kon := kSeq (fun env st => L11111010 (env 1) (env 3) (env 7) st) (g35k1)
noncomputable def g35k3 (L11111010 : V → V → V → St → Res) : Kon := kSeq (g35X (g35C [1, 1, 1, 1, 1, 0, 1, 0, 0, 1, 1]) (g35k2 L11111010)) (g35k2 L11111010)
noncomputable def g35k4 (L11111010 : V → V → V → St → Res) : Kon := kBlk 5 (g35k3 L11111010)
noncomputable def g35k5 (L11111010 : V → V → V → St → Res) : Kon := kSeq (g35X (g35C [1, 1, 1, 1, 1, 0, 1, 0, 0, 1, 0, 0, 1, 1]) (g35k4 L11111010)) (g35k4 L11111010)
noncomputable def g35b11111010010010_13 (L11111010 : V → V → V → St → Res) (x1 : V) (x3 : V) (x7 : V) (x8 : V) (x134 : V) (st : St) : Res :=
 A.guard x134 false
 (A.faddr 2 x8 fun a1 =>
 A.load true 3 a1 st fun a2 z3 =>
 A.ret (s70 [a2.er1] z3) fun a4 z5 =>
 A.un .not a4 fun a6 =>
 A.cond a6
 (some (.ret ((.bool false) : V).er1, z5))
 (A.bin .add x7 (.int .i64 1) fun a7 =>
 L11111010 x1 x3 a7 z5))
 (some (.ret ((.bool false) : V).er1, st))
theorem g35e11111010010010_13 (L11111010 : V → V → V → St → Res) : (fun env st => aops Try.prog g35mu g35T 143 (rops (g35C [1, 1, 1, 1, 1, 0, 1, 0, 0, 1, 0, 0, 1, 0])) [13, 14, 15, 16, 17] env st ((g35k5 L11111010) .normal)) = fun env st => g35b11111010010010_13 L11111010 (env 1) (env 3) (env 7) (env 8) (env 134) st := by
  refine Eq.trans (Eq.refl _) ?_
  funext env st
  kernel_rfl
noncomputable def g35b11111010010010_6 (L11111010 : V → V → V → St → Res) (x1 : V) (x3 : V) (x7 : V) (x8 : V) (x127 : V) (st : St) : Res :=
 A.guard x127 false
 (A.faddr 5 x8 fun a1 =>
 A.faddr 1 a1 fun a2 =>
 A.load false 1 a2 st fun a3 z4 =>
 A.ret (s69 [a3.er1] z4) fun a5 z6 =>
 A.un .not a5 fun a7 =>
 g35b11111010010010_13 L11111010 x1 x3 x7 x8 a7 z6)
 (g35b11111010010010_13 L11111010 x1 x3 x7 x8 (.bool true) st)
theorem g35e11111010010010_6 (L11111010 : V → V → V → St → Res) : (fun env st => aops Try.prog g35mu g35T 143 (rops (g35C [1, 1, 1, 1, 1, 0, 1, 0, 0, 1, 0, 0, 1, 0])) [6, 7, 8, 9, 10, 11, 12, 13, 14, 15, 16, 17] env st ((g35k5 L11111010) .normal)) = fun env st => g35b11111010010010_6 L11111010 (env 1) (env 3) (env 7) (env 8) (env 127) st := by
  refine Eq.trans (ops_cut (l1 := [6, 7, 8, 9, 10, 11, 12]) (l2 := [13, 14, 15, 16, 17]) (g35e11111010010010_13 L11111010)) ?_
  funext env st
  kernel_rfl
noncomputable def g35b1111101001001 (L11111010 : V → V → V → St → Res) (x1 : V) (x3 : V) (x7 : V) (x8 : V) (st : St) : Res :=
 A.faddr 0 x8 fun a1 =>
 A.faddr 1 a1 fun a2 =>
 A.load false 1 a2 st fun a3 z4 =>
 A.ret (s69 [a3.er1] z4) fun a5 z6 =>
 A.un .not a5 fun a7 =>
 g35b11111010010010_6 L11111010 x1 x3 x7 x8 a7 z6
theorem g35n1111101001001 : g35C [1, 1, 1, 1, 1, 0, 1, 0, 0, 1, 0, 0, 1] = .seq (g35C [1, 1, 1, 1, 1, 0, 1, 0, 0, 1, 0, 0, 1, 0]) (g35C [1, 1, 1, 1, 1, 0, 1, 0, 0, 1, 0, 0, 1, 1]) := by kernel_rfl
theorem g35rg11111010010010 : g35C [1, 1, 1, 1, 1, 0, 1, 0, 0, 1, 0, 0, 1, 0] = .region 21 (rops (g35C [1, 1, 1, 1, 1, 0, 1, 0, 0, 1, 0, 0, 1, 0])) false := by kernel_rfl
theorem g35rg11111010010010l : List.range (rops (g35C [1, 1, 1, 1, 1, 0, 1, 0, 0, 1, 0, 0, 1, 0])).size = [0, 1, 2, 3, 4, 5] ++ [6, 7, 8, 9, 10, 11, 12, 13, 14, 15, 16, 17] := by kernel_rfl
theorem g35e1111101001001 (L11111010 : V → V → V → St → Res) : g35X (g35C [1, 1, 1, 1, 1, 0, 1, 0, 0, 1, 0, 0, 1]) (g35k4 L11111010) = fun env st => g35b1111101001001 L11111010 (env 1) (env 3) (env 7) (env 8) st := by
  refine Eq.trans ((g35seq g35n1111101001001 rfl).trans (g35reg g35rg11111010010010 g35rg11111010010010l (g35e11111010010010_6 L11111010))) ?_
  funext env st
  kernel_rfl
noncomputable def g35b11111010 : Nat → V → V → V → St → Res
| 0, _, _, _, _ => none
| n + 1, x1, x3, x7, st =>
 A.faddr 1 x3 fun a1 =>
 A.load false 1 a1 st fun a2 z3 =>
 A.lenL a2 fun a4 =>
 A.bin .lss x7 a4 fun a5 =>
 A.cond a5
 (A.faddr 1 x3 fun a6 =>
 A.load false 1 a6 z3 fun a7 z8 =>
 A.iaddr 7 a7 x7 fun a9 =>
 A.load true 7 a9 z8 fun a10 z11 =>
 A.box (.agg [(.bool false), (.str []), (.int .i64 0), (.str []), (.lst [] 1), (.bool false), (.str [])]) z11 fun a12 z13 =>
 A.store 7 a12 a10 z13 fun z14 =>
 g35b1111101001001 (g35b11111010 n) x1 x3 x7 a12 z14)
 (A.load true 4 x1 z3 fun a15 z16 =>
 A.ret (s29 [a15.er1] z16) fun a17 z18 =>
 A.eql 2 false a17 (.int .i64 0) fun a19 =>
 some (.ret a19.er1, z18))
theorem g35n11111010 : g35C [1, 1, 1, 1, 1, 0, 1, 0] = .loop (g35C [1, 1, 1, 1, 1, 0, 1, 0, 0]) := by kernel_rfl
theorem g35n111110100 : g35C [1, 1, 1, 1, 1, 0, 1, 0, 0] = .seq (g35C [1, 1, 1, 1, 1, 0, 1, 0, 0, 0]) (g35C [1, 1, 1, 1, 1, 0, 1, 0, 0, 1]) := by kernel_rfl
theorem g35n1111101001 : g35C [1, 1, 1, 1, 1, 0, 1, 0, 0, 1] = .seq (g35C [1, 1, 1, 1, 1, 0, 1, 0, 0, 1, 0]) (g35C [1, 1, 1, 1, 1, 0, 1, 0, 0, 1, 1]) := by kernel_rfl
theorem g35n11111010010 : g35C [1, 1, 1, 1, 1, 0, 1, 0, 0, 1, 0] = .block 5 (g35C [1, 1, 1, 1, 1, 0, 1, 0, 0, 1, 0, 0]) := by kernel_rfl
theorem g35n111110100100 : g35C [1, 1, 1, 1, 1, 0, 1, 0, 0, 1, 0, 0] = .seq (g35C [1, 1, 1, 1, 1, 0, 1, 0, 0, 1, 0, 0, 0]) (g35C [1, 1, 1, 1, 1, 0, 1, 0, 0, 1, 0, 0, 1]) := by kernel_rfl
theorem g35e11111010 : g35X (g35C [1, 1, 1, 1, 1, 0, 1, 0]) (g35k1) = fun env st => g35b11111010 big (env 1) (env 3) (env 7) st := by
  have key : ∀ n, aloop (g35X (g35C [1, 1, 1, 1, 1, 0, 1, 0, 0])) (g35k1) n = fun env st => g35b11111010 n (env 1) (env 3) (env 7) st := by
    intro n
    induction n with
    | zero => rfl
    | succ n ih =>
      have h : aloop (g35X (g35C [1, 1, 1, 1, 1, 0, 1, 0, 0])) (g35k1) (n + 1) = g35X (g35C [1, 1, 1, 1, 1, 0, 1, 0, 0]) (kSeq (aloop (g35X (g35C [1, 1, 1, 1, 1, 0, 1, 0, 0])) (g35k1) n) (g35k1)) := rfl
      rw [h, ih]
      refine Eq.trans (g35seq g35n111110100 ((g35seq g35n1111101001 rfl).trans ((g35blk g35n11111010010).trans (g35seq g35n111110100100 (g35e1111101001001 (g35b11111010 n)))))) ?_
      funext env st
      kernel_rfl
  exact (g35loop g35n11111010).trans (key big)
noncomputable def g35b11111 (x1 : V) (x3 : V) (st : St) : Res :=
 g35b11111010 big x1 x3 (.int .i64 0) st
theorem g35n11111 : g35C [1, 1, 1, 1, 1] = .seq (g35C [1, 1, 1, 1, 1, 0]) (g35C [1, 1, 1, 1, 1, 1]) := by kernel_rfl
theorem g35n111110 : g35C [1, 1, 1, 1, 1, 0] = .seq (g35C [1, 1, 1, 1, 1, 0, 0]) (g35C [1, 1, 1, 1, 1, 0, 1]) := by kernel_rfl
theorem g35n1111101 : g35C [1, 1, 1, 1, 1, 0, 1] = .block 4 (g35C [1, 1, 1, 1, 1, 0, 1, 0]) := by kernel_rfl
theorem g35e11111 : g35X (g35C [1, 1, 1, 1, 1]) (g35kr) = fun env st => g35b11111 (env 1) (env 3) st := by
  refine Eq.trans ((g35seq g35n11111 rfl).trans (g35seq g35n111110 ((g35blk g35n1111101).trans (g35e11111010)))) ?_
  funext env st
  kernel_rfl
noncomputable def g35k6 : Kon := kSeq (fun env st => g35b11111 (env 1) (env 3) st) (g35kr)
noncomputable def g35k7 : Kon := kBlk 2 (g35k6)
noncomputable def g35b1111010 : Nat → V → V → V → St → Res
| 0, _, _, _, _ => none
| n + 1, x1, x3, x6, st =>
 A.faddr 0 x3 fun a1 =>
 A.load false 1 a1 st fun a2 z3 =>
 A.lenL a2 fun a4 =>
 A.bin .lss x6 a4 fun a5 =>
 A.cond a5
 (A.faddr 0 x3 fun a6 =>
 A.load false 1 a6 z3 fun a7 z8 =>
 A.iaddr 1 a7 x6 fun a9 =>
 A.load false 1 a9 z8 fun a10 z11 =>
 A.ret (s69 [a10.er1] z11) fun a12 z13 =>
 A.un .not a12 fun a14 =>
 A.cond a14
 (some (.ret ((.bool false) : V).er1, z13))
 (A.bin .add x6 (.int .i64 1) fun a15 =>
 (g35b1111010 n) x1 x3 a15 z13))
 (g35b11111 x1 x3 z3)
theorem g35n1111010 : g35C [1, 1, 1, 1, 0, 1, 0] = .loop (g35C [1, 1, 1, 1, 0, 1, 0, 0]) := by kernel_rfl
noncomputable def g35k8 (L1111010 : V → V → V → St → Res) : Kon := kSeq (fun env st => L1111010 (env 1) (env 3) (env 6) st) (g35k7)
theorem g35e1111010 : g35X (g35C [1, 1, 1, 1, 0, 1, 0]) (g35k7) = fun env st => g35b1111010 big (env 1) (env 3) (env 6) st := by
  have key : ∀ n, aloop (g35X (g35C [1, 1, 1, 1, 0, 1, 0, 0])) (g35k7) n = fun env st => g35b1111010 n (env 1) (env 3) (env 6) st := by
    intro n
    induction n with
    | zero => rfl
    | succ n ih =>
      have h : aloop (g35X (g35C [1, 1, 1, 1, 0, 1, 0, 0])) (g35k7) (n + 1) = g35X (g35C [1, 1, 1, 1, 0, 1, 0, 0]) (kSeq (aloop (g35X (g35C [1, 1, 1, 1, 0, 1, 0, 0])) (g35k7) n) (g35k7)) := rfl
      rw [h, ih]
      refine Eq.trans (Eq.refl _) ?_
      funext env st
      kernel_rfl
  exact (g35loop g35n1111010).trans (key big)
noncomputable def g35b1111 (x1 : V) (x3 : V) (st : St) : Res :=
 g35b1111010 big x1 x3 (.int .i64 0) st
theorem g35n1111 : g35C [1, 1, 1, 1] = .seq (g35C [1, 1, 1, 1, 0]) (g35C [1, 1, 1, 1, 1]) := by kernel_rfl
theorem g35n11110 : g35C [1, 1, 1, 1, 0] = .seq (g35C [1, 1, 1, 1, 0, 0]) (g35C [1, 1, 1, 1, 0, 1]) := by kernel_rfl
theorem g35n111101 : g35C [1, 1, 1, 1, 0, 1] = .block 2 (g35C [1, 1, 1, 1, 0, 1, 0]) := by kernel_rfl
theorem g35e1111 : g35X (g35C [1, 1, 1, 1]) (g35kr) = fun env st => g35b1111 (env 1) (env 3) st := by
  refine Eq.trans ((g35seq g35n1111 (g35e11111)).trans (g35seq g35n11110 ((g35blk g35n111101).trans (g35e1111010)))) ?_
  funext env st
  kernel_rfl
noncomputable def g35k9 : Kon := kSeq (fun env st => g35b1111 (env 1) (env 3) st) (g35kr)
noncomputable def g35k10 : Kon := kSeq (g35X (g35C [1, 1, 1, 0, 1]) (g35k9)) (g35k9)
noncomputable def g35b11100_28 (x1 : V) (x3 : V) (x90 : V) (st : St) : Res :=
 A.guard x90 false
 (A.faddr 1 x3 fun a1 =>
 A.load false 1 a1 st fun a2 z3 =>
 A.lenL a2 fun a4 =>
 A.bin .gtr a4 (.int .i64 6) fun a5 =>
 A.cond a5
 (some (.ret ((.bool false) : V).er1, z3))
 (g35b1111 x1 x3 z3))
 (some (.ret ((.bool false) : V).er1, st))
theorem g35e11100_28 : (fun env st => aops Try.prog g35mu g35T 143 (rops (g35C [1, 1, 1, 0, 0])) [28, 29, 30, 31, 32] env st ((g35k10) .normal)) = fun env st => g35b11100_28 (env 1) (env 3) (env 90) st := by
  refine Eq.trans (Eq.refl _) ?_
  funext env st
  kernel_rfl
noncomputable def g35b11100_22 (x1 : V) (x3 : V) (x84 : V) (st : St) : Res :=
 A.guard x84 false
 (A.faddr 1 x3 fun a1 =>
 A.load false 1 a1 st fun a2 z3 =>
 A.lenL a2 fun a4 =>
 A.bin .lss a4 (.int .i64 1) fun a5 =>
 g35b11100_28 x1 x3 a5 z3)
 (g35b11100_28 x1 x3 (.bool true) st)
theorem g35e11100_22 : (fun env st => aops Try.prog g35mu g35T 143 (rops (g35C [1, 1, 1, 0, 0])) [22, 23, 24, 25, 26, 27, 28, 29, 30, 31, 32] env st ((g35k10) .normal)) = fun env st => g35b11100_22 (env 1) (env 3) (env 84) st := by
  refine Eq.trans (ops_cut (l1 := [22, 23, 24, 25, 26, 27]) (l2 := [28, 29, 30, 31, 32]) (g35e11100_28)) ?_
  funext env st
  kernel_rfl
noncomputable def g35b11100_16 (x1 : V) (x3 : V) (x78 : V) (st : St) : Res :=
 A.guard x78 false
 (A.faddr 0 x3 fun a1 =>
 A.load false 1 a1 st fun a2 z3 =>
 A.lenL a2 fun a4 =>
 A.bin .gtr a4 (.int .i64 6) fun a5 =>
 g35b11100_22 x1 x3 a5 z3)
 (g35b11100_22 x1 x3 (.bool true) st)
theorem g35e11100_16 : (fun env st => aops Try.prog g35mu g35T 143 (rops (g35C [1, 1, 1, 0, 0])) [16, 17, 18, 19, 20, 21, 22, 23, 24, 25, 26, 27, 28, 29, 30, 31, 32] env st ((g35k10) .normal)) = fun env st => g35b11100_16 (env 1) (env 3) (env 78) st := by
  refine Eq.trans (ops_cut (l1 := [16, 17, 18, 19, 20, 21]) (l2 := [22, 23, 24, 25, 26, 27, 28, 29, 30, 31, 32]) (g35e11100_22)) ?_
  funext env st
  kernel_rfl
noncomputable def g35b11100_10 (x1 : V) (x3 : V) (x72 : V) (st : St) : Res :=
 A.guard x72 false
 (A.faddr 0 x3 fun a1 =>
 A.load false 1 a1 st fun a2 z3 =>
 A.lenL a2 fun a4 =>
 A.bin .lss a4 (.int .i64 1) fun a5 =>
 g35b11100_16 x1 x3 a5 z3)
 (g35b11100_16 x1 x3 (.bool true) st)
theorem g35e11100_10 : (fun env st => aops Try.prog g35mu g35T 143 (rops (g35C [1, 1, 1, 0, 0])) [10, 11, 12, 13, 14, 15, 16, 17, 18, 19, 20, 21, 22, 23, 24, 25, 26, 27, 28, 29, 30, 31, 32] env st ((g35k10) .normal)) = fun env st => g35b11100_10 (env 1) (env 3) (env 72) st := by
  refine Eq.trans (ops_cut (l1 := [10, 11, 12, 13, 14, 15]) (l2 := [16, 17, 18, 19, 20, 21, 22, 23, 24, 25, 26, 27, 28, 29, 30, 31, 32]) (g35e11100_16)) ?_
  funext env st
  kernel_rfl
noncomputable def g35b111 (x1 : V) (x3 : V) (st : St) : Res :=
 A.faddr 0 x1 fun a1 =>
 A.load false 1 a1 st fun a2 z3 =>
 A.eql 2 true a2 (.int .i64 1) fun a4 =>
 A.guard a4 false
 (A.faddr 3 x1 fun a5 =>
 A.load false 1 a5 z3 fun a6 z7 =>
 A.lenL a6 fun a8 =>
 A.bin .gtr a8 (.int .i64 0) fun a9 =>
 g35b11100_10 x1 x3 a9 z7)
 (g35b11100_10 x1 x3 (.bool true) z3)
theorem g35n111 : g35C [1, 1, 1] = .seq (g35C [1, 1, 1, 0]) (g35C [1, 1, 1, 1]) := by kernel_rfl
theorem g35n1110 : g35C [1, 1, 1, 0] = .seq (g35C [1, 1, 1, 0, 0]) (g35C [1, 1, 1, 0, 1]) := by kernel_rfl
theorem g35rg11100 : g35C [1, 1, 1, 0, 0] = .region 10 (rops (g35C [1, 1, 1, 0, 0])) false := by kernel_rfl
theorem g35rg11100l : List.range (rops (g35C [1, 1, 1, 0, 0])).size = [0, 1, 2, 3, 4, 5, 6, 7, 8, 9] ++ [10, 11, 12, 13, 14, 15, 16, 17, 18, 19, 20, 21, 22, 23, 24, 25, 26, 27, 28, 29, 30, 31, 32] := by kernel_rfl
theorem g35e111 : g35X (g35C [1, 1, 1]) (g35kr) = fun env st => g35b111 (env 1) (env 3) st := by
  refine Eq.trans ((g35seq g35n111 (g35e1111)).trans ((g35seq g35n1110 rfl).trans (g35reg g35rg11100 g35rg11100l (g35e11100_10)))) ?_
  funext env st
  kernel_rfl
noncomputable def g35k11 : Kon := kSeq (fun env st => g35b111 (env 1) (env 3) st) (g35kr)
noncomputable def g35k12 : Kon := kSeq (g35X (g35C [1, 1, 0, 1, 0, 1, 1]) (g35k11)) (g35k11)
noncomputable def g35b1101010_15 (x1 : V) (x57 : V) (st : St) : Res :=
 A.guard x57 true
 (A.faddr 3 x1 fun a1 =>
 A.load false 1 a1 st fun a2 z3 =>
 A.lenL a2 fun a4 =>
 A.bin .leq a4 (.int .i64 64) fun a5 =>
 some (.ret a5.er1, z3))
 (some (.ret ((.bool false) : V).er1, st))
theorem g35e1101010_15 : (fun env st => aops Try.prog g35mu g35T 143 (rops (g35C [1, 1, 0, 1, 0, 1, 0])) [15, 16, 17, 18, 19, 20] env st ((g35k12) .normal)) = fun env st => g35b1101010_15 (env 1) (env 57) st := by
  refine Eq.trans (Eq.refl _) ?_
  funext env st
  kernel_rfl
noncomputable def g35b1101010_9 (x1 : V) (x51 : V) (st : St) : Res :=
 A.guard x51 true
 (A.faddr 3 x1 fun a1 =>
 A.load false 1 a1 st fun a2 z3 =>
 A.lenL a2 fun a4 =>
 A.bin .geq a4 (.int .i64 1) fun a5 =>
 g35b1101010_15 x1 a5 z3)
 (g35b1101010_15 x1 (.bool false) st)
theorem g35e1101010_9 : (fun env st => aops Try.prog g35mu g35T 143 (rops (g35C [1, 1, 0, 1, 0, 1, 0])) [9, 10, 11, 12, 13, 14, 15, 16, 17, 18, 19, 20] env st ((g35k12) .normal)) = fun env st => g35b1101010_9 (env 1) (env 51) st := by
  refine Eq.trans (ops_cut (l1 := [9, 10, 11, 12, 13, 14]) (l2 := [15, 16, 17, 18, 19, 20]) (g35e1101010_15)) ?_
  funext env st
  kernel_rfl
noncomputable def g35b110101 (x1 : V) (x3 : V) (st : St) : Res :=
 A.faddr 0 x3 fun a1 =>
 A.load false 1 a1 st fun a2 z3 =>
 A.lenL a2 fun a4 =>
 A.faddr 1 x3 fun a5 =>
 A.load false 1 a5 z3 fun a6 z7 =>
 A.lenL a6 fun a8 =>
 A.bin .add a4 a8 fun a9 =>
 A.eql 2 false a9 (.int .i64 0) fun a10 =>
 g35b1101010_9 x1 a10 z7
theorem g35n110101 : g35C [1, 1, 0, 1, 0, 1] = .seq (g35C [1, 1, 0, 1, 0, 1, 0]) (g35C [1, 1, 0, 1, 0, 1, 1]) := by kernel_rfl
theorem g35rg1101010 : g35C [1, 1, 0, 1, 0, 1, 0] = .region 9 (rops (g35C [1, 1, 0, 1, 0, 1, 0])) false := by kernel_rfl
theorem g35rg1101010l : List.range (rops (g35C [1, 1, 0, 1, 0, 1, 0])).size = [0, 1, 2, 3, 4, 5, 6, 7, 8] ++ [9, 10, 11, 12, 13, 14, 15, 16, 17, 18, 19, 20] := by kernel_rfl
theorem g35e110101 : g35X (g35C [1, 1, 0, 1, 0, 1]) (g35k11) = fun env st => g35b110101 (env 1) (env 3) st := by
  refine Eq.trans ((g35seq g35n110101 rfl).trans (g35reg g35rg1101010 g35rg1101010l (g35e1101010_9))) ?_
  funext env st
  kernel_rfl
noncomputable def g35k13 : Kon := kSeq (fun env st => g35b110101 (env 1) (env 3) st) (g35k11)
noncomputable def g35k14 : Kon := kBlk 0 (g35k13)
noncomputable def g35k15 (L11010010 : V → V → V → St → Res) : Kon := kSeq (fun env st => L11010010 (env 1) (env 3) (env 4) st) (g35k14)
noncomputable def g35k16 (L11010010 : V → V → V → St → Res) : Kon := kSeq (g35X (g35C [1, 1, 0, 1, 0, 0, 1, 0, 0, 1, 1]) (g35k15 L11010010)) (g35k15 L11010010)
noncomputable def g35k17 (L11010010 : V → V → V → St → Res) : Kon := kBlk 1 (g35k16 L11010010)
noncomputable def g35k18 (L11010010 : V → V → V → St → Res) : Kon := kSeq (g35X (g35C [1, 1, 0, 1, 0, 0, 1, 0, 0, 1, 0, 0, 1, 1]) (g35k17 L11010010)) (g35k17 L11010010)
noncomputable def g35b11010010010010_11 (L11010010 : V → V → V → St → Res) (x1 : V) (x3 : V) (x4 : V) (x5 : V) (x37 : V) (st : St) : Res :=
 A.guard x37 false
 (A.faddr 2 x5 fun a1 =>
 A.load false 1 a1 st fun a2 z3 =>
 A.ret (s69 [a2.er1] z3) fun a4 z5 =>
 A.un .not a4 fun a6 =>
 A.cond a6
 (some (.ret ((.bool false) : V).er1, z5))
 (A.bin .add x4 (.int .i64 1) fun a7 =>
 L11010010 x1 x3 a7 z5))
 (some (.ret ((.bool false) : V).er1, st))
theorem g35e11010010010010_11 (L11010010 : V → V → V → St → Res) : (fun env st => aops Try.prog g35mu g35T 143 (rops (g35C [1, 1, 0, 1, 0, 0, 1, 0, 0, 1, 0, 0, 1, 0])) [11, 12, 13, 14, 15] env st ((g35k18 L11010010) .normal)) = fun env st => g35b11010010010010_11 L11010010 (env 1) (env 3) (env 4) (env 5) (env 37) st := by
  refine Eq.trans (Eq.refl _) ?_
  funext env st
  kernel_rfl
noncomputable def g35b1101001001001 (L11010010 : V → V → V → St → Res) (x1 : V) (x3 : V) (x4 : V) (x5 : V) (st : St) : Res :=
 A.faddr 0 x5 fun a1 =>
 A.load false 1 a1 st fun a2 z3 =>
 A.ret (s69 [a2.er1] z3) fun a4 z5 =>
 A.un .not a4 fun a6 =>
 A.guard a6 false
 (A.faddr 1 x5 fun a7 =>
 A.load false 1 a7 z5 fun a8 z9 =>
 A.ret (s69 [a8.er1] z9) fun a10 z11 =>
 A.un .not a10 fun a12 =>
 g35b11010010010010_11 L11010010 x1 x3 x4 x5 a12 z11)
 (g35b11010010010010_11 L11010010 x1 x3 x4 x5 (.bool true) z5)
theorem g35n1101001001001 : g35C [1, 1, 0, 1, 0, 0, 1, 0, 0, 1, 0, 0, 1] = .seq (g35C [1, 1, 0, 1, 0, 0, 1, 0, 0, 1, 0, 0, 1, 0]) (g35C [1, 1, 0, 1, 0, 0, 1, 0, 0, 1, 0, 0, 1, 1]) := by kernel_rfl
theorem g35rg11010010010010 : g35C [1, 1, 0, 1, 0, 0, 1, 0, 0, 1, 0, 0, 1, 0] = .region 7 (rops (g35C [1, 1, 0, 1, 0, 0, 1, 0, 0, 1, 0, 0, 1, 0])) false := by kernel_rfl
theorem g35rg11010010010010l : List.range (rops (g35C [1, 1, 0, 1, 0, 0, 1, 0, 0, 1, 0, 0, 1, 0])).size = [0, 1, 2, 3, 4, 5, 6, 7, 8, 9, 10] ++ [11, 12, 13, 14, 15] := by kernel_rfl
theorem g35e1101001001001 (L11010010 : V → V → V → St → Res) : g35X (g35C [1, 1, 0, 1, 0, 0, 1, 0, 0, 1, 0, 0, 1]) (g35k17 L11010010) = fun env st => g35b1101001001001 L11010010 (env 1) (env 3) (env 4) (env 5) st := by
  refine Eq.trans ((g35seq g35n1101001001001 rfl).trans (g35reg g35rg11010010010010 g35rg11010010010010l (g35e11010010010010_11 L11010010))) ?_
  funext env st
  kernel_rfl
noncomputable def g35b11010010 : Nat → V → V → V → St → Res
| 0, _, _, _, _ => none
| n + 1, x1, x3, x4, st =>
 A.faddr 3 x1 fun a1 =>
 A.load false 1 a1 st fun a2 z3 =>
 A.lenL a2 fun a4 =>
 A.bin .lss x4 a4 fun a5 =>
 A.cond a5
 (A.faddr 3 x1 fun a6 =>
 A.load false 1 a6 z3 fun a7 z8 =>
 A.iaddr 4 a7 x4 fun a9 =>
 A.faddr 1 a9 fun a10 =>
 A.load true 3 a10 z8 fun a11 z12 =>
 A.box (.agg [(.str []), (.str []), (.str [])]) z12 fun a13 z14 =>
 A.store 3 a13 a11 z14 fun z15 =>
 g35b1101001001001 (g35b11010010 n) x1 x3 x4 a13 z15)
 (g35b110101 x1 x3 z3)
theorem g35n11010010 : g35C [1, 1, 0, 1, 0, 0, 1, 0] = .loop (g35C [1, 1, 0, 1, 0, 0, 1, 0, 0]) := by kernel_rfl
theorem g35n110100100 : g35C [1, 1, 0, 1, 0, 0, 1, 0, 0] = .seq (g35C [1, 1, 0, 1, 0, 0, 1, 0, 0, 0]) (g35C [1, 1, 0, 1, 0, 0, 1, 0, 0, 1]) := by kernel_rfl
theorem g35n1101001001 : g35C [1, 1, 0, 1, 0, 0, 1, 0, 0, 1] = .seq (g35C [1, 1, 0, 1, 0, 0, 1, 0, 0, 1, 0]) (g35C [1, 1, 0, 1, 0, 0, 1, 0, 0, 1, 1]) := by kernel_rfl
theorem g35n11010010010 : g35C [1, 1, 0, 1, 0, 0, 1, 0, 0, 1, 0] = .block 1 (g35C [1, 1, 0, 1, 0, 0, 1, 0, 0, 1, 0, 0]) := by kernel_rfl
theorem g35n110100100100 : g35C [1, 1, 0, 1, 0, 0, 1, 0, 0, 1, 0, 0] = .seq (g35C [1, 1, 0, 1, 0, 0, 1, 0, 0, 1, 0, 0, 0]) (g35C [1, 1, 0, 1, 0, 0, 1, 0, 0, 1, 0, 0, 1]) := by kernel_rfl
theorem g35e11010010 : g35X (g35C [1, 1, 0, 1, 0, 0, 1, 0]) (g35k14) = fun env st => g35b11010010 big (env 1) (env 3) (env 4) st := by
  have key : ∀ n, aloop (g35X (g35C [1, 1, 0, 1, 0, 0, 1, 0, 0])) (g35k14) n = fun env st => g35b11010010 n (env 1) (env 3) (env 4) st := by
    intro n
    induction n with
    | zero => rfl
    | succ n ih =>
      have h : aloop (g35X (g35C [1, 1, 0, 1, 0, 0, 1, 0, 0])) (g35k14) (n + 1) = g35X (g35C [1, 1, 0, 1, 0, 0, 1, 0, 0]) (kSeq (aloop (g35X (g35C [1, 1, 0, 1, 0, 0, 1, 0, 0])) (g35k14) n) (g35k14)) := rfl
      rw [h, ih]
      refine Eq.trans (g35seq g35n110100100 ((g35seq g35n1101001001 rfl).trans ((g35blk g35n11010010010).trans (g35seq g35n110100100100 (g35e1101001001001 (g35b11010010 n)))))) ?_
      funext env st
      kernel_rfl
  exact (g35loop g35n11010010).trans (key big)
noncomputable def f35 (x0 : V) (st : St) : Res :=
 A.box x0 st fun a1 z2 =>
 A.faddr 1 a1 fun a3 =>
 A.load true 2 a3 z2 fun a4 z5 =>
 A.box (.agg [(.lst [] 1), (.lst [] 1)]) z5 fun a6 z7 =>
 A.store 2 a6 a4 z7 fun z8 =>
 A.faddr 0 a1 fun a9 =>
 A.load false 1 a9 z8 fun a10 z11 =>
 A.eql 2 false a10 (.int .i64 2) fun a12 =>
 A.cond a12
 (g35b11010010 big a1 a6 (.int .i64 0) z11)
 (g35b111 a1 a6 z11)
theorem g35nr : g35C [] = .seq (g35C [0]) (g35C [1]) := by kernel_rfl
theorem g35n1 : g35C [1] = .seq (g35C [1, 0]) (g35C [1, 1]) := by kernel_rfl
theorem g35n11 : g35C [1, 1] = .seq (g35C [1, 1, 0]) (g35C [1, 1, 1]) := by kernel_rfl
theorem g35n110 : g35C [1, 1, 0] = .seq (g35C [1, 1, 0, 0]) (g35C [1, 1, 0, 1]) := by kernel_rfl
theorem g35n1101 : g35C [1, 1, 0, 1] = .cond (.tmp 13) (g35C [1, 1, 0, 1, 0]) (g35C [1, 1, 0, 1, 1]) := by kernel_rfl
theorem g35n11010 : g35C [1, 1, 0, 1, 0] = .seq (g35C [1, 1, 0, 1, 0, 0]) (g35C [1, 1, 0, 1, 0, 1]) := by kernel_rfl
theorem g35n110100 : g35C [1, 1, 0, 1, 0, 0] = .seq (g35C [1, 1, 0, 1, 0, 0, 0]) (g35C [1, 1, 0, 1, 0, 0, 1]) := by kernel_rfl
theorem g35n1101001 : g35C [1, 1, 0, 1, 0, 0, 1] = .block 0 (g35C [1, 1, 0, 1, 0, 0, 1, 0]) := by kernel_rfl
theorem g35er (env : Env) (st : St) : g35X (g35C []) g35kr env st = f35 (env 0) st := by
  rw [(g35seq g35nr (g35seq g35n1 ((g35seq g35n11 (g35e111)).trans (g35seq g35n110 (g35cond g35n1101 ((g35seq g35n11010 (g35e110101)).trans (g35seq g35n110100 ((g35blk g35n1101001).trans (g35e11010010)))) rfl)))))]
  kernel_rfl
theorem s35_eq (x0 : V) (st : St) : s35 [x0] st = fg (f35 x0 st) st := by
  have h : afn Try.prog g35mu g35T big (areg Try.prog g35mu g35T) 35 [x0] st = g35X (g35C []) g35kr (fun t => [x0].getD t (.tup [])) st := by kernel_rfl
  rw [s35, sealF_eq]
  show fg _ st = fg _ st
  refine congrArg (fun r => fg r st) ?_
  exact h.trans (g35er _ st)
/-! sinew/sinewref09.count -/
def g31mu : Nat → Bool := fun _ => false
noncomputable def g31T (R : Fn) : Tbl := tget [(31, R)]
theorem g31t (R : Fn) (hR : Sim Try.prog 31 R) : SimT Try.prog (g31T R) := simT_cons hR (simT_nil)
noncomputable def s31n : Nat → Fn
| 0 => fun _ _ => none
| n + 1 => fun args st => fg (afn Try.prog g31mu (g31T (s31n n)) big (areg Try.prog g31mu (g31T (s31n n))) 31 args st) st
theorem sim31n : ∀ n, Sim Try.prog 31 (s31n n)
| 0 => ⟨by kernel_rfl, fun _ _ _ _ _ _ _ h => by cases h⟩
| n + 1 => (afn_sim (g31t (s31n n) (sim31n n)) (fun m => areg_sound (g31t (s31n n) (sim31n n)) hmix m) 31 (by kernel_rfl)).fg
noncomputable def s31 : Fn := sealF (s31n big)
theorem sim31 : Sim Try.prog 31 s31 := (sim31n big).sealed
theorem s31_n : s31 = s31n big := sealF_eq _
noncomputable def g31C (p : List Nat) : Code := sub (match Try.f31.body with | some c => c | none => .skip) p
noncomputable def g31X (R : Fn) (c : Code) (K : Kon) : Env → St → Res := aexec Try.prog g31mu (g31T R) big 31 (areg Try.prog g31mu (g31T R) 31) c K
noncomputable def g31kr (R : Fn) : Kon := aresK Try.prog Try.f31.results.toList
theorem g31reg (R : Fn) {c : Code} {K : Kon} {G : Env → St → Res} {id : Nat} {ops : Array Oper} {l1 l2 : List Nat} (hc : c = .region id ops false) (hl : List.range ops.size = l1 ++ l2) (h : (fun env st => aops Try.prog g31mu (g31T R) 31 ops l2 env st (K .normal)) = G) : (g31X R) c K = fun env st => aops Try.prog g31mu (g31T R) 31 ops l1 env st G := reg_cut hc hl h
theorem g31seq (R : Fn) {c x y : Code} {K : Kon} {G : Env → St → Res} (hc : c = .seq x y) (hy : (g31X R) y K = G) : (g31X R) c K = (g31X R) x (kSeq G K) := seq_cut hc hy
theorem g31blk (R : Fn) {c x : Code} {K : Kon} {i : Nat} (hc : c = .block i x) : (g31X R) c K = (g31X R) x (kBlk i K) := blk_cut hc
theorem g31loop (R : Fn) {c x : Code} {K : Kon} (hc : c = .loop x) : (g31X R) c K = aloop ((g31X R) x) K big := loop_cut hc
theorem g31cond (R : Fn) {c x y : Code} {K : Kon} {v : Operand} {F G : Env → St → Res} (hc : c = .cond v x y) (hx : (g31X R) x K = F) (hy : (g31X R) y K = G) : (g31X R) c K = condF v F G := cond_cut hc hx hy
noncomputable def g31k0 (R : Fn) : Kon := kSeq ((g31X R) (g31C [1, 1, 1, 1]) ((g31kr R))) ((g31kr R))
noncomputable def g31k1 (R : Fn) : Kon := kBlk 0 ((g31k0 R))
noncomputable def g31k2 (R : Fn) (L111010 : V → V → V → V → St → Res) : Kon := kSeq (fun env st => L111010 (env 1) (env 2) (env 5) (env 6) st) ((g31k1 R))
noncomputable def g31b11101001 (R : Fn) (L111010 : V → V → V → V → St → Res) (x1 : V) (x2 : V) (x5 : V) (x6 : V) (st : St) : Res :=
 A.faddr 2 x2 fun a1 =>
 A.load false 1 a1 st fun a2 z3 =>
 A.iaddr 3 a2 x6 fun a4 =>
 A.load true 3 a4 z3 fun a5 z6 =>
 A.bin .sub x1 (.int .i64 1) fun a7 =>
 A.ret (R [a5.er1, a7.er1] z6) fun a8 z9 =>
 A.bin .add x5 a8 fun a10 =>
 A.bin .add x6 (.int .i64 1) fun a11 =>
 L111010 x1 x2 a10 a11 z9
theorem g31e11101001 (R : Fn) (L111010 : V → V → V → V → St → Res) : (g31X R) (g31C [1, 1, 1, 0, 1, 0, 0, 1]) ((g31k2 R) L111010) = fun env st => (g31b11101001 R) L111010 (env 1) (env 2) (env 5) (env 6) st := by
  refine Eq.trans (Eq.refl ((g31X R) (g31C [1, 1, 1, 0, 1, 0, 0, 1]) ((g31k2 R) L111010))) ?_
  funext env st
  kernel_rfl
noncomputable def g31b111010 (R : Fn) : Nat → V → V → V → V → St → Res
| 0, _, _, _, _, _ => none
| n + 1, x1, x2, x5, x6, st =>
 A.faddr 2 x2 fun a1 =>
 A.load false 1 a1 st fun a2 z3 =>
 A.lenL a2 fun a4 =>
 A.bin .lss x6 a4 fun a5 =>
 A.guard a5 true
 (A.bin .lss x5 (.int .i64 1000) fun a6 =>
 A.cond a6
 ((g31b11101001 R) ((g31b111010 R) n) x1 x2 x5 x6 z3)
 (some (.ret x5.er1, z3)))
 (some (.ret x5.er1, z3))
theorem g31n111010 : g31C [1, 1, 1, 0, 1, 0] = .loop (g31C [1, 1, 1, 0, 1, 0, 0]) := by kernel_rfl
theorem g31n1110100 : g31C [1, 1, 1, 0, 1, 0, 0] = .seq (g31C [1, 1, 1, 0, 1, 0, 0, 0]) (g31C [1, 1, 1, 0, 1, 0, 0, 1]) := by kernel_rfl
theorem g31e111010 (R : Fn) : (g31X R) (g31C [1, 1, 1, 0, 1, 0]) ((g31k1 R)) = fun env st => (g31b111010 R) big (env 1) (env 2) (env 5) (env 6) st := by
  have key : ∀ n, aloop ((g31X R) (g31C [1, 1, 1, 0, 1, 0, 0])) ((g31k1 R)) n = fun env st => (g31b111010 R) n (env 1) (env 2) (env 5) (env 6) st := by
    intro n
    induction n with
    | zero => rfl
    | succ n ih =>
      have h : aloop ((g31X R) (g31C [1, 1, 1, 0, 1, 0, 0])) ((g31k1 R)) (n + 1) = (g31X R) (g31C [1, 1, 1, 0, 1, 0, 0]) (kSeq (aloop ((g31X R) (g31C [1, 1, 1, 0, 1, 0, 0])) ((g31k1 R)) n) ((g31k1 R))) := rfl
      rw [h, ih]
      refine Eq.trans ((g31seq R) g31n1110100 ((g31e11101001 R) ((g31b111010 R) n))) ?_
      funext env st
      kernel_rfl
  exact ((g31loop R) g31n111010).trans (key big)
noncomputable def f31 (R : Fn) (x0 : V) (x1 : V) (st : St) : Res :=
 A.box x0 st fun a1 z2 =>
 A.eql 2 false x1 (.int .i64 0) fun a3 =>
 A.cond a3
 (some (.ret ((.int .i64 1000) : V).er1, z2))
 ((g31b111010 R) big x1 a1 (.int .i64 1) (.int .i64 0) z2)
theorem g31nr : g31C [] = .seq (g31C [0]) (g31C [1]) := by kernel_rfl
theorem g31n1 : g31C [1] = .seq (g31C [1, 0]) (g31C [1, 1]) := by kernel_rfl
theorem g31n11 : g31C [1, 1] = .seq (g31C [1, 1, 0]) (g31C [1, 1, 1]) := by kernel_rfl
theorem g31n111 : g31C [1, 1, 1] = .seq (g31C [1, 1, 1, 0]) (g31C [1, 1, 1, 1]) := by kernel_rfl
theorem g31n1110 : g31C [1, 1, 1, 0] = .seq (g31C [1, 1, 1, 0, 0]) (g31C [1, 1, 1, 0, 1]) := by kernel_rfl
theorem g31n11101 : g31C [1, 1, 1, 0, 1] = .block 0 (g31C [1, 1, 1, 0, 1, 0]) := by kernel_rfl
theorem g31er (R : Fn) (env : Env) (st : St) : (g31X R) (g31C []) (g31kr R) env st = (f31 R) (env 0) (env 1) st := by
  rw [((g31seq R) g31nr ((g31seq R) g31n1 ((g31seq R) g31n11 (((g31seq R) g31n111 rfl).trans ((g31seq R) g31n1110 (((g31blk R) g31n11101).trans ((g31e111010 R))))))))]
  kernel_rfl
theorem s31n_eq (n : Nat) (x0 : V) (x1 : V) (st : St) : s31n (n + 1) [x0, x1] st = fg ((f31 (s31n n)) x0 x1 st) st := by
  have h : afn Try.prog g31mu (g31T (s31n n)) big (areg Try.prog g31mu (g31T (s31n n))) 31 [x0, x1] st = (g31X (s31n n)) (g31C []) (g31kr (s31n n)) (fun t => [x0, x1].getD t (.tup [])) st := by kernel_rfl
  show fg (afn Try.prog g31mu (g31T (s31n n)) big (areg Try.prog g31mu (g31T (s31n n))) 31 _ st) st = fg _ st
  refine congrArg (fun r => fg r st) ?_
  exact h.trans ((g31er (s31n n)) _ st)
/-! sinew/sinewref09.Flat -/
def g16mu : Nat → Bool := fun _ => false
noncomputable def g16T : Tbl := tget [(31, s31)]
theorem g16t : SimT Try.prog g16T := simT_cons sim31 (simT_nil)
noncomputable def s16 : Fn := sealF (fun args st => fg (afn Try.prog g16mu g16T big (areg Try.prog g16mu g16T) 16 args st) st)
theorem sim16 : Sim Try.prog 16 s16 := (afn_sim g16t (fun m => areg_sound g16t hmix m) 16 (by kernel_rfl)).fg.sealed
noncomputable def g16C (p : List Nat) : Code := sub (match Try.f16.body with | some c => c | none => .skip) p
noncomputable def g16X (c : Code) (K : Kon) : Env → St → Res := aexec Try.prog g16mu g16T big 36 (areg Try.prog g16mu g16T 36) c K
noncomputable def g16kr : Kon := aresK Try.prog Try.f16.results.toList
theorem g16reg {c : Code} {K : Kon} {G : Env → St → Res} {id : Nat} {ops : Array Oper} {l1 l2 : List Nat} (hc : c = .region id ops false) (hl : List.range ops.size = l1 ++ l2) (h : (fun env st => aops Try.prog g16mu g16T 36 ops l2 env st (K .normal)) = G) : g16X c K = fun env st => aops Try.prog g16mu g16T 36 ops l1 env st G := reg_cut hc hl h
theorem g16seq {c x y : Code} {K : Kon} {G : Env → St → Res} (hc : c = .seq x y) (hy : g16X y K = G) : g16X c K = g16X x (kSeq G K) := seq_cut hc hy
theorem g16blk {c x : Code} {K : Kon} {i : Nat} (hc : c = .block i x) : g16X c K = g16X x (kBlk i K) := blk_cut hc
theorem g16loop {c x : Code} {K : Kon} (hc : c = .loop x) : g16X c K = aloop (g16X x) K big := loop_cut hc
theorem g16cond {c x y : Code} {K : Kon} {v : Operand} {F G : Env → St → Res} (hc : c = .cond v x y) (hx : g16X x K = F) (hy : g16X y K = G) : g16X c K = condF v F G := cond_cut hc hx hy
noncomputable def g16k0 : Kon := kSeq (g16X (g16C [1, 1]) (g16kr)) (g16kr)
noncomputable def g16k1 : Kon := kBlk 0 (g16k0)
noncomputable def g16b1010 : Nat → V → V → St → Res
| 0, _, _, _ => none
| n + 1, x1, x3, st =>
 A.faddr 1 x1 fun a1 =>
 A.faddr 1 a1 fun a2 =>
 A.load false 1 a2 st fun a3 z4 =>
 A.lenL a3 fun a5 =>
 A.bin .lss x3 a5 fun a6 =>
 A.cond a6
 (A.bin .gtr x3 (.int .i64 20) fun a7 =>
 A.guard a7 false
 (A.faddr 1 x1 fun a8 =>
 A.faddr 1 a8 fun a9 =>
 A.load false 1 a9 z4 fun a10 z11 =>
 A.iaddr 7 a10 x3 fun a12 =>
 A.faddr 2 a12 fun a13 =>
 A.load true 3 a13 z11 fun a14 z15 =>
 A.ret (s31 [a14.er1, ((.int .i64 40) : V).er1] z15) fun a16 z17 =>
 A.bin .gtr a16 (.int .i64 400) fun a18 =>
 A.cond a18
 (some (.ret ((.bool false) : V).er1, z17))
 (A.bin .add x3 (.int .i64 1) fun a19 =>
 (g16b1010 n) x1 a19 z17))
 (some (.ret ((.bool false) : V).er1, z4)))
 (A.faddr 1 x1 fun a20 =>
 A.faddr 0 a20 fun a21 =>
 A.load false 1 a21 z4 fun a22 z23 =>
 A.lenL a22 fun a24 =>
 A.bin .leq a24 (.int .i64 40) fun a25 =>
 A.guard a25 true
 (A.faddr 3 x1 fun a26 =>
 A.load false 1 a26 z23 fun a27 z28 =>
 A.lenL a27 fun a29 =>
 A.bin .leq a29 (.int .i64 100) fun a30 =>
 some (.ret a30.er1, z28))
 (some (.ret ((.bool false) : V).er1, z23)))
theorem g16n1010 : g16C [1, 0, 1, 0] = .loop (g16C [1, 0, 1, 0, 0]) := by kernel_rfl
noncomputable def g16k2 (L1010 : V → V → St → Res) : Kon := kSeq (fun env st => L1010 (env 1) (env 3) st) (g16k1)
theorem g16e1010 : g16X (g16C [1, 0, 1, 0]) (g16k1) = fun env st => g16b1010 big (env 1) (env 3) st := by
  have key : ∀ n, aloop (g16X (g16C [1, 0, 1, 0, 0])) (g16k1) n = fun env st => g16b1010 n (env 1) (env 3) st := by
    intro n
    induction n with
    | zero => rfl
    | succ n ih =>
      have h : aloop (g16X (g16C [1, 0, 1, 0, 0])) (g16k1) (n + 1) = g16X (g16C [1, 0, 1, 0, 0]) (kSeq (aloop (g16X (g16C [1, 0, 1, 0, 0])) (g16k1) n) (g16k1)) := rfl
      rw [h, ih]
      refine Eq.trans (Eq.refl _) ?_
      funext env st
      kernel_rfl
  exact (g16loop g16n1010).trans (key big)
noncomputable def f16 (x0 : V) (st : St) : Res :=
 A.box x0 st fun a1 z2 =>
 g16b1010 big a1 (.int .i64 0) z2
theorem g16nr : g16C [] = .seq (g16C [0]) (g16C [1]) := by kernel_rfl
theorem g16n1 : g16C [1] = .seq (g16C [1, 0]) (g16C [1, 1]) := by kernel_rfl
theorem g16n10 : g16C [1, 0] = .seq (g16C [1, 0, 0]) (g16C [1, 0, 1]) := by kernel_rfl
theorem g16n101 : g16C [1, 0, 1] = .block 0 (g16C [1, 0, 1, 0]) := by kernel_rfl
theorem g16er (env : Env) (st : St) : g16X (g16C []) g16kr env st = f16 (env 0) st := by
  rw [(g16seq g16nr ((g16seq g16n1 rfl).trans (g16seq g16n10 ((g16blk g16n101).trans (g16e1010)))))]
  kernel_rfl
theorem s16_eq (x0 : V) (st : St) : s16 [x0] st = fg (f16 x0 st) st := by
  have h : afn Try.prog g16mu g16T big (areg Try.prog g16mu g16T) 16 [x0] st = g16X (g16C []) g16kr (fun t => [x0].getD t (.tup [])) st := by kernel_rfl
  rw [s16, sealF_eq]
  show fg _ st = fg _ st
  refine congrArg (fun r => fg r st) ?_
  exact h.trans (g16er _ st)
/-! sinew/sinewref09.named -/
def g36mu : Nat → Bool := fun _ => false
noncomputable def g36T : Tbl := tget []
theorem g36t : SimT Try.prog g36T := simT_nil
noncomputable def s36 : Fn := sealF (afn Try.prog g36mu g36T big (areg Try.prog g36mu g36T) 36)
theorem sim36 : Sim Try.prog 36 s36 := (afn_sim g36t (fun m => areg_sound g36t hmix m) 36 (by kernel_rfl)).sealed
noncomputable def f36 (x0 : V) (st : St) : Res :=
 A.box x0 st fun a1 z2 =>
 A.faddr 0 a1 fun a3 =>
 A.load false 1 a3 z2 fun a4 z5 =>
 A.cond a4
 (A.faddr 1 a1 fun a6 =>
 A.load false 1 a6 z5 fun a7 z8 =>
 A.bin .add (.str [63]) a7 fun a9 =>
 some (.ret a9.er1, z8))
 (A.faddr 1 a1 fun a10 =>
 A.load false 1 a10 z5 fun a11 z12 =>
 some (.ret a11.er1, z12))
theorem s36_eq (x0 : V) (st : St) : s36 [x0] st = f36 x0 st := by
  rw [s36, sealF_eq]
  kernel_rfl
/-! sinew/sinewref09.inner -/
def g71mu : Nat → Bool := fun _ => false
noncomputable def g71T (R : Nat → Fn) : Tbl := tget [(37, R 37)]
theorem g71t (R : Nat → Fn) (hR : ∀ j, j ∈ [71, 37] → Sim Try.prog j (R j)) : SimT Try.prog (g71T R) := simT_cons (hR 37 (by decide)) (simT_nil)
noncomputable def f71 (R : Nat → Fn) (x0 : V) (x1 : V) (st : St) : Res :=
 A.box x0 st fun a1 z2 =>
 A.cond x1
 (A.load true 3 a1 z2 fun a3 z4 =>
 A.ret (R 37 [a3.er1] z4) fun a5 z6 =>
 A.bin .add (.str [40]) a5 fun a7 =>
 A.bin .add a7 (.str [41]) fun a8 =>
 some (.ret a8.er1, z6))
 (A.load true 3 a1 z2 fun a9 z10 =>
 A.ret (R 37 [a9.er1] z10) fun a11 z12 =>
 some (.ret a11.er1, z12))
theorem s71R_eq (R : Nat → Fn) (x0 : V) (x1 : V) (st : St) : afn Try.prog g71mu (g71T R) big (areg Try.prog g71mu (g71T R)) 71 [x0, x1] st = (f71 R) x0 x1 st := by
  kernel_rfl
/-! sinew/sinewref09.text -/
def g37mu : Nat → Bool := fun _ => false
noncomputable def g37T (R : Nat → Fn) : Tbl := tget [(71, R 71)]
theorem g37t (R : Nat → Fn) (hR : ∀ j, j ∈ [71, 37] → Sim Try.prog j (R j)) : SimT Try.prog (g37T R) := simT_cons (hR 71 (by decide)) (simT_nil)
noncomputable def g37C (p : List Nat) : Code := sub (match Try.f37.body with | some c => c | none => .skip) p
noncomputable def g37X (R : Nat → Fn) (c : Code) (K : Kon) : Env → St → Res := aexec Try.prog g37mu (g37T R) big 90 (areg Try.prog g37mu (g37T R) 90) c K
noncomputable def g37kr (R : Nat → Fn) : Kon := aresK Try.prog Try.f37.results.toList
theorem g37reg (R : Nat → Fn) {c : Code} {K : Kon} {G : Env → St → Res} {id : Nat} {ops : Array Oper} {l1 l2 : List Nat} (hc : c = .region id ops false) (hl : List.range ops.size = l1 ++ l2) (h : (fun env st => aops Try.prog g37mu (g37T R) 90 ops l2 env st (K .normal)) = G) : (g37X R) c K = fun env st => aops Try.prog g37mu (g37T R) 90 ops l1 env st G := reg_cut hc hl h
theorem g37regN (R : Nat → Fn) {c : Code} {K : Kon} {G : Env → St → Res} {id : Nat} {ops : Array Oper} {l1 l2 : List Nat} (hc : c = .region id ops true) (hok : regOk Try.prog g37mu ops (befs ops.toList []) = true) (hq : calm Try.prog g37mu ops (befs ops.toList []) = true) (hl : List.range ops.size = l1 ++ l2) (h : (fun env st => aopsN Try.prog g37mu (g37T R) 90 ops (befs ops.toList []) l2 env st (K .normal)) = G) : (g37X R) c K = fun env st => aopsN Try.prog g37mu (g37T R) 90 ops (befs ops.toList []) l1 env st G := reg_cutN hc hok hq hl h
theorem g37seq (R : Nat → Fn) {c x y : Code} {K : Kon} {G : Env → St → Res} (hc : c = .seq x y) (hy : (g37X R) y K = G) : (g37X R) c K = (g37X R) x (kSeq G K) := seq_cut hc hy
theorem g37blk (R : Nat → Fn) {c x : Code} {K : Kon} {i : Nat} (hc : c = .block i x) : (g37X R) c K = (g37X R) x (kBlk i K) := blk_cut hc
theorem g37loop (R : Nat → Fn) {c x : Code} {K : Kon} (hc : c = .loop x) : (g37X R) c K = aloop ((g37X R) x) K big := loop_cut hc
theorem g37cond (R : Nat → Fn) {c x y : Code} {K : Kon} {v : Operand} {F G : Env → St → Res} (hc : c = .cond v x y) (hx : (g37X R) x K = F) (hy : (g37X R) y K = G) : (g37X R) c K = condF v F G := cond_cut hc hx hy
noncomputable def g37b111 (R : Nat → Fn) (x1 : V) (x6 : V) (st : St) : Res :=
 A.faddr 0 x1 fun a1 =>
 A.load false 1 a1 st fun a2 z3 =>
 A.eql 2 false a2 (.int .i64 4) fun a4 =>
 A.cond a4
 (A.bin .add x6 (.str [42]) fun a5 =>
 some (.ret a5.er1, z3))
 (A.eql 2 false a2 (.int .i64 5) fun a6 =>
 A.cond a6
 (A.bin .add x6 (.str [43]) fun a7 =>
 some (.ret a7.er1, z3))
 (A.bin .add x6 (.str [63]) fun a8 =>
 some (.ret a8.er1, z3)))
theorem g37e111 (R : Nat → Fn) : (g37X R) (g37C [1, 1, 1]) ((g37kr R)) = fun env st => (g37b111 R) (env 1) (env 6) st := by
  refine Eq.trans (Eq.refl ((g37X R) (g37C [1, 1, 1]) ((g37kr R)))) ?_
  funext env st
  kernel_rfl
noncomputable def g37b11 (R : Nat → Fn) (x1 : V) (st : St) : Res :=
 A.faddr 2 x1 fun a1 =>
 A.load false 1 a1 st fun a2 _ =>
 A.iaddr 3 a2 (.int .i64 0) fun a3 =>
 A.load true 3 a3 st fun a4 _ =>
 A.faddr 2 x1 fun a5 =>
 A.load false 1 a5 st fun a6 _ =>
 A.iaddr 3 a6 (.int .i64 0) fun a7 =>
 A.faddr 0 a7 fun a8 =>
 A.load false 1 a8 st fun a9 _ =>
 A.eql 2 true a9 (.int .i64 1) fun a10 =>
 A.ret (A.ret (R 71 [a4.er1, a10.er1] st) kid) fun a11 z12 =>
 (g37b111 R) x1 a11 z12
theorem g37n11 : g37C [1, 1] = .seq (g37C [1, 1, 0]) (g37C [1, 1, 1]) := by kernel_rfl
theorem g37e11 (R : Nat → Fn) : (g37X R) (g37C [1, 1]) ((g37kr R)) = fun env st => (g37b11 R) (env 1) st := by
  refine Eq.trans ((g37seq R) g37n11 ((g37e111 R))) ?_
  funext env st
  kernel_rfl
noncomputable def g37k0 (R : Nat → Fn) : Kon := kSeq (fun env st => (g37b11 R) (env 1) st) ((g37kr R))
noncomputable def g37k1 (R : Nat → Fn) : Kon := kBlk 0 ((g37k0 R))
noncomputable def g37k2 (R : Nat → Fn) : Kon := kSeq ((g37X R) (g37C [1, 0, 1, 0, 1, 1, 1, 0, 1, 1]) ((g37k1 R))) ((g37k1 R))
noncomputable def g37k3 (R : Nat → Fn) : Kon := kBlk 1 ((g37k2 R))
noncomputable def g37k4 (R : Nat → Fn) (L101011101010 : V → V → V → St → Res) : Kon := kSeq (fun env st => L101011101010 (env 1) (env 3) (env 4) st) ((g37k3 R))
noncomputable def g37k5 (R : Nat → Fn) (L101011101010 : V → V → V → St → Res) : Kon := kSeq ((g37X R) (g37C [1, 0, 1, 0, 1, 1, 1, 0, 1, 0, 1, 0, 0, 1, 1]) ((g37k4 R) L101011101010)) ((g37k4 R) L101011101010)
noncomputable def g37k6 (R : Nat → Fn) (L101011101010 : V → V → V → St → Res) : Kon := kBlk 2 ((g37k5 R) L101011101010)
noncomputable def g37b1010111010100100111_9 (R : Nat → Fn) (L101011101010 : V → V → V → St → Res) (x1 : V) (x4 : V) (x5 : V) (x47 : V) (x52 : V) (x55 : V) (st : St) : Res :=
 A.guard x55 false
 (A.eql 2 false x5 (.int .i64 2) fun a1 =>
 A.guardT a1 true
 (A.faddr 0 x1 fun a2 =>
 A.load false 1 a2 st fun a3 z4 =>
 A.eql 2 false a3 (.int .i64 2) fun a5 =>
 A.ret (A.ret (R 71 [x52.er1, a5.er1] z4) kid) fun a6 z7 =>
 A.bin .add x47 a6 fun a8 =>
 A.bin .add x4 (.int .i64 1) fun a9 =>
 L101011101010 x1 a8 a9 z7)
 (A.ret (A.ret (R 71 [x52.er1, ((.bool false) : V).er1] st) kid) fun a10 z11 =>
 A.bin .add x47 a10 fun a12 =>
 A.bin .add x4 (.int .i64 1) fun a13 =>
 L101011101010 x1 a12 a13 z11)
 (A.guardT a1 true
 (A.load false 1 (.tup []) st fun a14 z15 =>
 A.eql 2 false a14 (.int .i64 2) fun a16 =>
 A.ret (A.ret (R 71 [x52.er1, a16.er1] z15) kid) fun a17 z18 =>
 A.bin .add x47 a17 fun a19 =>
 A.bin .add x4 (.int .i64 1) fun a20 =>
 L101011101010 x1 a19 a20 z18)
 (A.ret (A.ret (R 71 [x52.er1, ((.bool false) : V).er1] st) kid) fun a21 z22 =>
 A.bin .add x47 a21 fun a23 =>
 A.bin .add x4 (.int .i64 1) fun a24 =>
 L101011101010 x1 a23 a24 z22)
 (A.guardT a1 true
 (A.eql 2 false (.tup []) (.int .i64 2) fun a25 =>
 A.ret (A.ret (R 71 [x52.er1, a25.er1] st) kid) fun a26 z27 =>
 A.bin .add x47 a26 fun a28 =>
 A.bin .add x4 (.int .i64 1) fun a29 =>
 L101011101010 x1 a28 a29 z27)
 (A.ret (A.ret (R 71 [x52.er1, ((.bool false) : V).er1] st) kid) fun a30 z31 =>
 A.bin .add x47 a30 fun a32 =>
 A.bin .add x4 (.int .i64 1) fun a33 =>
 L101011101010 x1 a32 a33 z31)
 (A.pick a1 (.tup []) (.bool false) fun a34 =>
 A.ret (A.ret (R 71 [x52.er1, a34.er1] st) kid) fun a35 z36 =>
 A.bin .add x47 a35 fun a37 =>
 A.bin .add x4 (.int .i64 1) fun a38 =>
 L101011101010 x1 a37 a38 z36))))
 (A.ret (A.ret (R 71 [x52.er1, ((.bool true) : V).er1] st) kid) fun a39 z40 =>
 A.bin .add x47 a39 fun a41 =>
 A.bin .add x4 (.int .i64 1) fun a42 =>
 L101011101010 x1 a41 a42 z40)
theorem g37e1010111010100100111_9 (R : Nat → Fn) (L101011101010 : V → V → V → St → Res) : (fun env st => aopsN Try.prog g37mu (g37T R) 90 (rops (g37C [1, 0, 1, 0, 1, 1, 1, 0, 1, 0, 1, 0, 0, 1, 0, 0, 1, 1, 1])) (befs (rops (g37C [1, 0, 1, 0, 1, 1, 1, 0, 1, 0, 1, 0, 0, 1, 0, 0, 1, 1, 1])).toList []) [9, 10, 11, 12, 13, 14, 15, 16, 17, 18, 19] env st (((g37k6 R) L101011101010) .normal)) = fun env st => (g37b1010111010100100111_9 R) L101011101010 (env 1) (env 4) (env 5) (env 47) (env 52) (env 55) st := by
  refine Eq.trans (Eq.refl _) ?_
  funext env st
  kernel_rfl
noncomputable def g37b1010111010100100111 (R : Nat → Fn) (L101011101010 : V → V → V → St → Res) (x1 : V) (x3 : V) (x4 : V) (x5 : V) (st : St) : Res :=
 A.faddr 2 x1 fun a1 =>
 A.load false 1 a1 st fun a2 z3 =>
 A.iaddr 3 a2 x4 fun a4 =>
 A.load true 3 a4 z3 fun a5 z6 =>
 A.eql 2 false x5 (.int .i64 3) fun a7 =>
 (g37b1010111010100100111_9 R) L101011101010 x1 x4 x5 x3 a5 a7 z6
theorem g37rg1010111010100100111 : g37C [1, 0, 1, 0, 1, 1, 1, 0, 1, 0, 1, 0, 0, 1, 0, 0, 1, 1, 1] = .region 15 (rops (g37C [1, 0, 1, 0, 1, 1, 1, 0, 1, 0, 1, 0, 0, 1, 0, 0, 1, 1, 1])) true := by kernel_rfl
theorem g37rg1010111010100100111o : regOk Try.prog g37mu (rops (g37C [1, 0, 1, 0, 1, 1, 1, 0, 1, 0, 1, 0, 0, 1, 0, 0, 1, 1, 1])) (befs (rops (g37C [1, 0, 1, 0, 1, 1, 1, 0, 1, 0, 1, 0, 0, 1, 0, 0, 1, 1, 1])).toList []) = true := by kernel_rfl
theorem g37rg1010111010100100111q : calm Try.prog g37mu (rops (g37C [1, 0, 1, 0, 1, 1, 1, 0, 1, 0, 1, 0, 0, 1, 0, 0, 1, 1, 1])) (befs (rops (g37C [1, 0, 1, 0, 1, 1, 1, 0, 1, 0, 1, 0, 0, 1, 0, 0, 1, 1, 1])).toList []) = true := by kernel_rfl
theorem g37rg1010111010100100111l : List.range (rops (g37C [1, 0, 1, 0, 1, 1, 1, 0, 1, 0, 1, 0, 0, 1, 0, 0, 1, 1, 1])).size = [0, 1, 2, 3, 4, 5, 6, 7, 8] ++ [9, 10, 11, 12, 13, 14, 15, 16, 17, 18, 19] := by kernel_rfl
theorem g37e1010111010100100111 (R : Nat → Fn) (L101011101010 : V → V → V → St → Res) : (g37X R) (g37C [1, 0, 1, 0, 1, 1, 1, 0, 1, 0, 1, 0, 0, 1, 0, 0, 1, 1, 1]) ((g37k6 R) L101011101010) = fun env st => (g37b1010111010100100111 R) L101011101010 (env 1) (env 3) (env 4) (env 5) st := by
  refine Eq.trans ((g37regN R) g37rg1010111010100100111 g37rg1010111010100100111o g37rg1010111010100100111q g37rg1010111010100100111l ((g37e1010111010100100111_9 R) L101011101010)) ?_
  funext env st
  kernel_rfl
noncomputable def g37b101011101010010011 (R : Nat → Fn) (L101011101010 : V → V → V → St → Res) (x1 : V) (x3 : V) (x4 : V) (x5 : V) (st : St) : Res :=
 A.bin .gtr x4 (.int .i64 0) fun a1 =>
 A.guard a1 true
 (A.faddr 0 x1 fun a2 =>
 A.load false 1 a2 st fun a3 z4 =>
 A.eql 2 false a3 (.int .i64 2) fun a5 =>
 A.cond a5
 (A.bin .add x3 (.str [47]) fun a6 =>
 (g37b1010111010100100111 R) L101011101010 x1 a6 x4 x5 z4)
 ((g37b1010111010100100111 R) L101011101010 x1 x3 x4 x5 z4))
 ((g37b1010111010100100111 R) L101011101010 x1 x3 x4 x5 st)
theorem g37n101011101010010011 : g37C [1, 0, 1, 0, 1, 1, 1, 0, 1, 0, 1, 0, 0, 1, 0, 0, 1, 1] = .seq (g37C [1, 0, 1, 0, 1, 1, 1, 0, 1, 0, 1, 0, 0, 1, 0, 0, 1, 1, 0]) (g37C [1, 0, 1, 0, 1, 1, 1, 0, 1, 0, 1, 0, 0, 1, 0, 0, 1, 1, 1]) := by kernel_rfl
theorem g37e101011101010010011 (R : Nat → Fn) (L101011101010 : V → V → V → St → Res) : (g37X R) (g37C [1, 0, 1, 0, 1, 1, 1, 0, 1, 0, 1, 0, 0, 1, 0, 0, 1, 1]) ((g37k6 R) L101011101010) = fun env st => (g37b101011101010010011 R) L101011101010 (env 1) (env 3) (env 4) (env 5) st := by
  refine Eq.trans ((g37seq R) g37n101011101010010011 ((g37e1010111010100100111 R) L101011101010)) ?_
  funext env st
  kernel_rfl
noncomputable def g37b10101110101001001 (R : Nat → Fn) (L101011101010 : V → V → V → St → Res) (x1 : V) (x3 : V) (x4 : V) (x5 : V) (st : St) : Res :=
 A.bin .gtr x4 (.int .i64 0) fun a1 =>
 A.guard a1 true
 (A.faddr 0 x1 fun a2 =>
 A.load false 1 a2 st fun a3 z4 =>
 A.eql 2 false a3 (.int .i64 3) fun a5 =>
 A.cond a5
 (A.bin .add x3 (.str [124]) fun a6 =>
 (g37b101011101010010011 R) L101011101010 x1 a6 x4 x5 z4)
 ((g37b101011101010010011 R) L101011101010 x1 x3 x4 x5 z4))
 ((g37b101011101010010011 R) L101011101010 x1 x3 x4 x5 st)
theorem g37n10101110101001001 : g37C [1, 0, 1, 0, 1, 1, 1, 0, 1, 0, 1, 0, 0, 1, 0, 0, 1] = .seq (g37C [1, 0, 1, 0, 1, 1, 1, 0, 1, 0, 1, 0, 0, 1, 0, 0, 1, 0]) (g37C [1, 0, 1, 0, 1, 1, 1, 0, 1, 0, 1, 0, 0, 1, 0, 0, 1, 1]) := by kernel_rfl
theorem g37e10101110101001001 (R : Nat → Fn) (L101011101010 : V → V → V → St → Res) : (g37X R) (g37C [1, 0, 1, 0, 1, 1, 1, 0, 1, 0, 1, 0, 0, 1, 0, 0, 1]) ((g37k6 R) L101011101010) = fun env st => (g37b10101110101001001 R) L101011101010 (env 1) (env 3) (env 4) (env 5) st := by
  refine Eq.trans ((g37seq R) g37n10101110101001001 ((g37e101011101010010011 R) L101011101010)) ?_
  funext env st
  kernel_rfl
noncomputable def g37b101011101010 (R : Nat → Fn) : Nat → V → V → V → St → Res
| 0, _, _, _, _ => none
| n + 1, x1, x3, x4, st =>
 A.faddr 2 x1 fun a1 =>
 A.load false 1 a1 st fun a2 z3 =>
 A.lenL a2 fun a4 =>
 A.bin .lss x4 a4 fun a5 =>
 A.cond a5
 (A.faddr 2 x1 fun a6 =>
 A.load false 1 a6 z3 fun a7 z8 =>
 A.iaddr 3 a7 x4 fun a9 =>
 A.faddr 0 a9 fun a10 =>
 A.load false 1 a10 z8 fun a11 z12 =>
 (g37b10101110101001001 R) ((g37b101011101010 R) n) x1 x3 x4 a11 z12)
 (some (.ret x3.er1, z3))
theorem g37n101011101010 : g37C [1, 0, 1, 0, 1, 1, 1, 0, 1, 0, 1, 0] = .loop (g37C [1, 0, 1, 0, 1, 1, 1, 0, 1, 0, 1, 0, 0]) := by kernel_rfl
theorem g37n1010111010100 : g37C [1, 0, 1, 0, 1, 1, 1, 0, 1, 0, 1, 0, 0] = .seq (g37C [1, 0, 1, 0, 1, 1, 1, 0, 1, 0, 1, 0, 0, 0]) (g37C [1, 0, 1, 0, 1, 1, 1, 0, 1, 0, 1, 0, 0, 1]) := by kernel_rfl
theorem g37n10101110101001 : g37C [1, 0, 1, 0, 1, 1, 1, 0, 1, 0, 1, 0, 0, 1] = .seq (g37C [1, 0, 1, 0, 1, 1, 1, 0, 1, 0, 1, 0, 0, 1, 0]) (g37C [1, 0, 1, 0, 1, 1, 1, 0, 1, 0, 1, 0, 0, 1, 1]) := by kernel_rfl
theorem g37n101011101010010 : g37C [1, 0, 1, 0, 1, 1, 1, 0, 1, 0, 1, 0, 0, 1, 0] = .block 2 (g37C [1, 0, 1, 0, 1, 1, 1, 0, 1, 0, 1, 0, 0, 1, 0, 0]) := by kernel_rfl
theorem g37n1010111010100100 : g37C [1, 0, 1, 0, 1, 1, 1, 0, 1, 0, 1, 0, 0, 1, 0, 0] = .seq (g37C [1, 0, 1, 0, 1, 1, 1, 0, 1, 0, 1, 0, 0, 1, 0, 0, 0]) (g37C [1, 0, 1, 0, 1, 1, 1, 0, 1, 0, 1, 0, 0, 1, 0, 0, 1]) := by kernel_rfl
theorem g37e101011101010 (R : Nat → Fn) : (g37X R) (g37C [1, 0, 1, 0, 1, 1, 1, 0, 1, 0, 1, 0]) ((g37k3 R)) = fun env st => (g37b101011101010 R) big (env 1) (env 3) (env 4) st := by
  have key : ∀ n, aloop ((g37X R) (g37C [1, 0, 1, 0, 1, 1, 1, 0, 1, 0, 1, 0, 0])) ((g37k3 R)) n = fun env st => (g37b101011101010 R) n (env 1) (env 3) (env 4) st := by
    intro n
    induction n with
    | zero => rfl
    | succ n ih =>
      have h : aloop ((g37X R) (g37C [1, 0, 1, 0, 1, 1, 1, 0, 1, 0, 1, 0, 0])) ((g37k3 R)) (n + 1) = (g37X R) (g37C [1, 0, 1, 0, 1, 1, 1, 0, 1, 0, 1, 0, 0]) (kSeq (aloop ((g37X R) (g37C [1, 0, 1, 0, 1, 1, 1, 0, 1, 0, 1, 0, 0])) ((g37k3 R)) n) ((g37k3 R))) := rfl
      rw [h, ih]
      refine Eq.trans ((g37seq R) g37n1010111010100 (((g37seq R) g37n10101110101001 rfl).trans (((g37blk R) g37n101011101010010).trans ((g37seq R) g37n1010111010100100 ((g37e10101110101001001 R) ((g37b101011101010 R) n)))))) ?_
      funext env st
      kernel_rfl
  exact ((g37loop R) g37n101011101010).trans (key big)
noncomputable def g37b1010111 (R : Nat → Fn) (x1 : V) (x13 : V) (st : St) : Res :=
 A.cond x13
 ((g37b101011101010 R) big x1 (.str []) (.int .i64 0) st)
 ((g37b11 R) x1 st)
theorem g37n1010111 : g37C [1, 0, 1, 0, 1, 1, 1] = .cond (.tmp 13) (g37C [1, 0, 1, 0, 1, 1, 1, 0]) (g37C [1, 0, 1, 0, 1, 1, 1, 1]) := by kernel_rfl
theorem g37n10101110 : g37C [1, 0, 1, 0, 1, 1, 1, 0] = .seq (g37C [1, 0, 1, 0, 1, 1, 1, 0, 0]) (g37C [1, 0, 1, 0, 1, 1, 1, 0, 1]) := by kernel_rfl
theorem g37n101011101 : g37C [1, 0, 1, 0, 1, 1, 1, 0, 1] = .seq (g37C [1, 0, 1, 0, 1, 1, 1, 0, 1, 0]) (g37C [1, 0, 1, 0, 1, 1, 1, 0, 1, 1]) := by kernel_rfl
theorem g37n1010111010 : g37C [1, 0, 1, 0, 1, 1, 1, 0, 1, 0] = .seq (g37C [1, 0, 1, 0, 1, 1, 1, 0, 1, 0, 0]) (g37C [1, 0, 1, 0, 1, 1, 1, 0, 1, 0, 1]) := by kernel_rfl
theorem g37n10101110101 : g37C [1, 0, 1, 0, 1, 1, 1, 0, 1, 0, 1] = .block 1 (g37C [1, 0, 1, 0, 1, 1, 1, 0, 1, 0, 1, 0]) := by kernel_rfl
theorem g37e1010111 (R : Nat → Fn) : (g37X R) (g37C [1, 0, 1, 0, 1, 1, 1]) ((g37k1 R)) = fun env st => (g37b1010111 R) (env 1) (env 13) st := by
  refine Eq.trans ((g37cond R) g37n1010111 ((g37seq R) g37n10101110 (((g37seq R) g37n101011101 rfl).trans ((g37seq R) g37n1010111010 (((g37blk R) g37n10101110101).trans ((g37e101011101010 R)))))) rfl) ?_
  funext env st
  kernel_rfl
noncomputable def f37 (R : Nat → Fn) (x0 : V) (st : St) : Res :=
 A.box x0 st fun a1 z2 =>
 A.faddr 0 a1 fun a3 =>
 A.load false 1 a3 z2 fun a4 z5 =>
 A.eql 2 false a4 (.int .i64 1) fun a6 =>
 A.cond a6
 (A.faddr 1 a1 fun a7 =>
 A.load false 1 a7 z5 fun a8 z9 =>
 some (.ret a8.er1, z9))
 (A.eql 2 false a4 (.int .i64 3) fun a10 =>
 A.cond a10
 ((g37b1010111 R) a1 a10 z5)
 (A.eql 2 false a4 (.int .i64 2) fun a11 =>
 (g37b1010111 R) a1 a11 z5))
theorem g37nr : g37C [] = .seq (g37C [0]) (g37C [1]) := by kernel_rfl
theorem g37n1 : g37C [1] = .seq (g37C [1, 0]) (g37C [1, 1]) := by kernel_rfl
theorem g37n10 : g37C [1, 0] = .seq (g37C [1, 0, 0]) (g37C [1, 0, 1]) := by kernel_rfl
theorem g37n101 : g37C [1, 0, 1] = .block 0 (g37C [1, 0, 1, 0]) := by kernel_rfl
theorem g37n1010 : g37C [1, 0, 1, 0] = .seq (g37C [1, 0, 1, 0, 0]) (g37C [1, 0, 1, 0, 1]) := by kernel_rfl
theorem g37n10101 : g37C [1, 0, 1, 0, 1] = .cond (.tmp 9) (g37C [1, 0, 1, 0, 1, 0]) (g37C [1, 0, 1, 0, 1, 1]) := by kernel_rfl
theorem g37n101011 : g37C [1, 0, 1, 0, 1, 1] = .seq (g37C [1, 0, 1, 0, 1, 1, 0]) (g37C [1, 0, 1, 0, 1, 1, 1]) := by kernel_rfl
theorem g37er (R : Nat → Fn) (env : Env) (st : St) : (g37X R) (g37C []) (g37kr R) env st = (f37 R) (env 0) st := by
  rw [((g37seq R) g37nr (((g37seq R) g37n1 ((g37e11 R))).trans ((g37seq R) g37n10 (((g37blk R) g37n101).trans ((g37seq R) g37n1010 ((g37cond R) g37n10101 rfl ((g37seq R) g37n101011 ((g37e1010111 R)))))))))]
  kernel_rfl
theorem s37R_eq (R : Nat → Fn) (x0 : V) (st : St) : afn Try.prog g37mu (g37T R) big (areg Try.prog g37mu (g37T R)) 37 [x0] st = (f37 R) x0 st := by
  have h : afn Try.prog g37mu (g37T R) big (areg Try.prog g37mu (g37T R)) 37 [x0] st = (g37X R) (g37C []) (g37kr R) (fun t => [x0].getD t (.tup [])) st := by kernel_rfl
  exact h.trans ((g37er R) _ st)
noncomputable def G71 : Nat → Nat → Fn
| 0 => fun _ _ _ => none
| n + 1 => fun j => ((tget [(71, afn Try.prog g71mu (g71T (G71 n)) big (areg Try.prog g71mu (g71T (G71 n))) 71), (37, afn Try.prog g37mu (g37T (G71 n)) big (areg Try.prog g37mu (g37T (G71 n))) 37)]) j).getD (fun _ _ => none)
theorem G71_71 (n : Nat) : G71 (n + 1) 71 = afn Try.prog g71mu (g71T (G71 n)) big (areg Try.prog g71mu (g71T (G71 n))) 71 := by kernel_rfl
theorem G71_37 (n : Nat) : G71 (n + 1) 37 = afn Try.prog g37mu (g37T (G71 n)) big (areg Try.prog g37mu (g37T (G71 n))) 37 := by kernel_rfl
theorem G71_ok : ∀ j, j ∈ [71, 37] → okFn Try.prog j = true := by
  intro j hj
  simp only [List.mem_cons, List.not_mem_nil, or_false] at hj
  rcases hj with rfl | rfl <;> kernel_rfl
theorem simG71 : ∀ n j, j ∈ [71, 37] → Sim Try.prog j (G71 n j)
| 0, j, hj => ⟨G71_ok j hj, fun _ _ _ _ _ _ _ h => by cases h⟩
| n + 1, j, hj => by
  have ih := simG71 n
  simp only [List.mem_cons, List.not_mem_nil, or_false] at hj
  rcases hj with rfl | rfl
  · rw [G71_71]; exact afn_sim (g71t (G71 n) ih) (fun m => areg_sound (g71t (G71 n) ih) hmix m) 71 (by kernel_rfl)
  · rw [G71_37]; exact afn_sim (g37t (G71 n) ih) (fun m => areg_sound (g37t (G71 n) ih) hmix m) 37 (by kernel_rfl)
noncomputable def s71 : Fn := sealF (G71 big 71)
theorem sim71 : Sim Try.prog 71 s71 := (simG71 big 71 (by decide)).sealed
theorem s71_n : s71 = G71 big 71 := sealF_eq _
theorem G71_71_eq (n : Nat) (x0 : V) (x1 : V) (st : St) : G71 (n + 1) 71 [x0, x1] st = f71 (G71 n) x0 x1 st := by
  rw [G71_71]; exact s71R_eq (G71 n) x0 x1 st
noncomputable def s37 : Fn := sealF (G71 big 37)
theorem sim37 : Sim Try.prog 37 s37 := (simG71 big 37 (by decide)).sealed
theorem s37_n : s37 = G71 big 37 := sealF_eq _
theorem G71_37_eq (n : Nat) (x0 : V) (st : St) : G71 (n + 1) 37 [x0] st = f37 (G71 n) x0 st := by
  rw [G71_37]; exact s37R_eq (G71 n) x0 st
/-! sinew/sinewref09.Print -/
def g18mu : Nat → Bool := fun _ => false
noncomputable def g18T : Tbl := tget [(35, s35), (36, s36), (37, s37)]
theorem g18t : SimT Try.prog g18T := simT_cons sim35 ( simT_cons sim36 ( simT_cons sim37 (simT_nil)))
noncomputable def s18 : Fn := sealF (fun args st => fg (afn Try.prog g18mu g18T big (areg Try.prog g18mu g18T) 18 args st) st)
theorem sim18 : Sim Try.prog 18 s18 := (afn_sim g18t (fun m => areg_sound g18t hmix m) 18 (by kernel_rfl)).fg.sealed
noncomputable def g18C (p : List Nat) : Code := sub (match Try.f18.body with | some c => c | none => .skip) p
noncomputable def g18X (c : Code) (K : Kon) : Env → St → Res := aexec Try.prog g18mu g18T big 109 (areg Try.prog g18mu g18T 109) c K
noncomputable def g18kr : Kon := aresK Try.prog Try.f18.results.toList
theorem g18reg {c : Code} {K : Kon} {G : Env → St → Res} {id : Nat} {ops : Array Oper} {l1 l2 : List Nat} (hc : c = .region id ops false) (hl : List.range ops.size = l1 ++ l2) (h : (fun env st => aops Try.prog g18mu g18T 109 ops l2 env st (K .normal)) = G) : g18X c K = fun env st => aops Try.prog g18mu g18T 109 ops l1 env st G := reg_cut hc hl h
theorem g18seq {c x y : Code} {K : Kon} {G : Env → St → Res} (hc : c = .seq x y) (hy : g18X y K = G) : g18X c K = g18X x (kSeq G K) := seq_cut hc hy
theorem g18blk {c x : Code} {K : Kon} {i : Nat} (hc : c = .block i x) : g18X c K = g18X x (kBlk i K) := blk_cut hc
theorem g18loop {c x : Code} {K : Kon} (hc : c = .loop x) : g18X c K = aloop (g18X x) K big := loop_cut hc
theorem g18cond {c x y : Code} {K : Kon} {v : Operand} {F G : Env → St → Res} (hc : c = .cond v x y) (hx : g18X x K = F) (hy : g18X y K = G) : g18X c K = condF v F G := cond_cut hc hx hy
noncomputable def g18k0 : Kon := kSeq (g18X (g18C [1, 1, 1, 1, 1, 1, 1, 1]) (g18kr)) (g18kr)
noncomputable def g18k1 : Kon := kBlk 4 (g18k0)
noncomputable def g18k2 (L1111111010 : V → V → V → St → Res) : Kon := kSeq (fun env st => L1111111010 (env 1) (env 4) (env 8) st) (g18k1)
noncomputable def g18k3 (L1111111010 : V → V → V → St → Res) : Kon := kSeq (g18X (g18C [1, 1, 1, 1, 1, 1, 1, 0, 1, 0, 0, 1, 1]) (g18k2 L1111111010)) (g18k2 L1111111010)
noncomputable def g18k4 (L1111111010 : V → V → V → St → Res) : Kon := kBlk 5 (g18k3 L1111111010)
noncomputable def g18b1111111010010011 (L1111111010 : V → V → V → St → Res) (x1 : V) (x4 : V) (x8 : V) (x9 : V) (st : St) : Res :=
 A.bin .add x4 (.str [32]) fun a1 =>
 A.faddr 0 x9 fun a2 =>
 A.load true 2 a2 st fun a3 _ =>
 A.noP (A.ret (s36 [a3.er1] st) kid) fun a4 z5 =>
 A.bin .add a1 a4 fun a6 =>
 A.bin .add a6 (.str [32]) fun a7 =>
 A.faddr 2 x9 fun a8 =>
 A.load true 3 a8 z5 fun a9 _ =>
 A.chk (ldv true 3 a8 st) a9
 (A.noP (A.ret (s37 [a9.er1] z5) kid) fun a10 z11 =>
 A.bin .add a7 a10 fun a12 =>
 A.bin .add a12 (.str [32]) fun a13 =>
 A.faddr 5 x9 fun a14 =>
 A.load true 2 a14 z11 fun a15 _ =>
 A.chk (ldv true 2 a14 z5) a15
 (A.chk (ldv true 2 a14 st) a15
 (A.ret (A.ret (s36 [a15.er1] z11) kid) fun a16 z17 =>
 A.bin .add a13 a16 fun a18 =>
 A.bin .add x8 (.int .i64 1) fun a19 =>
 L1111111010 x1 a18 a19 z17)))
theorem g18e1111111010010011 (L1111111010 : V → V → V → St → Res) : g18X (g18C [1, 1, 1, 1, 1, 1, 1, 0, 1, 0, 0, 1, 0, 0, 1, 1]) (g18k4 L1111111010) = fun env st => g18b1111111010010011 L1111111010 (env 1) (env 4) (env 8) (env 9) st := by
  refine Eq.trans (Eq.refl (g18X (g18C [1, 1, 1, 1, 1, 1, 1, 0, 1, 0, 0, 1, 0, 0, 1, 1]) (g18k4 L1111111010))) ?_
  funext env st
  kernel_rfl
noncomputable def g18b111111101001001 (L1111111010 : V → V → V → St → Res) (x1 : V) (x4 : V) (x8 : V) (x9 : V) (st : St) : Res :=
 A.bin .gtr x8 (.int .i64 0) fun a1 =>
 A.cond a1
 (A.bin .add x4 (.str [32, 46]) fun a2 =>
 g18b1111111010010011 L1111111010 x1 a2 x8 x9 st)
 (g18b1111111010010011 L1111111010 x1 x4 x8 x9 st)
theorem g18n111111101001001 : g18C [1, 1, 1, 1, 1, 1, 1, 0, 1, 0, 0, 1, 0, 0, 1] = .seq (g18C [1, 1, 1, 1, 1, 1, 1, 0, 1, 0, 0, 1, 0, 0, 1, 0]) (g18C [1, 1, 1, 1, 1, 1, 1, 0, 1, 0, 0, 1, 0, 0, 1, 1]) := by kernel_rfl
theorem g18e111111101001001 (L1111111010 : V → V → V → St → Res) : g18X (g18C [1, 1, 1, 1, 1, 1, 1, 0, 1, 0, 0, 1, 0, 0, 1]) (g18k4 L1111111010) = fun env st => g18b111111101001001 L1111111010 (env 1) (env 4) (env 8) (env 9) st := by
  refine Eq.trans (g18seq g18n111111101001001 (g18e1111111010010011 L1111111010)) ?_
  funext env st
  kernel_rfl
noncomputable def g18b1111111010 : Nat → V → V → V → St → Res
| 0, _, _, _, _ => none
| n + 1, x1, x4, x8, st =>
 A.faddr 1 x1 fun a1 =>
 A.faddr 1 a1 fun a2 =>
 A.load false 1 a2 st fun a3 z4 =>
 A.lenL a3 fun a5 =>
 A.bin .lss x8 a5 fun a6 =>
 A.cond a6
 (A.faddr 1 x1 fun a7 =>
 A.faddr 1 a7 fun a8 =>
 A.load false 1 a8 z4 fun a9 z10 =>
 A.iaddr 7 a9 x8 fun a11 =>
 A.load true 7 a11 z10 fun a12 z13 =>
 A.box (.agg [(.bool false), (.str []), (.int .i64 0), (.str []), (.lst [] 1), (.bool false), (.str [])]) z13 fun a14 z15 =>
 A.store 7 a14 a12 z15 fun z16 =>
 g18b111111101001001 (g18b1111111010 n) x1 x4 x8 a14 z16)
 (A.bin .add x4 (.str [32, 125]) fun a17 =>
 some (.ret (.tup [a17.er1, ((.int .i64 0) : V).er1]), z4))
theorem g18n1111111010 : g18C [1, 1, 1, 1, 1, 1, 1, 0, 1, 0] = .loop (g18C [1, 1, 1, 1, 1, 1, 1, 0, 1, 0, 0]) := by kernel_rfl
theorem g18n11111110100 : g18C [1, 1, 1, 1, 1, 1, 1, 0, 1, 0, 0] = .seq (g18C [1, 1, 1, 1, 1, 1, 1, 0, 1, 0, 0, 0]) (g18C [1, 1, 1, 1, 1, 1, 1, 0, 1, 0, 0, 1]) := by kernel_rfl
theorem g18n111111101001 : g18C [1, 1, 1, 1, 1, 1, 1, 0, 1, 0, 0, 1] = .seq (g18C [1, 1, 1, 1, 1, 1, 1, 0, 1, 0, 0, 1, 0]) (g18C [1, 1, 1, 1, 1, 1, 1, 0, 1, 0, 0, 1, 1]) := by kernel_rfl
theorem g18n1111111010010 : g18C [1, 1, 1, 1, 1, 1, 1, 0, 1, 0, 0, 1, 0] = .block 5 (g18C [1, 1, 1, 1, 1, 1, 1, 0, 1, 0, 0, 1, 0, 0]) := by kernel_rfl
theorem g18n11111110100100 : g18C [1, 1, 1, 1, 1, 1, 1, 0, 1, 0, 0, 1, 0, 0] = .seq (g18C [1, 1, 1, 1, 1, 1, 1, 0, 1, 0, 0, 1, 0, 0, 0]) (g18C [1, 1, 1, 1, 1, 1, 1, 0, 1, 0, 0, 1, 0, 0, 1]) := by kernel_rfl
theorem g18e1111111010 : g18X (g18C [1, 1, 1, 1, 1, 1, 1, 0, 1, 0]) (g18k1) = fun env st => g18b1111111010 big (env 1) (env 4) (env 8) st := by
  have key : ∀ n, aloop (g18X (g18C [1, 1, 1, 1, 1, 1, 1, 0, 1, 0, 0])) (g18k1) n = fun env st => g18b1111111010 n (env 1) (env 4) (env 8) st := by
    intro n
    induction n with
    | zero => rfl
    | succ n ih =>
      have h : aloop (g18X (g18C [1, 1, 1, 1, 1, 1, 1, 0, 1, 0, 0])) (g18k1) (n + 1) = g18X (g18C [1, 1, 1, 1, 1, 1, 1, 0, 1, 0, 0]) (kSeq (aloop (g18X (g18C [1, 1, 1, 1, 1, 1, 1, 0, 1, 0, 0])) (g18k1) n) (g18k1)) := rfl
      rw [h, ih]
      refine Eq.trans (g18seq g18n11111110100 ((g18seq g18n111111101001 rfl).trans ((g18blk g18n1111111010010).trans (g18seq g18n11111110100100 (g18e111111101001001 (g18b1111111010 n)))))) ?_
      funext env st
      kernel_rfl
  exact (g18loop g18n1111111010).trans (key big)
noncomputable def g18b111111 (x1 : V) (x4 : V) (st : St) : Res :=
 A.bin .add x4 (.str [32, 119, 104, 101, 114, 101, 32, 123]) fun a1 =>
 g18b1111111010 big x1 a1 (.int .i64 0) st
theorem g18n111111 : g18C [1, 1, 1, 1, 1, 1] = .seq (g18C [1, 1, 1, 1, 1, 1, 0]) (g18C [1, 1, 1, 1, 1, 1, 1]) := by kernel_rfl
theorem g18n1111111 : g18C [1, 1, 1, 1, 1, 1, 1] = .seq (g18C [1, 1, 1, 1, 1, 1, 1, 0]) (g18C [1, 1, 1, 1, 1, 1, 1, 1]) := by kernel_rfl
theorem g18n11111110 : g18C [1, 1, 1, 1, 1, 1, 1, 0] = .seq (g18C [1, 1, 1, 1, 1, 1, 1, 0, 0]) (g18C [1, 1, 1, 1, 1, 1, 1, 0, 1]) := by kernel_rfl
theorem g18n111111101 : g18C [1, 1, 1, 1, 1, 1, 1, 0, 1] = .block 4 (g18C [1, 1, 1, 1, 1, 1, 1, 0, 1, 0]) := by kernel_rfl
theorem g18e111111 : g18X (g18C [1, 1, 1, 1, 1, 1]) (g18kr) = fun env st => g18b111111 (env 1) (env 4) st := by
  refine Eq.trans (g18seq g18n111111 ((g18seq g18n1111111 rfl).trans (g18seq g18n11111110 ((g18blk g18n111111101).trans (g18e1111111010))))) ?_
  funext env st
  kernel_rfl
noncomputable def g18k5 : Kon := kSeq (fun env st => g18b111111 (env 1) (env 4) st) (g18kr)
noncomputable def g18k6 : Kon := kBlk 2 (g18k5)
noncomputable def g18b11111010 : Nat → V → V → V → St → Res
| 0, _, _, _, _ => none
| n + 1, x1, x4, x7, st =>
 A.faddr 1 x1 fun a1 =>
 A.faddr 0 a1 fun a2 =>
 A.load false 1 a2 st fun a3 z4 =>
 A.lenL a3 fun a5 =>
 A.bin .lss x7 a5 fun a6 =>
 A.cond a6
 (A.bin .add x4 (.str [32, 63]) fun a7 =>
 A.faddr 1 x1 fun a8 =>
 A.faddr 0 a8 fun a9 =>
 A.load false 1 a9 z4 fun a10 z11 =>
 A.iaddr 1 a10 x7 fun a12 =>
 A.load false 1 a12 z11 fun a13 z14 =>
 A.bin .add a7 a13 fun a15 =>
 A.bin .add x7 (.int .i64 1) fun a16 =>
 (g18b11111010 n) x1 a15 a16 z14)
 (g18b111111 x1 x4 z4)
theorem g18n11111010 : g18C [1, 1, 1, 1, 1, 0, 1, 0] = .loop (g18C [1, 1, 1, 1, 1, 0, 1, 0, 0]) := by kernel_rfl
noncomputable def g18k7 (L11111010 : V → V → V → St → Res) : Kon := kSeq (fun env st => L11111010 (env 1) (env 4) (env 7) st) (g18k6)
theorem g18e11111010 : g18X (g18C [1, 1, 1, 1, 1, 0, 1, 0]) (g18k6) = fun env st => g18b11111010 big (env 1) (env 4) (env 7) st := by
  have key : ∀ n, aloop (g18X (g18C [1, 1, 1, 1, 1, 0, 1, 0, 0])) (g18k6) n = fun env st => g18b11111010 n (env 1) (env 4) (env 7) st := by
    intro n
    induction n with
    | zero => rfl
    | succ n ih =>
      have h : aloop (g18X (g18C [1, 1, 1, 1, 1, 0, 1, 0, 0])) (g18k6) (n + 1) = g18X (g18C [1, 1, 1, 1, 1, 0, 1, 0, 0]) (kSeq (aloop (g18X (g18C [1, 1, 1, 1, 1, 0, 1, 0, 0])) (g18k6) n) (g18k6)) := rfl
      rw [h, ih]
      refine Eq.trans (Eq.refl _) ?_
      funext env st
      kernel_rfl
  exact (g18loop g18n11111010).trans (key big)
noncomputable def g18b1111 (x1 : V) (st : St) : Res :=
 g18b11111010 big x1 (.str [115, 101, 108, 101, 99, 116]) (.int .i64 0) st
theorem g18n1111 : g18C [1, 1, 1, 1] = .seq (g18C [1, 1, 1, 1, 0]) (g18C [1, 1, 1, 1, 1]) := by kernel_rfl
theorem g18n11111 : g18C [1, 1, 1, 1, 1] = .seq (g18C [1, 1, 1, 1, 1, 0]) (g18C [1, 1, 1, 1, 1, 1]) := by kernel_rfl
theorem g18n111110 : g18C [1, 1, 1, 1, 1, 0] = .seq (g18C [1, 1, 1, 1, 1, 0, 0]) (g18C [1, 1, 1, 1, 1, 0, 1]) := by kernel_rfl
theorem g18n1111101 : g18C [1, 1, 1, 1, 1, 0, 1] = .block 2 (g18C [1, 1, 1, 1, 1, 0, 1, 0]) := by kernel_rfl
theorem g18e1111 : g18X (g18C [1, 1, 1, 1]) (g18kr) = fun env st => g18b1111 (env 1) st := by
  refine Eq.trans (g18seq g18n1111 ((g18seq g18n11111 (g18e111111)).trans (g18seq g18n111110 ((g18blk g18n1111101).trans (g18e11111010))))) ?_
  funext env st
  kernel_rfl
noncomputable def g18k8 : Kon := kSeq (fun env st => g18b1111 (env 1) st) (g18kr)
noncomputable def g18k9 : Kon := kSeq (g18X (g18C [1, 1, 1, 0, 1, 0, 1]) (g18k8)) (g18k8)
noncomputable def g18k10 : Kon := kBlk 0 (g18k9)
noncomputable def g18k11 (L111010010 : V → V → V → St → Res) : Kon := kSeq (fun env st => L111010010 (env 1) (env 4) (env 5) st) (g18k10)
noncomputable def g18k12 (L111010010 : V → V → V → St → Res) : Kon := kSeq (g18X (g18C [1, 1, 1, 0, 1, 0, 0, 1, 0, 0, 1, 1]) (g18k11 L111010010)) (g18k11 L111010010)
noncomputable def g18k13 (L111010010 : V → V → V → St → Res) : Kon := kBlk 1 (g18k12 L111010010)
noncomputable def g18b1110100100100111 (L111010010 : V → V → V → St → Res) (x1 : V) (x4 : V) (x5 : V) (x6 : V) (st : St) : Res :=
 A.faddr 1 x6 fun a1 =>
 A.faddr 0 a1 fun a2 =>
 A.load false 1 a2 st fun a3 z4 =>
 A.bin .add x4 a3 fun a5 =>
 A.bin .add a5 (.str [32]) fun a6 =>
 A.faddr 1 x6 fun a7 =>
 A.faddr 1 a7 fun a8 =>
 A.load false 1 a8 z4 fun a9 z10 =>
 A.bin .add a6 a9 fun a11 =>
 A.bin .add a11 (.str [32]) fun a12 =>
 A.faddr 1 x6 fun a13 =>
 A.faddr 2 a13 fun a14 =>
 A.load false 1 a14 z10 fun a15 z16 =>
 A.bin .add a12 a15 fun a17 =>
 A.bin .add x5 (.int .i64 1) fun a18 =>
 L111010010 x1 a17 a18 z16
theorem g18e1110100100100111 (L111010010 : V → V → V → St → Res) : g18X (g18C [1, 1, 1, 0, 1, 0, 0, 1, 0, 0, 1, 0, 0, 1, 1, 1]) (g18k13 L111010010) = fun env st => g18b1110100100100111 L111010010 (env 1) (env 4) (env 5) (env 6) st := by
  refine Eq.trans (Eq.refl (g18X (g18C [1, 1, 1, 0, 1, 0, 0, 1, 0, 0, 1, 0, 0, 1, 1, 1]) (g18k13 L111010010))) ?_
  funext env st
  kernel_rfl
noncomputable def g18b111010010010011 (L111010010 : V → V → V → St → Res) (x1 : V) (x4 : V) (x5 : V) (x6 : V) (st : St) : Res :=
 A.faddr 0 x6 fun a1 =>
 A.load false 1 a1 st fun a2 z3 =>
 A.cond a2
 (A.bin .add x4 (.str [100, 101, 108, 101, 116, 101, 32]) fun a4 =>
 g18b1110100100100111 L111010010 x1 a4 x5 x6 z3)
 (A.bin .add x4 (.str [105, 110, 115, 101, 114, 116, 32]) fun a5 =>
 g18b1110100100100111 L111010010 x1 a5 x5 x6 z3)
theorem g18n111010010010011 : g18C [1, 1, 1, 0, 1, 0, 0, 1, 0, 0, 1, 0, 0, 1, 1] = .seq (g18C [1, 1, 1, 0, 1, 0, 0, 1, 0, 0, 1, 0, 0, 1, 1, 0]) (g18C [1, 1, 1, 0, 1, 0, 0, 1, 0, 0, 1, 0, 0, 1, 1, 1]) := by kernel_rfl
theorem g18e111010010010011 (L111010010 : V → V → V → St → Res) : g18X (g18C [1, 1, 1, 0, 1, 0, 0, 1, 0, 0, 1, 0, 0, 1, 1]) (g18k13 L111010010) = fun env st => g18b111010010010011 L111010010 (env 1) (env 4) (env 5) (env 6) st := by
  refine Eq.trans (g18seq g18n111010010010011 (g18e1110100100100111 L111010010)) ?_
  funext env st
  kernel_rfl
noncomputable def g18b11101001001001 (L111010010 : V → V → V → St → Res) (x1 : V) (x4 : V) (x5 : V) (x6 : V) (st : St) : Res :=
 A.bin .gtr x5 (.int .i64 0) fun a1 =>
 A.cond a1
 (A.bin .add x4 (.str [32, 46, 32]) fun a2 =>
 g18b111010010010011 L111010010 x1 a2 x5 x6 st)
 (g18b111010010010011 L111010010 x1 x4 x5 x6 st)
theorem g18n11101001001001 : g18C [1, 1, 1, 0, 1, 0, 0, 1, 0, 0, 1, 0, 0, 1] = .seq (g18C [1, 1, 1, 0, 1, 0, 0, 1, 0, 0, 1, 0, 0, 1, 0]) (g18C [1, 1, 1, 0, 1, 0, 0, 1, 0, 0, 1, 0, 0, 1, 1]) := by kernel_rfl
theorem g18e11101001001001 (L111010010 : V → V → V → St → Res) : g18X (g18C [1, 1, 1, 0, 1, 0, 0, 1, 0, 0, 1, 0, 0, 1]) (g18k13 L111010010) = fun env st => g18b11101001001001 L111010010 (env 1) (env 4) (env 5) (env 6) st := by
  refine Eq.trans (g18seq g18n11101001001001 (g18e111010010010011 L111010010)) ?_
  funext env st
  kernel_rfl
noncomputable def g18b111010010 : Nat → V → V → V → St → Res
| 0, _, _, _, _ => none
| n + 1, x1, x4, x5, st =>
 A.faddr 3 x1 fun a1 =>
 A.load false 1 a1 st fun a2 z3 =>
 A.lenL a2 fun a4 =>
 A.bin .lss x5 a4 fun a5 =>
 A.cond a5
 (A.faddr 3 x1 fun a6 =>
 A.load false 1 a6 z3 fun a7 z8 =>
 A.iaddr 4 a7 x5 fun a9 =>
 A.load true 4 a9 z8 fun a10 z11 =>
 A.box (.agg [(.bool false), (.str []), (.str []), (.str [])]) z11 fun a12 z13 =>
 A.store 4 a12 a10 z13 fun z14 =>
 g18b11101001001001 (g18b111010010 n) x1 x4 x5 a12 z14)
 (some (.ret (.tup [x4.er1, ((.int .i64 0) : V).er1]), z3))
theorem g18n111010010 : g18C [1, 1, 1, 0, 1, 0, 0, 1, 0] = .loop (g18C [1, 1, 1, 0, 1, 0, 0, 1, 0, 0]) := by kernel_rfl
theorem g18n1110100100 : g18C [1, 1, 1, 0, 1, 0, 0, 1, 0, 0] = .seq (g18C [1, 1, 1, 0, 1, 0, 0, 1, 0, 0, 0]) (g18C [1, 1, 1, 0, 1, 0, 0, 1, 0, 0, 1]) := by kernel_rfl
theorem g18n11101001001 : g18C [1, 1, 1, 0, 1, 0, 0, 1, 0, 0, 1] = .seq (g18C [1, 1, 1, 0, 1, 0, 0, 1, 0, 0, 1, 0]) (g18C [1, 1, 1, 0, 1, 0, 0, 1, 0, 0, 1, 1]) := by kernel_rfl
theorem g18n111010010010 : g18C [1, 1, 1, 0, 1, 0, 0, 1, 0, 0, 1, 0] = .block 1 (g18C [1, 1, 1, 0, 1, 0, 0, 1, 0, 0, 1, 0, 0]) := by kernel_rfl
theorem g18n1110100100100 : g18C [1, 1, 1, 0, 1, 0, 0, 1, 0, 0, 1, 0, 0] = .seq (g18C [1, 1, 1, 0, 1, 0, 0, 1, 0, 0, 1, 0, 0, 0]) (g18C [1, 1, 1, 0, 1, 0, 0, 1, 0, 0, 1, 0, 0, 1]) := by kernel_rfl
theorem g18e111010010 : g18X (g18C [1, 1, 1, 0, 1, 0, 0, 1, 0]) (g18k10) = fun env st => g18b111010010 big (env 1) (env 4) (env 5) st := by
  have key : ∀ n, aloop (g18X (g18C [1, 1, 1, 0, 1, 0, 0, 1, 0, 0])) (g18k10) n = fun env st => g18b111010010 n (env 1) (env 4) (env 5) st := by
    intro n
    induction n with
    | zero => rfl
    | succ n ih =>
      have h : aloop (g18X (g18C [1, 1, 1, 0, 1, 0, 0, 1, 0, 0])) (g18k10) (n + 1) = g18X (g18C [1, 1, 1, 0, 1, 0, 0, 1, 0, 0]) (kSeq (aloop (g18X (g18C [1, 1, 1, 0, 1, 0, 0, 1, 0, 0])) (g18k10) n) (g18k10)) := rfl
      rw [h, ih]
      refine Eq.trans (g18seq g18n1110100100 ((g18seq g18n11101001001 rfl).trans ((g18blk g18n111010010010).trans (g18seq g18n1110100100100 (g18e11101001001001 (g18b111010010 n)))))) ?_
      funext env st
      kernel_rfl
  exact (g18loop g18n111010010).trans (key big)
noncomputable def g18b11101 (x1 : V) (x4 : V) (x15 : V) (st : St) : Res :=
 A.cond x15
 (g18b111010010 big x1 x4 (.int .i64 0) st)
 (g18b1111 x1 st)
theorem g18n11101 : g18C [1, 1, 1, 0, 1] = .cond (.tmp 15) (g18C [1, 1, 1, 0, 1, 0]) (g18C [1, 1, 1, 0, 1, 1]) := by kernel_rfl
theorem g18n111010 : g18C [1, 1, 1, 0, 1, 0] = .seq (g18C [1, 1, 1, 0, 1, 0, 0]) (g18C [1, 1, 1, 0, 1, 0, 1]) := by kernel_rfl
theorem g18n1110100 : g18C [1, 1, 1, 0, 1, 0, 0] = .seq (g18C [1, 1, 1, 0, 1, 0, 0, 0]) (g18C [1, 1, 1, 0, 1, 0, 0, 1]) := by kernel_rfl
theorem g18n11101001 : g18C [1, 1, 1, 0, 1, 0, 0, 1] = .block 0 (g18C [1, 1, 1, 0, 1, 0, 0, 1, 0]) := by kernel_rfl
theorem g18e11101 : g18X (g18C [1, 1, 1, 0, 1]) (g18k8) = fun env st => g18b11101 (env 1) (env 4) (env 15) st := by
  refine Eq.trans (g18cond g18n11101 ((g18seq g18n111010 rfl).trans (g18seq g18n1110100 ((g18blk g18n11101001).trans (g18e111010010)))) rfl) ?_
  funext env st
  kernel_rfl
noncomputable def f18 (x0 : V) (st : St) : Res :=
 A.box x0 st fun a1 z2 =>
 A.load true 4 a1 z2 fun a3 z4 =>
 A.ret (s35 [a3.er1] z4) fun a5 z6 =>
 A.un .not a5 fun a7 =>
 A.cond a7
 (some (.ret (.tup [((.str []) : V).er1, ((.int .i64 1) : V).er1]), z6))
 (A.faddr 0 a1 fun a8 =>
 A.load false 1 a8 z6 fun a9 z10 =>
 A.eql 2 false a9 (.int .i64 2) fun a11 =>
 g18b11101 a1 (.str []) a11 z10)
theorem g18nr : g18C [] = .seq (g18C [0]) (g18C [1]) := by kernel_rfl
theorem g18n1 : g18C [1] = .seq (g18C [1, 0]) (g18C [1, 1]) := by kernel_rfl
theorem g18n11 : g18C [1, 1] = .seq (g18C [1, 1, 0]) (g18C [1, 1, 1]) := by kernel_rfl
theorem g18n111 : g18C [1, 1, 1] = .seq (g18C [1, 1, 1, 0]) (g18C [1, 1, 1, 1]) := by kernel_rfl
theorem g18n1110 : g18C [1, 1, 1, 0] = .seq (g18C [1, 1, 1, 0, 0]) (g18C [1, 1, 1, 0, 1]) := by kernel_rfl
theorem g18er (env : Env) (st : St) : g18X (g18C []) g18kr env st = f18 (env 0) st := by
  rw [(g18seq g18nr (g18seq g18n1 (g18seq g18n11 ((g18seq g18n111 (g18e1111)).trans (g18seq g18n1110 (g18e11101))))))]
  kernel_rfl
theorem s18_eq (x0 : V) (st : St) : s18 [x0] st = fg (f18 x0 st) st := by
  have h : afn Try.prog g18mu g18T big (areg Try.prog g18mu g18T) 18 [x0] st = g18X (g18C []) g18kr (fun t => [x0].getD t (.tup [])) st := by kernel_rfl
  rw [s18, sealF_eq]
  show fg _ st = fg _ st
  refine congrArg (fun r => fg r st) ?_
  exact h.trans (g18er _ st)
end Go.Ab
