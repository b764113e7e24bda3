import Derived.Test.YtjdgaphjjhhjeaaAbQuiet
import Derived.Test.YtjdgaphjjhhjeaaAbJ04merged0
namespace Go.Ab
open Go.Proofs
set_option linter.unusedVariables false
set_option maxRecDepth 100000
/-! sinew/sinewref04.Begin -/
def g29mu : Nat → Bool := fun _ => false
noncomputable def g29T : Tbl := tget [(26, w26), (27, s27), (40, s40)]
theorem g29t : SimT Try.prog g29T := simT_cons simw26 ( simT_cons sim27 ( simT_cons sim40 (simT_nil)))
def obl29 : Nat → Bool := fun f => f == 26
theorem hobl29 : ∀ f sh, obl29 f = true → g29T f = some sh → Obliv sh := by
  intro f sh h1 h2
  have h3 : f = 26 := by simpa [obl29] using h1
  rcases h3 with rfl
  · have e : g29T 26 = some w26 := by kernel_rfl
    rw [e] at h2; cases h2; exact obliv26
noncomputable def s29 : Fn := sealF (fun args st => fg (afn Try.prog g29mu g29T big (areg3 Try.prog g29mu g29T obl29) 29 args st) st)
theorem sim29 : Sim Try.prog 29 s29 := (afn_sim g29t (fun m => areg3_sound (obl := obl29) g29t hobl29 hmix m) 29 (by kernel_rfl)).fg.sealed
noncomputable def g29C (p : List Nat) : Code := sub (match Try.f29.body with | some c => c | none => .skip) p
noncomputable def g29X (c : Code) (K : Kon) : Env → St → Res := aexec Try.prog g29mu g29T big 49 (areg3 Try.prog g29mu g29T obl29 49) c K
noncomputable def g29kr : Kon := aresK Try.prog Try.f29.results.toList
theorem g29reg {c : Code} {K : Kon} {G : Env → St → Res} {id : Nat} {ops : Array Oper} {l1 l2 : List Nat} (hc : c = .region id ops false) (hl : List.range ops.size = l1 ++ l2) (h : (fun env st => aops Try.prog g29mu g29T 49 ops l2 env st (K .normal)) = G) : g29X c K = fun env st => aops Try.prog g29mu g29T 49 ops l1 env st G := reg_cut hc hl h
theorem g29seq {c x y : Code} {K : Kon} {G : Env → St → Res} (hc : c = .seq x y) (hy : g29X y K = G) : g29X c K = g29X x (kSeq G K) := seq_cut hc hy
theorem g29blk {c x : Code} {K : Kon} {i : Nat} (hc : c = .block i x) : g29X c K = g29X x (kBlk i K) := blk_cut hc
theorem g29loop {c x : Code} {K : Kon} (hc : c = .loop x) : g29X c K = aloop (g29X x) K big := loop_cut hc
theorem g29cond {c x y : Code} {K : Kon} {v : Operand} {F G : Env → St → Res} (hc : c = .cond v x y) (hx : g29X x K = F) (hy : g29X y K = G) : g29X c K = condF v F G := cond_cut hc hx hy
noncomputable def g29k0 : Kon := kSeq (g29X (g29C [1, 1, 1, 1]) (g29kr)) (g29kr)
noncomputable def g29k1 : Kon := kBlk 2 (g29k0)
noncomputable def g29k2 (L111010 : V → V → V → V → V → St → Res) : Kon := kSeq (fun env st => L111010 (env 1) (env 2) (env 4) (env 7) (env 8) st) (g29k1)
noncomputable def g29k3 (L111010 : V → V → V → V → V → St → Res) : Kon := kSeq (g29X (g29C [1, 1, 1, 0, 1, 0, 0, 1, 1]) (g29k2 L111010)) (g29k2 L111010)
noncomputable def g29k4 (L111010 : V → V → V → V → V → St → Res) : Kon := kBlk 3 (g29k3 L111010)
noncomputable def g29b11101001001 (L111010 : V → V → V → V → V → St → Res) (x1 : V) (x2 : V) (x4 : V) (x7 : V) (x8 : V) (x9 : V) (x10 : V) (st : St) : Res :=
 A.eql 2 true x10 (.int .i64 0) fun a1 =>
 A.cond a1
 (A.load true 4 x2 st fun a2 z3 =>
 A.store 4 x4 a2 z3 fun z4 =>
 A.res (rcell (A.load true 4 x4 z4 kid) (rtmp x10 (some []))) z4)
 (A.load true 4 x9 st fun a5 z6 =>
 A.store 4 x7 a5 z6 fun z7 =>
 A.bin .add x8 (.int .i64 1) fun a8 =>
 L111010 x1 x2 x4 x7 a8 z7)
theorem g29e11101001001 (L111010 : V → V → V → V → V → St → Res) : g29X (g29C [1, 1, 1, 0, 1, 0, 0, 1, 0, 0, 1]) (g29k4 L111010) = fun env st => g29b11101001001 L111010 (env 1) (env 2) (env 4) (env 7) (env 8) (env 9) (env 10) st := by
  refine Eq.trans (Eq.refl (g29X (g29C [1, 1, 1, 0, 1, 0, 0, 1, 0, 0, 1]) (g29k4 L111010))) ?_
  funext env st
  kernel_rfl
noncomputable def g29b111010 : Nat → V → V → V → V → V → St → Res
| 0, _, _, _, _, _, _ => none
| n + 1, x1, x2, x4, x7, x8, st =>
 A.lenL x1 fun a1 =>
 A.bin .lss x8 a1 fun a2 =>
 A.cond a2
 (A.load true 4 x7 st fun a3 _ =>
 A.iaddr 4 x1 x8 fun a4 =>
 A.load true 4 a4 st fun a5 _ =>
 A.ret (A.ret (w26 [a3.er1, a5.er1] st) kid) fun a6 z7 =>
 A.ext a6 0 fun a8 =>
 A.ext a6 1 fun a9 =>
 A.ret (A.box (.agg [(.int .i64 0), (.int .i64 0), (.lst [] 1), (.lst [] 1)]) z7 kid) fun a10 z11 =>
 A.ret (A.store 4 a10 a8 z11 fun s => kid (.tup []) s) fun a12 z13 =>
 g29b11101001001 (g29b111010 n) x1 x2 x4 x7 x8 a10 a9 z13)
 (A.load true 4 x7 st fun a14 z15 =>
 A.ret (s27 [a14.er1] z15) fun a16 z17 =>
 A.store 4 x4 a16 z17 fun z18 =>
 A.res (rcell (A.load true 4 x4 z18 kid) (rtmp (.int .i64 0) (some []))) z18)
theorem g29n111010 : g29C [1, 1, 1, 0, 1, 0] = .loop (g29C [1, 1, 1, 0, 1, 0, 0]) := by kernel_rfl
theorem g29n1110100 : g29C [1, 1, 1, 0, 1, 0, 0] = .seq (g29C [1, 1, 1, 0, 1, 0, 0, 0]) (g29C [1, 1, 1, 0, 1, 0, 0, 1]) := by kernel_rfl
theorem g29n11101001 : g29C [1, 1, 1, 0, 1, 0, 0, 1] = .seq (g29C [1, 1, 1, 0, 1, 0, 0, 1, 0]) (g29C [1, 1, 1, 0, 1, 0, 0, 1, 1]) := by kernel_rfl
theorem g29n111010010 : g29C [1, 1, 1, 0, 1, 0, 0, 1, 0] = .block 3 (g29C [1, 1, 1, 0, 1, 0, 0, 1, 0, 0]) := by kernel_rfl
theorem g29n1110100100 : g29C [1, 1, 1, 0, 1, 0, 0, 1, 0, 0] = .seq (g29C [1, 1, 1, 0, 1, 0, 0, 1, 0, 0, 0]) (g29C [1, 1, 1, 0, 1, 0, 0, 1, 0, 0, 1]) := by kernel_rfl
theorem g29e111010 : g29X (g29C [1, 1, 1, 0, 1, 0]) (g29k1) = fun env st => g29b111010 big (env 1) (env 2) (env 4) (env 7) (env 8) st := by
  have key : ∀ n, aloop (g29X (g29C [1, 1, 1, 0, 1, 0, 0])) (g29k1) n = fun env st => g29b111010 n (env 1) (env 2) (env 4) (env 7) (env 8) st := by
    intro n
    induction n with
    | zero => rfl
    | succ n ih =>
      have h : aloop (g29X (g29C [1, 1, 1, 0, 1, 0, 0])) (g29k1) (n + 1) = g29X (g29C [1, 1, 1, 0, 1, 0, 0]) (kSeq (aloop (g29X (g29C [1, 1, 1, 0, 1, 0, 0])) (g29k1) n) (g29k1)) := rfl
      rw [h, ih]
      refine Eq.trans (g29seq g29n1110100 ((g29seq g29n11101001 rfl).trans ((g29blk g29n111010010).trans (g29seq g29n1110100100 (g29e11101001001 (g29b111010 n)))))) ?_
      funext env st
      kernel_rfl
  exact (g29loop g29n111010).trans (key big)
noncomputable def g29b11 (x1 : V) (x2 : V) (x4 : V) (st : St) : Res :=
 A.faddr 0 x2 fun a1 =>
 A.load false 1 a1 st fun a2 z3 =>
 A.build [(.int .i64 0), (.int .i64 0), (.lst [] 1), (.lst [] 1)] [(0, 1, a2)] fun a4 =>
 A.box (.agg [(.int .i64 0), (.int .i64 0), (.lst [] 1), (.lst [] 1)]) z3 fun a5 z6 =>
 A.store 4 a5 a4 z6 fun z7 =>
 g29b111010 big x1 x2 x4 a5 (.int .i64 0) z7
theorem g29n11 : g29C [1, 1] = .seq (g29C [1, 1, 0]) (g29C [1, 1, 1]) := by kernel_rfl
theorem g29n111 : g29C [1, 1, 1] = .seq (g29C [1, 1, 1, 0]) (g29C [1, 1, 1, 1]) := by kernel_rfl
theorem g29n1110 : g29C [1, 1, 1, 0] = .seq (g29C [1, 1, 1, 0, 0]) (g29C [1, 1, 1, 0, 1]) := by kernel_rfl
theorem g29n11101 : g29C [1, 1, 1, 0, 1] = .block 2 (g29C [1, 1, 1, 0, 1, 0]) := by kernel_rfl
theorem g29e11 : g29X (g29C [1, 1]) (g29kr) = fun env st => g29b11 (env 1) (env 2) (env 4) st := by
  refine Eq.trans (g29seq g29n11 ((g29seq g29n111 rfl).trans (g29seq g29n1110 ((g29blk g29n11101).trans (g29e111010))))) ?_
  funext env st
  kernel_rfl
noncomputable def g29k5 : Kon := kSeq (fun env st => g29b11 (env 1) (env 2) (env 4) st) (g29kr)
noncomputable def g29k6 : Kon := kBlk 0 (g29k5)
noncomputable def g29b1010 : Nat → V → V → V → V → St → Res
| 0, _, _, _, _, _ => none
| n + 1, x1, x2, x4, x6, st =>
 A.lenL x1 fun a1 =>
 A.bin .lss x6 a1 fun a2 =>
 A.cond a2
 (A.iaddr 4 x1 x6 fun a3 =>
 A.load true 4 a3 st fun a4 z5 =>
 A.ret (s40 [a4.er1] z5) fun a6 z7 =>
 A.eql 2 true a6 (.int .i64 0) fun a8 =>
 A.cond a8
 (A.load true 4 x2 z7 fun a9 z10 =>
 A.store 4 x4 a9 z10 fun z11 =>
 A.res (rcell (A.load true 4 x4 z11 kid) (rtmp (.int .i64 1) (some []))) z11)
 (A.bin .add x6 (.int .i64 1) fun a12 =>
 (g29b1010 n) x1 x2 x4 a12 z7))
 (g29b11 x1 x2 x4 st)
theorem g29n1010 : g29C [1, 0, 1, 0] = .loop (g29C [1, 0, 1, 0, 0]) := by kernel_rfl
noncomputable def g29k7 (L1010 : V → V → V → V → St → Res) : Kon := kSeq (fun env st => L1010 (env 1) (env 2) (env 4) (env 6) st) (g29k6)
theorem g29e1010 : g29X (g29C [1, 0, 1, 0]) (g29k6) = fun env st => g29b1010 big (env 1) (env 2) (env 4) (env 6) st := by
  have key : ∀ n, aloop (g29X (g29C [1, 0, 1, 0, 0])) (g29k6) n = fun env st => g29b1010 n (env 1) (env 2) (env 4) (env 6) st := by
    intro n
    induction n with
    | zero => rfl
    | succ n ih =>
      have h : aloop (g29X (g29C [1, 0, 1, 0, 0])) (g29k6) (n + 1) = g29X (g29C [1, 0, 1, 0, 0]) (kSeq (aloop (g29X (g29C [1, 0, 1, 0, 0])) (g29k6) n) (g29k6)) := rfl
      rw [h, ih]
      refine Eq.trans (Eq.refl _) ?_
      funext env st
      kernel_rfl
  exact (g29loop g29n1010).trans (key big)
noncomputable def f29 (x0 : V) (x1 : V) (st : St) : Res :=
 A.box x0 st fun a1 z2 =>
 A.box (.agg [(.int .i64 0), (.int .i64 0), (.lst [] 1), (.lst [] 1)]) z2 fun a3 z4 =>
 g29b1010 big x1 a1 a3 (.int .i64 0) z4
theorem g29nr : g29C [] = .seq (g29C [0]) (g29C [1]) := by kernel_rfl
theorem g29n1 : g29C [1] = .seq (g29C [1, 0]) (g29C [1, 1]) := by kernel_rfl
theorem g29n10 : g29C [1, 0] = .seq (g29C [1, 0, 0]) (g29C [1, 0, 1]) := by kernel_rfl
theorem g29n101 : g29C [1, 0, 1] = .block 0 (g29C [1, 0, 1, 0]) := by kernel_rfl
theorem g29er (env : Env) (st : St) : g29X (g29C []) g29kr env st = f29 (env 0) (env 1) st := by
  rw [(g29seq g29nr ((g29seq g29n1 (g29e11)).trans (g29seq g29n10 ((g29blk g29n101).trans (g29e1010)))))]
  kernel_rfl
theorem s29_eq (x0 : V) (x1 : V) (st : St) : s29 [x0, x1] st = fg (f29 x0 x1 st) st := by
  have h : afn Try.prog g29mu g29T big (areg3 Try.prog g29mu g29T obl29) 29 [x0, x1] st = g29X (g29C []) g29kr (fun t => [x0, x1].getD t (.tup [])) st := by kernel_rfl
  rw [s29, sealF_eq]
  show fg _ st = fg _ st
  refine congrArg (fun r => fg r st) ?_
  exact h.trans (g29er _ st)
end Go.Ab
