import Derived.Test.YtjdgaphjjhhjeaaAbQuiet
import Derived.Test.YtjdgaphjjhhjeaaAbP040
namespace Go.Ab
open Go.Proofs
set_option linter.unusedVariables false
set_option maxRecDepth 100000
/-! sinew/octet.PutNum -/
def g48mu : Nat → Bool := fun _ => false
noncomputable def g48T : Tbl := tget []
theorem g48t : SimT Try.prog g48T := simT_nil
noncomputable def s48 : Fn := sealF (fun args st => fg (afn Try.prog g48mu g48T big (areg Try.prog g48mu g48T) 48 args st) st)
theorem sim48 : Sim Try.prog 48 s48 := (afn_sim g48t (fun m => areg_sound g48t hmix m) 48 (by kernel_rfl)).fg.sealed
noncomputable def g48C (p : List Nat) : Code := sub (match Try.f48.body with | some c => c | none => .skip) p
noncomputable def g48X (c : Code) (K : Kon) : Env → St → Res := aexec Try.prog g48mu g48T big 29 (areg Try.prog g48mu g48T 29) c K
noncomputable def g48kr : Kon := aresK Try.prog Try.f48.results.toList
theorem g48reg {c : Code} {K : Kon} {G : Env → St → Res} {id : Nat} {ops : Array Oper} {l1 l2 : List Nat} (hc : c = .region id ops false) (hl : List.range ops.size = l1 ++ l2) (h : (fun env st => aops Try.prog g48mu g48T 29 ops l2 env st (K .normal)) = G) : g48X c K = fun env st => aops Try.prog g48mu g48T 29 ops l1 env st G := reg_cut hc hl h
theorem g48seq {c x y : Code} {K : Kon} {G : Env → St → Res} (hc : c = .seq x y) (hy : g48X y K = G) : g48X c K = g48X x (kSeq G K) := seq_cut hc hy
theorem g48blk {c x : Code} {K : Kon} {i : Nat} (hc : c = .block i x) : g48X c K = g48X x (kBlk i K) := blk_cut hc
theorem g48loop {c x : Code} {K : Kon} (hc : c = .loop x) : g48X c K = aloop (g48X x) K big := loop_cut hc
theorem g48cond {c x y : Code} {K : Kon} {v : Operand} {F G : Env → St → Res} (hc : c = .cond v x y) (hx : g48X x K = F) (hy : g48X y K = G) : g48X c K = condF v F G := cond_cut hc hx hy
noncomputable def g48k0 : Kon := kSeq (g48X (g48C [1, 1, 1, 1, 1]) (g48kr)) (g48kr)
noncomputable def g48k1 : Kon := kBlk 0 (g48k0)
noncomputable def g48b111100 : Nat → V → V → V → St → Res
| 0, _, _, _, _ => none
| n + 1, x0, x4, x5, st =>
 A.bin .gtr x0 (.int .i64 0) fun a1 =>
 A.cond a1
 (A.bin .sub x5 (.int .i64 1) fun a2 =>
 A.toInt .u8 x0 fun a3 =>
 A.iaddrA 9 1 x4 a2 fun a4 =>
 A.store 1 a4 a3 st fun z5 =>
 A.bin .shr x0 (.int .u64 8) fun a6 =>
 (g48b111100 n) a6 x4 a2 z5)
 (A.bin .sub x5 (.int .i64 1) fun a7 =>
 A.bin .sub (.int .i64 9) a7 fun a8 =>
 A.bin .sub a8 (.int .i64 1) fun a9 =>
 A.toInt .u8 a9 fun a10 =>
 A.iaddrA 9 1 x4 a7 fun a11 =>
 A.store 1 a11 a10 st fun z12 =>
 A.sliceA 9 1 x4 (some a7) none z12 fun a13 =>
 A.toStr a13 z12 fun a14 =>
 some (.ret (.tup [a14.er1, ((.int .i64 0) : V).er1]), z12))
theorem g48n111100 : g48C [1, 1, 1, 1, 0, 0] = .loop (g48C [1, 1, 1, 1, 0, 0, 0]) := by kernel_rfl
noncomputable def g48k2 (L111100 : V → V → V → St → Res) : Kon := kSeq (fun env st => L111100 (env 0) (env 4) (env 5) st) (g48k1)
theorem g48e111100 : g48X (g48C [1, 1, 1, 1, 0, 0]) (g48k1) = fun env st => g48b111100 big (env 0) (env 4) (env 5) st := by
  have key : ∀ n, aloop (g48X (g48C [1, 1, 1, 1, 0, 0, 0])) (g48k1) n = fun env st => g48b111100 n (env 0) (env 4) (env 5) st := by
    intro n
    induction n with
    | zero => rfl
    | succ n ih =>
      have h : aloop (g48X (g48C [1, 1, 1, 1, 0, 0, 0])) (g48k1) (n + 1) = g48X (g48C [1, 1, 1, 1, 0, 0, 0]) (kSeq (aloop (g48X (g48C [1, 1, 1, 1, 0, 0, 0])) (g48k1) n) (g48k1)) := rfl
      rw [h, ih]
      refine Eq.trans (Eq.refl _) ?_
      funext env st
      kernel_rfl
  exact (g48loop g48n111100).trans (key big)
noncomputable def f48 (x0 : V) (st : St) : Res :=
 A.bin .lss x0 (.int .i64 0) fun a1 =>
 A.cond a1
 (some (.ret (.tup [((.str []) : V).er1, ((.int .i64 1) : V).er1]), st))
 (A.box (.agg [(.int .u8 0), (.int .u8 0), (.int .u8 0), (.int .u8 0), (.int .u8 0), (.int .u8 0), (.int .u8 0), (.int .u8 0), (.int .u8 0)]) st fun a2 z3 =>
 g48b111100 big x0 a2 (.int .i64 9) z3)
theorem g48nr : g48C [] = .seq (g48C [0]) (g48C [1]) := by kernel_rfl
theorem g48n1 : g48C [1] = .seq (g48C [1, 0]) (g48C [1, 1]) := by kernel_rfl
theorem g48n11 : g48C [1, 1] = .seq (g48C [1, 1, 0]) (g48C [1, 1, 1]) := by kernel_rfl
theorem g48n111 : g48C [1, 1, 1] = .seq (g48C [1, 1, 1, 0]) (g48C [1, 1, 1, 1]) := by kernel_rfl
theorem g48n1111 : g48C [1, 1, 1, 1] = .seq (g48C [1, 1, 1, 1, 0]) (g48C [1, 1, 1, 1, 1]) := by kernel_rfl
theorem g48n11110 : g48C [1, 1, 1, 1, 0] = .block 0 (g48C [1, 1, 1, 1, 0, 0]) := by kernel_rfl
theorem g48er (env : Env) (st : St) : g48X (g48C []) g48kr env st = f48 (env 0) st := by
  rw [(g48seq g48nr (g48seq g48n1 (g48seq g48n11 (g48seq g48n111 ((g48seq g48n1111 rfl).trans ((g48blk g48n11110).trans (g48e111100)))))))]
  kernel_rfl
theorem s48_eq (x0 : V) (st : St) : s48 [x0] st = fg (f48 x0 st) st := by
  have h : afn Try.prog g48mu g48T big (areg Try.prog g48mu g48T) 48 [x0] st = g48X (g48C []) g48kr (fun t => [x0].getD t (.tup [])) st := by kernel_rfl
  rw [s48, sealF_eq]
  show fg _ st = fg _ st
  refine congrArg (fun r => fg r st) ?_
  exact h.trans (g48er _ st)
/-! sinew/octet.PutStr -/
def g60mu : Nat → Bool := fun _ => false
noncomputable def g60T : Tbl := tget [(48, s48)]
theorem g60t : SimT Try.prog g60T := simT_cons sim48 (simT_nil)
noncomputable def s60 : Fn := sealF (afn Try.prog g60mu g60T big (areg Try.prog g60mu g60T) 60)
theorem sim60 : Sim Try.prog 60 s60 := (afn_sim g60t (fun m => areg_sound g60t hmix m) 60 (by kernel_rfl)).sealed
noncomputable def g60C (p : List Nat) : Code := sub (match Try.f60.body with | some c => c | none => .skip) p
noncomputable def g60X (c : Code) (K : Kon) : Env → St → Res := aexec Try.prog g60mu g60T big 18 (areg Try.prog g60mu g60T 18) c K
noncomputable def g60kr : Kon := aresK Try.prog Try.f60.results.toList
theorem g60reg {c : Code} {K : Kon} {G : Env → St → Res} {id : Nat} {ops : Array Oper} {l1 l2 : List Nat} (hc : c = .region id ops false) (hl : List.range ops.size = l1 ++ l2) (h : (fun env st => aops Try.prog g60mu g60T 18 ops l2 env st (K .normal)) = G) : g60X c K = fun env st => aops Try.prog g60mu g60T 18 ops l1 env st G := reg_cut hc hl h
theorem g60seq {c x y : Code} {K : Kon} {G : Env → St → Res} (hc : c = .seq x y) (hy : g60X y K = G) : g60X c K = g60X x (kSeq G K) := seq_cut hc hy
theorem g60blk {c x : Code} {K : Kon} {i : Nat} (hc : c = .block i x) : g60X c K = g60X x (kBlk i K) := blk_cut hc
theorem g60loop {c x : Code} {K : Kon} (hc : c = .loop x) : g60X c K = aloop (g60X x) K big := loop_cut hc
theorem g60cond {c x y : Code} {K : Kon} {v : Operand} {F G : Env → St → Res} (hc : c = .cond v x y) (hx : g60X x K = F) (hy : g60X y K = G) : g60X c K = condF v F G := cond_cut hc hx hy
noncomputable def g60b111 (x0 : V) (x4 : V) (st : St) : Res :=
 A.bin .add x4 x0 fun a1 =>
 some (.ret (.tup [a1.er1, ((.int .i64 0) : V).er1]), st)
theorem g60e111 : g60X (g60C [1, 1, 1]) (g60kr) = fun env st => g60b111 (env 0) (env 4) st := by
  refine Eq.trans (Eq.refl (g60X (g60C [1, 1, 1]) (g60kr))) ?_
  funext env st
  kernel_rfl
noncomputable def f60 (x0 : V) (st : St) : Res :=
 A.lenS x0 fun a1 =>
 A.bin .gtr a1 (.int .i64 65536) fun a2 =>
 A.cond a2
 (some (.ret (.tup [((.str []) : V).er1, ((.int .i64 12) : V).er1]), st))
 (A.lenS x0 fun a3 =>
 A.ret (s48 [a3.er1] st) fun a4 z5 =>
 A.ext a4 0 fun a6 =>
 A.ext a4 1 fun a7 =>
 g60b111 x0 a6 z5)
theorem g60nr : g60C [] = .seq (g60C [0]) (g60C [1]) := by kernel_rfl
theorem g60n1 : g60C [1] = .seq (g60C [1, 0]) (g60C [1, 1]) := by kernel_rfl
theorem g60n11 : g60C [1, 1] = .seq (g60C [1, 1, 0]) (g60C [1, 1, 1]) := by kernel_rfl
theorem g60er (env : Env) (st : St) : g60X (g60C []) g60kr env st = f60 (env 0) st := by
  rw [(g60seq g60nr (g60seq g60n1 (g60seq g60n11 (g60e111))))]
  kernel_rfl
theorem s60_eq (x0 : V) (st : St) : s60 [x0] st = f60 x0 st := by
  have h : afn Try.prog g60mu g60T big (areg Try.prog g60mu g60T) 60 [x0] st = g60X (g60C []) g60kr (fun t => [x0].getD t (.tup [])) st := by kernel_rfl
  rw [s60, sealF_eq]
  exact h.trans (g60er _ st)
/-! sinew/octet.PutList -/
def g45mu : Nat → Bool := fun _ => false
noncomputable def g45T : Tbl := tget [(46, s46), (48, s48), (49, s49), (60, s60)]
theorem g45t : SimT Try.prog g45T := simT_cons sim46 ( simT_cons sim48 ( simT_cons sim49 ( simT_cons sim60 (simT_nil))))
noncomputable def s45 : Fn := sealF (fun args st => fg (afn Try.prog g45mu g45T big (areg Try.prog g45mu g45T) 45 args st) st)
theorem sim45 : Sim Try.prog 45 s45 := (afn_sim g45t (fun m => areg_sound g45t hmix m) 45 (by kernel_rfl)).fg.sealed
noncomputable def g45C (p : List Nat) : Code := sub (match Try.f45.body with | some c => c | none => .skip) p
noncomputable def g45X (c : Code) (K : Kon) : Env → St → Res := aexec Try.prog g45mu g45T big 40 (areg Try.prog g45mu g45T 40) c K
noncomputable def g45kr : Kon := aresK Try.prog Try.f45.results.toList
theorem g45reg {c : Code} {K : Kon} {G : Env → St → Res} {id : Nat} {ops : Array Oper} {l1 l2 : List Nat} (hc : c = .region id ops false) (hl : List.range ops.size = l1 ++ l2) (h : (fun env st => aops Try.prog g45mu g45T 40 ops l2 env st (K .normal)) = G) : g45X c K = fun env st => aops Try.prog g45mu g45T 40 ops l1 env st G := reg_cut hc hl h
theorem g45seq {c x y : Code} {K : Kon} {G : Env → St → Res} (hc : c = .seq x y) (hy : g45X y K = G) : g45X c K = g45X x (kSeq G K) := seq_cut hc hy
theorem g45blk {c x : Code} {K : Kon} {i : Nat} (hc : c = .block i x) : g45X c K = g45X x (kBlk i K) := blk_cut hc
theorem g45loop {c x : Code} {K : Kon} (hc : c = .loop x) : g45X c K = aloop (g45X x) K big := loop_cut hc
theorem g45cond {c x y : Code} {K : Kon} {v : Operand} {F G : Env → St → Res} (hc : c = .cond v x y) (hx : g45X x K = F) (hy : g45X y K = G) : g45X c K = condF v F G := cond_cut hc hx hy
noncomputable def g45k0 : Kon := kSeq (g45X (g45C [1, 1, 1, 1, 1, 1]) (g45kr)) (g45kr)
noncomputable def g45k1 : Kon := kBlk 0 (g45k0)
noncomputable def g45k2 (L11111010 : V → V → V → V → St → Res) : Kon := kSeq (fun env st => L11111010 (env 4) (env 22) (env 23) (env 24) st) (g45k1)
noncomputable def g45k3 (L11111010 : V → V → V → V → St → Res) : Kon := kSeq (g45X (g45C [1, 1, 1, 1, 1, 0, 1, 0, 0, 1, 1, 1]) (g45k2 L11111010)) (g45k2 L11111010)
noncomputable def g45k4 (L11111010 : V → V → V → V → St → Res) : Kon := kBlk 1 (g45k3 L11111010)
noncomputable def g45b111110100110011 (L11111010 : V → V → V → V → St → Res) (x4 : V) (x9 : V) (x10 : V) (x22 : V) (x23 : V) (x24 : V) (st : St) : Res :=
 A.eql 2 true x10 (.int .i64 0) fun a1 =>
 A.cond a1
 (some (.ret (.tup [((.str []) : V).er1, x10.er1]), st))
 (A.ret (s46 [x4.er1, x9.er1] st) fun a2 z3 =>
 A.bin .add x24 (.int .i64 1) fun a4 =>
 L11111010 x4 x22 x23 a4 z3)
theorem g45e111110100110011 (L11111010 : V → V → V → V → St → Res) : g45X (g45C [1, 1, 1, 1, 1, 0, 1, 0, 0, 1, 1, 0, 0, 1, 1]) (g45k4 L11111010) = fun env st => g45b111110100110011 L11111010 (env 4) (env 9) (env 10) (env 22) (env 23) (env 24) st := by
  refine Eq.trans (Eq.refl (g45X (g45C [1, 1, 1, 1, 1, 0, 1, 0, 0, 1, 1, 0, 0, 1, 1]) (g45k4 L11111010))) ?_
  funext env st
  kernel_rfl
noncomputable def g45b11111010 : Nat → V → V → V → V → St → Res
| 0, _, _, _, _, _ => none
| n + 1, x4, x22, x23, x24, st =>
 A.bin .lss x24 x23 fun a1 =>
 A.cond a1
 (A.iaddr 1 x22 x24 fun a2 =>
 A.load false 1 a2 st fun a3 z4 =>
 A.ret (s60 [a3.er1] z4) fun a5 z6 =>
 A.ext a5 0 fun a7 =>
 A.ext a5 1 fun a8 =>
 g45b111110100110011 (g45b11111010 n) x4 a7 a8 x22 x23 x24 z6)
 (A.ret (s49 [x4.er1] st) fun a9 z10 =>
 some (.ret (.tup [a9.er1, ((.int .i64 0) : V).er1]), z10))
theorem g45n11111010 : g45C [1, 1, 1, 1, 1, 0, 1, 0] = .loop (g45C [1, 1, 1, 1, 1, 0, 1, 0, 0]) := by kernel_rfl
theorem g45n111110100 : g45C [1, 1, 1, 1, 1, 0, 1, 0, 0] = .seq (g45C [1, 1, 1, 1, 1, 0, 1, 0, 0, 0]) (g45C [1, 1, 1, 1, 1, 0, 1, 0, 0, 1]) := by kernel_rfl
theorem g45n1111101001 : g45C [1, 1, 1, 1, 1, 0, 1, 0, 0, 1] = .seq (g45C [1, 1, 1, 1, 1, 0, 1, 0, 0, 1, 0]) (g45C [1, 1, 1, 1, 1, 0, 1, 0, 0, 1, 1]) := by kernel_rfl
theorem g45n11111010011 : g45C [1, 1, 1, 1, 1, 0, 1, 0, 0, 1, 1] = .seq (g45C [1, 1, 1, 1, 1, 0, 1, 0, 0, 1, 1, 0]) (g45C [1, 1, 1, 1, 1, 0, 1, 0, 0, 1, 1, 1]) := by kernel_rfl
theorem g45n111110100110 : g45C [1, 1, 1, 1, 1, 0, 1, 0, 0, 1, 1, 0] = .block 1 (g45C [1, 1, 1, 1, 1, 0, 1, 0, 0, 1, 1, 0, 0]) := by kernel_rfl
theorem g45n1111101001100 : g45C [1, 1, 1, 1, 1, 0, 1, 0, 0, 1, 1, 0, 0] = .seq (g45C [1, 1, 1, 1, 1, 0, 1, 0, 0, 1, 1, 0, 0, 0]) (g45C [1, 1, 1, 1, 1, 0, 1, 0, 0, 1, 1, 0, 0, 1]) := by kernel_rfl
theorem g45n11111010011001 : g45C [1, 1, 1, 1, 1, 0, 1, 0, 0, 1, 1, 0, 0, 1] = .seq (g45C [1, 1, 1, 1, 1, 0, 1, 0, 0, 1, 1, 0, 0, 1, 0]) (g45C [1, 1, 1, 1, 1, 0, 1, 0, 0, 1, 1, 0, 0, 1, 1]) := by kernel_rfl
theorem g45e11111010 : g45X (g45C [1, 1, 1, 1, 1, 0, 1, 0]) (g45k1) = fun env st => g45b11111010 big (env 4) (env 22) (env 23) (env 24) st := by
  have key : ∀ n, aloop (g45X (g45C [1, 1, 1, 1, 1, 0, 1, 0, 0])) (g45k1) n = fun env st => g45b11111010 n (env 4) (env 22) (env 23) (env 24) st := by
    intro n
    induction n with
    | zero => rfl
    | succ n ih =>
      have h : aloop (g45X (g45C [1, 1, 1, 1, 1, 0, 1, 0, 0])) (g45k1) (n + 1) = g45X (g45C [1, 1, 1, 1, 1, 0, 1, 0, 0]) (kSeq (aloop (g45X (g45C [1, 1, 1, 1, 1, 0, 1, 0, 0])) (g45k1) n) (g45k1)) := rfl
      rw [h, ih]
      refine Eq.trans (g45seq g45n111110100 (g45seq g45n1111101001 ((g45seq g45n11111010011 rfl).trans ((g45blk g45n111110100110).trans (g45seq g45n1111101001100 (g45seq g45n11111010011001 (g45e111110100110011 (g45b11111010 n)))))))) ?_
      funext env st
      kernel_rfl
  exact (g45loop g45n11111010).trans (key big)
noncomputable def g45b1111 (x0 : V) (x4 : V) (x5 : V) (st : St) : Res :=
 A.ret (s46 [x4.er1, x5.er1] st) fun a1 z2 =>
 A.lenL x0 fun a3 =>
 g45b11111010 big x4 x0 a3 (.int .i64 0) z2
theorem g45n1111 : g45C [1, 1, 1, 1] = .seq (g45C [1, 1, 1, 1, 0]) (g45C [1, 1, 1, 1, 1]) := by kernel_rfl
theorem g45n11111 : g45C [1, 1, 1, 1, 1] = .seq (g45C [1, 1, 1, 1, 1, 0]) (g45C [1, 1, 1, 1, 1, 1]) := by kernel_rfl
theorem g45n111110 : g45C [1, 1, 1, 1, 1, 0] = .seq (g45C [1, 1, 1, 1, 1, 0, 0]) (g45C [1, 1, 1, 1, 1, 0, 1]) := by kernel_rfl
theorem g45n1111101 : g45C [1, 1, 1, 1, 1, 0, 1] = .block 0 (g45C [1, 1, 1, 1, 1, 0, 1, 0]) := by kernel_rfl
theorem g45e1111 : g45X (g45C [1, 1, 1, 1]) (g45kr) = fun env st => g45b1111 (env 0) (env 4) (env 5) st := by
  refine Eq.trans (g45seq g45n1111 ((g45seq g45n11111 rfl).trans (g45seq g45n111110 ((g45blk g45n1111101).trans (g45e11111010))))) ?_
  funext env st
  kernel_rfl
noncomputable def f45 (x0 : V) (st : St) : Res :=
 A.lenL x0 fun a1 =>
 A.bin .gtr a1 (.int .i64 4096) fun a2 =>
 A.cond a2
 (some (.ret (.tup [((.str []) : V).er1, ((.int .i64 12) : V).er1]), st))
 (A.newB 80 (.agg [.ptr0, (.lst [] 1)]) st fun a3 z4 =>
 A.lenL x0 fun a5 =>
 A.ret (s48 [a5.er1] z4) fun a6 z7 =>
 A.ext a6 0 fun a8 =>
 A.ext a6 1 fun a9 =>
 g45b1111 x0 a3 a8 z7)
theorem g45nr : g45C [] = .seq (g45C [0]) (g45C [1]) := by kernel_rfl
theorem g45n1 : g45C [1] = .seq (g45C [1, 0]) (g45C [1, 1]) := by kernel_rfl
theorem g45n11 : g45C [1, 1] = .seq (g45C [1, 1, 0]) (g45C [1, 1, 1]) := by kernel_rfl
theorem g45n111 : g45C [1, 1, 1] = .seq (g45C [1, 1, 1, 0]) (g45C [1, 1, 1, 1]) := by kernel_rfl
theorem g45er (env : Env) (st : St) : g45X (g45C []) g45kr env st = f45 (env 0) st := by
  rw [(g45seq g45nr (g45seq g45n1 (g45seq g45n11 (g45seq g45n111 (g45e1111)))))]
  kernel_rfl
theorem s45_eq (x0 : V) (st : St) : s45 [x0] st = fg (f45 x0 st) st := by
  have h : afn Try.prog g45mu g45T big (areg Try.prog g45mu g45T) 45 [x0] st = g45X (g45C []) g45kr (fun t => [x0].getD t (.tup [])) st := by kernel_rfl
  rw [s45, sealF_eq]
  show fg _ st = fg _ st
  refine congrArg (fun r => fg r st) ?_
  exact h.trans (g45er _ st)
/-! sinew/wire.body$1 -/
def g43mu : Nat → Bool := fun _ => false
noncomputable def g43T : Tbl := tget [(44, s44), (45, s45), (46, s46)]
theorem g43t : SimT Try.prog g43T := simT_cons sim44 ( simT_cons sim45 ( simT_cons sim46 (simT_nil)))
noncomputable def s43 : Fn := sealF (afn Try.prog g43mu g43T big (areg Try.prog g43mu g43T) 43)
theorem sim43 : Sim Try.prog 43 s43 := (afn_sim g43t (fun m => areg_sound g43t hmix m) 43 (by kernel_rfl)).sealed
noncomputable def g43C (p : List Nat) : Code := sub (match Try.f43.body with | some c => c | none => .skip) p
noncomputable def g43X (c : Code) (K : Kon) : Env → St → Res := aexec Try.prog g43mu g43T big 20 (areg Try.prog g43mu g43T 20) c K
noncomputable def g43kr : Kon := aresK Try.prog Try.f43.results.toList
theorem g43reg {c : Code} {K : Kon} {G : Env → St → Res} {id : Nat} {ops : Array Oper} {l1 l2 : List Nat} (hc : c = .region id ops false) (hl : List.range ops.size = l1 ++ l2) (h : (fun env st => aops Try.prog g43mu g43T 20 ops l2 env st (K .normal)) = G) : g43X c K = fun env st => aops Try.prog g43mu g43T 20 ops l1 env st G := reg_cut hc hl h
theorem g43seq {c x y : Code} {K : Kon} {G : Env → St → Res} (hc : c = .seq x y) (hy : g43X y K = G) : g43X c K = g43X x (kSeq G K) := seq_cut hc hy
theorem g43blk {c x : Code} {K : Kon} {i : Nat} (hc : c = .block i x) : g43X c K = g43X x (kBlk i K) := blk_cut hc
theorem g43loop {c x : Code} {K : Kon} (hc : c = .loop x) : g43X c K = aloop (g43X x) K big := loop_cut hc
theorem g43cond {c x y : Code} {K : Kon} {v : Operand} {F G : Env → St → Res} (hc : c = .cond v x y) (hx : g43X x K = F) (hy : g43X y K = G) : g43X c K = condF v F G := cond_cut hc hx hy
noncomputable def g43b1 (x0 : V) (x1 : V) (x2 : V) (st : St) : Res :=
 A.load false 1 x1 st fun a1 z2 =>
 A.un .not a1 fun a3 =>
 A.cond a3
 (A.ret (s45 [x0.er1] z2) fun a4 z5 =>
 A.ext a4 0 fun a6 =>
 A.ext a4 1 fun a7 =>
 A.ret (s46 [x2.er1, a6.er1] z5) fun a8 z9 =>
 some (.ret (.tup []), z9))
 (some (.ret (.tup []), z2))
theorem g43e1 : g43X (g43C [1]) (g43kr) = fun env st => g43b1 (env 0) (env 1) (env 2) st := by
  refine Eq.trans (Eq.refl (g43X (g43C [1]) (g43kr))) ?_
  funext env st
  kernel_rfl
noncomputable def f43 (x0 : V) (x1 : V) (x2 : V) (st : St) : Res :=
 A.load false 1 x1 st fun a1 z2 =>
 A.guard a1 false
 (A.ret (s44 [x2.er1] z2) fun a3 z4 =>
 A.bin .gtr a3 (.int .i64 1048576) fun a5 =>
 A.store 1 x1 a5 z4 fun z6 =>
 g43b1 x0 x1 x2 z6)
 (A.store 1 x1 (.bool true) z2 fun z7 =>
 g43b1 x0 x1 x2 z7)
theorem g43nr : g43C [] = .seq (g43C [0]) (g43C [1]) := by kernel_rfl
theorem g43er (env : Env) (st : St) : g43X (g43C []) g43kr env st = f43 (env 0) (env 1) (env 2) st := by
  rw [(g43seq g43nr (g43e1))]
  kernel_rfl
theorem s43_eq (x0 : V) (x1 : V) (x2 : V) (st : St) : s43 [x0, x1, x2] st = f43 x0 x1 x2 st := by
  have h : afn Try.prog g43mu g43T big (areg Try.prog g43mu g43T) 43 [x0, x1, x2] st = g43X (g43C []) g43kr (fun t => [x0, x1, x2].getD t (.tup [])) st := by kernel_rfl
  rw [s43, sealF_eq]
  exact h.trans (g43er _ st)
/-! sinew/wire.body$2 -/
def g47mu : Nat → Bool := fun _ => false
noncomputable def g47T : Tbl := tget [(46, s46), (48, s48)]
theorem g47t : SimT Try.prog g47T := simT_cons sim46 ( simT_cons sim48 (simT_nil))
noncomputable def s47 : Fn := sealF (afn Try.prog g47mu g47T big (areg Try.prog g47mu g47T) 47)
theorem sim47 : Sim Try.prog 47 s47 := (afn_sim g47t (fun m => areg_sound g47t hmix m) 47 (by kernel_rfl)).sealed
noncomputable def f47 (x0 : V) (x1 : V) (st : St) : Res :=
 A.ret (s48 [x0.er1] st) fun a1 z2 =>
 A.ext a1 0 fun a3 =>
 A.ext a1 1 fun a4 =>
 A.ret (s46 [x1.er1, a3.er1] z2) fun a5 z6 =>
 some (.ret (.tup []), z6)
theorem s47_eq (x0 : V) (x1 : V) (st : St) : s47 [x0, x1] st = f47 x0 x1 st := by
  rw [s47, sealF_eq]
  kernel_rfl
/-! sinew/wire.body -/
def g33mu : Nat → Bool := fun _ => false
noncomputable def g33T : Tbl := tget [(42, s42), (43, s43), (44, s44), (47, s47), (49, s49)]
theorem g33t : SimT Try.prog g33T := simT_cons sim42 ( simT_cons sim43 ( simT_cons sim44 ( simT_cons sim47 ( simT_cons sim49 (simT_nil)))))
noncomputable def s33 : Fn := sealF (fun args st => fg (afn Try.prog g33mu g33T big (areg Try.prog g33mu g33T) 33 args st) st)
theorem sim33 : Sim Try.prog 33 s33 := (afn_sim g33t (fun m => areg_sound g33t hmix m) 33 (by kernel_rfl)).fg.sealed
noncomputable def g33C (p : List Nat) : Code := sub (match Try.f33.body with | some c => c | none => .skip) p
noncomputable def g33X (c : Code) (K : Kon) : Env → St → Res := aexec Try.prog g33mu g33T big 63 (areg Try.prog g33mu g33T 63) c K
noncomputable def g33kr : Kon := aresK Try.prog Try.f33.results.toList
theorem g33reg {c : Code} {K : Kon} {G : Env → St → Res} {id : Nat} {ops : Array Oper} {l1 l2 : List Nat} (hc : c = .region id ops false) (hl : List.range ops.size = l1 ++ l2) (h : (fun env st => aops Try.prog g33mu g33T 63 ops l2 env st (K .normal)) = G) : g33X c K = fun env st => aops Try.prog g33mu g33T 63 ops l1 env st G := reg_cut hc hl h
theorem g33seq {c x y : Code} {K : Kon} {G : Env → St → Res} (hc : c = .seq x y) (hy : g33X y K = G) : g33X c K = g33X x (kSeq G K) := seq_cut hc hy
theorem g33blk {c x : Code} {K : Kon} {i : Nat} (hc : c = .block i x) : g33X c K = g33X x (kBlk i K) := blk_cut hc
theorem g33loop {c x : Code} {K : Kon} (hc : c = .loop x) : g33X c K = aloop (g33X x) K big := loop_cut hc
theorem g33cond {c x y : Code} {K : Kon} {v : Operand} {F G : Env → St → Res} (hc : c = .cond v x y) (hx : g33X x K = F) (hy : g33X y K = G) : g33X c K = condF v F G := cond_cut hc hx hy
noncomputable def g33k0 : Kon := kSeq (g33X (g33C [1, 1, 1, 1, 1, 1, 1, 1, 1, 1, 1, 1]) (g33kr)) (g33kr)
noncomputable def g33k1 : Kon := kBlk 2 (g33k0)
noncomputable def g33b11111111111010 : Nat → V → V → V → V → V → V → St → Res
| 0, _, _, _, _, _, _, _ => none
| n + 1, x4, x5, x6, x47, x48, x49, st =>
 A.bin .lss x49 x48 fun a1 =>
 A.cond a1
 (A.iaddr 1 x47 x49 fun a2 =>
 A.load false 1 a2 st fun a3 z4 =>
 A.call g33T x6 [a3] z4 fun a5 z6 =>
 A.bin .add x49 (.int .i64 1) fun a7 =>
 (g33b11111111111010 n) x4 x5 x6 x47 x48 a7 z6)
 (A.load false 1 x5 st fun a8 z9 =>
 A.guard a8 false
 (A.ret (s44 [x4.er1] z9) fun a10 z11 =>
 A.bin .gtr a10 (.int .i64 1048576) fun a12 =>
 A.cond a12
 (some (.ret (.tup [((.str []) : V).er1, ((.int .i64 1) : V).er1]), z11))
 (A.ret (s49 [x4.er1] z11) fun a13 z14 =>
 some (.ret (.tup [a13.er1, ((.int .i64 0) : V).er1]), z14)))
 (some (.ret (.tup [((.str []) : V).er1, ((.int .i64 1) : V).er1]), z9)))
theorem g33n11111111111010 : g33C [1, 1, 1, 1, 1, 1, 1, 1, 1, 1, 1, 0, 1, 0] = .loop (g33C [1, 1, 1, 1, 1, 1, 1, 1, 1, 1, 1, 0, 1, 0, 0]) := by kernel_rfl
noncomputable def g33k2 (L11111111111010 : V → V → V → V → V → V → St → Res) : Kon := kSeq (fun env st => L11111111111010 (env 4) (env 5) (env 6) (env 47) (env 48) (env 49) st) (g33k1)
theorem g33e11111111111010 : g33X (g33C [1, 1, 1, 1, 1, 1, 1, 1, 1, 1, 1, 0, 1, 0]) (g33k1) = fun env st => g33b11111111111010 big (env 4) (env 5) (env 6) (env 47) (env 48) (env 49) st := by
  have key : ∀ n, aloop (g33X (g33C [1, 1, 1, 1, 1, 1, 1, 1, 1, 1, 1, 0, 1, 0, 0])) (g33k1) n = fun env st => g33b11111111111010 n (env 4) (env 5) (env 6) (env 47) (env 48) (env 49) st := by
    intro n
    induction n with
    | zero => rfl
    | succ n ih =>
      have h : aloop (g33X (g33C [1, 1, 1, 1, 1, 1, 1, 1, 1, 1, 1, 0, 1, 0, 0])) (g33k1) (n + 1) = g33X (g33C [1, 1, 1, 1, 1, 1, 1, 1, 1, 1, 1, 0, 1, 0, 0]) (kSeq (aloop (g33X (g33C [1, 1, 1, 1, 1, 1, 1, 1, 1, 1, 1, 0, 1, 0, 0])) (g33k1) n) (g33k1)) := rfl
      rw [h, ih]
      refine Eq.trans (Eq.refl _) ?_
      funext env st
      kernel_rfl
  exact (g33loop g33n11111111111010).trans (key big)
noncomputable def g33b1111111111101 (x4 : V) (x5 : V) (x6 : V) (x47 : V) (x48 : V) (x49 : V) (st : St) : Res :=
 g33b11111111111010 big x4 x5 x6 x47 x48 x49 st
theorem g33n1111111111101 : g33C [1, 1, 1, 1, 1, 1, 1, 1, 1, 1, 1, 0, 1] = .block 2 (g33C [1, 1, 1, 1, 1, 1, 1, 1, 1, 1, 1, 0, 1, 0]) := by kernel_rfl
theorem g33e1111111111101 : g33X (g33C [1, 1, 1, 1, 1, 1, 1, 1, 1, 1, 1, 0, 1]) (g33k0) = fun env st => g33b1111111111101 (env 4) (env 5) (env 6) (env 47) (env 48) (env 49) st := by
  refine Eq.trans ((g33blk g33n1111111111101).trans (g33e11111111111010)) ?_
  funext env st
  kernel_rfl
noncomputable def g33b111111111 (x1 : V) (x4 : V) (x5 : V) (x6 : V) (x7 : V) (st : St) : Res :=
 A.faddr 2 x1 fun a1 =>
 A.load false 1 a1 st fun a2 z3 =>
 A.call g33T x6 [a2] z3 fun a4 z5 =>
 A.faddr 3 x1 fun a6 =>
 A.load false 1 a6 z5 fun a7 z8 =>
 A.lenL a7 fun a9 =>
 A.call g33T x7 [a9] z8 fun a10 z11 =>
 A.faddr 3 x1 fun a12 =>
 A.load false 1 a12 z11 fun a13 z14 =>
 A.lenL a13 fun a15 =>
 g33b1111111111101 x4 x5 x6 a13 a15 (.int .i64 0) z14
theorem g33n111111111 : g33C [1, 1, 1, 1, 1, 1, 1, 1, 1] = .seq (g33C [1, 1, 1, 1, 1, 1, 1, 1, 1, 0]) (g33C [1, 1, 1, 1, 1, 1, 1, 1, 1, 1]) := by kernel_rfl
theorem g33n1111111111 : g33C [1, 1, 1, 1, 1, 1, 1, 1, 1, 1] = .seq (g33C [1, 1, 1, 1, 1, 1, 1, 1, 1, 1, 0]) (g33C [1, 1, 1, 1, 1, 1, 1, 1, 1, 1, 1]) := by kernel_rfl
theorem g33n11111111111 : g33C [1, 1, 1, 1, 1, 1, 1, 1, 1, 1, 1] = .seq (g33C [1, 1, 1, 1, 1, 1, 1, 1, 1, 1, 1, 0]) (g33C [1, 1, 1, 1, 1, 1, 1, 1, 1, 1, 1, 1]) := by kernel_rfl
theorem g33n111111111110 : g33C [1, 1, 1, 1, 1, 1, 1, 1, 1, 1, 1, 0] = .seq (g33C [1, 1, 1, 1, 1, 1, 1, 1, 1, 1, 1, 0, 0]) (g33C [1, 1, 1, 1, 1, 1, 1, 1, 1, 1, 1, 0, 1]) := by kernel_rfl
theorem g33e111111111 : g33X (g33C [1, 1, 1, 1, 1, 1, 1, 1, 1]) (g33kr) = fun env st => g33b111111111 (env 1) (env 4) (env 5) (env 6) (env 7) st := by
  refine Eq.trans (g33seq g33n111111111 (g33seq g33n1111111111 ((g33seq g33n11111111111 rfl).trans (g33seq g33n111111111110 (g33e1111111111101))))) ?_
  funext env st
  kernel_rfl
noncomputable def g33k3 : Kon := kSeq (fun env st => g33b111111111 (env 1) (env 4) (env 5) (env 6) (env 7) st) (g33kr)
noncomputable def g33k4 : Kon := kBlk 0 (g33k3)
noncomputable def g33b11111111010 : Nat → V → V → V → V → V → V → V → V → St → Res
| 0, _, _, _, _, _, _, _, _, _ => none
| n + 1, x1, x4, x5, x6, x7, x27, x28, x29, st =>
 A.bin .lss x29 x28 fun a1 =>
 A.cond a1
 (A.iaddr 1 x27 x29 fun a2 =>
 A.load false 1 a2 st fun a3 z4 =>
 A.call g33T x7 [a3] z4 fun a5 z6 =>
 A.bin .add x29 (.int .i64 1) fun a7 =>
 (g33b11111111010 n) x1 x4 x5 x6 x7 x27 x28 a7 z6)
 (g33b111111111 x1 x4 x5 x6 x7 st)
theorem g33n11111111010 : g33C [1, 1, 1, 1, 1, 1, 1, 1, 0, 1, 0] = .loop (g33C [1, 1, 1, 1, 1, 1, 1, 1, 0, 1, 0, 0]) := by kernel_rfl
noncomputable def g33k5 (L11111111010 : V → V → V → V → V → V → V → V → St → Res) : Kon := kSeq (fun env st => L11111111010 (env 1) (env 4) (env 5) (env 6) (env 7) (env 27) (env 28) (env 29) st) (g33k4)
theorem g33e11111111010 : g33X (g33C [1, 1, 1, 1, 1, 1, 1, 1, 0, 1, 0]) (g33k4) = fun env st => g33b11111111010 big (env 1) (env 4) (env 5) (env 6) (env 7) (env 27) (env 28) (env 29) st := by
  have key : ∀ n, aloop (g33X (g33C [1, 1, 1, 1, 1, 1, 1, 1, 0, 1, 0, 0])) (g33k4) n = fun env st => g33b11111111010 n (env 1) (env 4) (env 5) (env 6) (env 7) (env 27) (env 28) (env 29) st := by
    intro n
    induction n with
    | zero => rfl
    | succ n ih =>
      have h : aloop (g33X (g33C [1, 1, 1, 1, 1, 1, 1, 1, 0, 1, 0, 0])) (g33k4) (n + 1) = g33X (g33C [1, 1, 1, 1, 1, 1, 1, 1, 0, 1, 0, 0]) (kSeq (aloop (g33X (g33C [1, 1, 1, 1, 1, 1, 1, 1, 0, 1, 0, 0])) (g33k4) n) (g33k4)) := rfl
      rw [h, ih]
      refine Eq.trans (Eq.refl _) ?_
      funext env st
      kernel_rfl
  exact (g33loop g33n11111111010).trans (key big)
noncomputable def g33b11111111 (x1 : V) (x4 : V) (x5 : V) (x6 : V) (x7 : V) (st : St) : Res :=
 A.faddr 1 x1 fun a1 =>
 A.load false 1 a1 st fun a2 z3 =>
 A.lenL a2 fun a4 =>
 g33b11111111010 big x1 x4 x5 x6 x7 a2 a4 (.int .i64 0) z3
theorem g33n11111111 : g33C [1, 1, 1, 1, 1, 1, 1, 1] = .seq (g33C [1, 1, 1, 1, 1, 1, 1, 1, 0]) (g33C [1, 1, 1, 1, 1, 1, 1, 1, 1]) := by kernel_rfl
theorem g33n111111110 : g33C [1, 1, 1, 1, 1, 1, 1, 1, 0] = .seq (g33C [1, 1, 1, 1, 1, 1, 1, 1, 0, 0]) (g33C [1, 1, 1, 1, 1, 1, 1, 1, 0, 1]) := by kernel_rfl
theorem g33n1111111101 : g33C [1, 1, 1, 1, 1, 1, 1, 1, 0, 1] = .block 0 (g33C [1, 1, 1, 1, 1, 1, 1, 1, 0, 1, 0]) := by kernel_rfl
theorem g33e11111111 : g33X (g33C [1, 1, 1, 1, 1, 1, 1, 1]) (g33kr) = fun env st => g33b11111111 (env 1) (env 4) (env 5) (env 6) (env 7) st := by
  refine Eq.trans ((g33seq g33n11111111 (g33e111111111)).trans (g33seq g33n111111110 ((g33blk g33n1111111101).trans (g33e11111111010)))) ?_
  funext env st
  kernel_rfl
noncomputable def g33b1111 (x1 : V) (x4 : V) (x5 : V) (st : St) : Res :=
 A.faddr 0 x1 fun a1 =>
 A.load false 1 a1 st fun a2 z3 =>
 A.call g33T (.fn 47 [] [x4]) [a2] z3 fun a4 z5 =>
 A.faddr 1 x1 fun a6 =>
 A.load false 1 a6 z5 fun a7 z8 =>
 A.lenL a7 fun a9 =>
 A.call g33T (.fn 47 [] [x4]) [a9] z8 fun a10 z11 =>
 g33b11111111 x1 x4 x5 (.fn 43 [] [x5, x4]) (.fn 47 [] [x4]) z11
theorem g33n1111 : g33C [1, 1, 1, 1] = .seq (g33C [1, 1, 1, 1, 0]) (g33C [1, 1, 1, 1, 1]) := by kernel_rfl
theorem g33n11111 : g33C [1, 1, 1, 1, 1] = .seq (g33C [1, 1, 1, 1, 1, 0]) (g33C [1, 1, 1, 1, 1, 1]) := by kernel_rfl
theorem g33n111111 : g33C [1, 1, 1, 1, 1, 1] = .seq (g33C [1, 1, 1, 1, 1, 1, 0]) (g33C [1, 1, 1, 1, 1, 1, 1]) := by kernel_rfl
theorem g33n1111111 : g33C [1, 1, 1, 1, 1, 1, 1] = .seq (g33C [1, 1, 1, 1, 1, 1, 1, 0]) (g33C [1, 1, 1, 1, 1, 1, 1, 1]) := by kernel_rfl
theorem g33e1111 : g33X (g33C [1, 1, 1, 1]) (g33kr) = fun env st => g33b1111 (env 1) (env 4) (env 5) st := by
  refine Eq.trans (g33seq g33n1111 (g33seq g33n11111 (g33seq g33n111111 (g33seq g33n1111111 (g33e11111111))))) ?_
  funext env st
  kernel_rfl
noncomputable def f33 (x0 : V) (st : St) : Res :=
 A.box x0 st fun a1 z2 =>
 A.load true 4 a1 z2 fun a3 z4 =>
 A.ret (s42 [a3.er1] z4) fun a5 z6 =>
 A.un .not a5 fun a7 =>
 A.cond a7
 (some (.ret (.tup [((.str []) : V).er1, ((.int .i64 1) : V).er1]), z6))
 (A.newB 80 (.agg [.ptr0, (.lst [] 1)]) z6 fun a8 z9 =>
 A.box (.bool false) z9 fun a10 z11 =>
 A.store 1 a10 (.bool false) z11 fun z12 =>
 g33b1111 a1 a8 a10 z12)
theorem g33nr : g33C [] = .seq (g33C [0]) (g33C [1]) := by kernel_rfl
theorem g33n1 : g33C [1] = .seq (g33C [1, 0]) (g33C [1, 1]) := by kernel_rfl
theorem g33n11 : g33C [1, 1] = .seq (g33C [1, 1, 0]) (g33C [1, 1, 1]) := by kernel_rfl
theorem g33n111 : g33C [1, 1, 1] = .seq (g33C [1, 1, 1, 0]) (g33C [1, 1, 1, 1]) := by kernel_rfl
theorem g33er (env : Env) (st : St) : g33X (g33C []) g33kr env st = f33 (env 0) st := by
  rw [(g33seq g33nr (g33seq g33n1 (g33seq g33n11 (g33seq g33n111 (g33e1111)))))]
  kernel_rfl
theorem s33_eq (x0 : V) (st : St) : s33 [x0] st = fg (f33 x0 st) st := by
  have h : afn Try.prog g33mu g33T big (areg Try.prog g33mu g33T) 33 [x0] st = g33X (g33C []) g33kr (fun t => [x0].getD t (.tup [])) st := by kernel_rfl
  rw [s33, sealF_eq]
  show fg _ st = fg _ st
  refine congrArg (fun r => fg r st) ?_
  exact h.trans (g33er _ st)
/-! sinew/wire.four -/
def g34mu : Nat → Bool := fun _ => false
noncomputable def g34T : Tbl := tget []
theorem g34t : SimT Try.prog g34T := simT_nil
noncomputable def s34 : Fn := sealF (afn Try.prog g34mu g34T big (areg Try.prog g34mu g34T) 34)
theorem sim34 : Sim Try.prog 34 s34 := (afn_sim g34t (fun m => areg_sound g34t hmix m) 34 (by kernel_rfl)).sealed
noncomputable def f34 (x0 : V) (st : St) : Res :=
 A.bin .shr x0 (.int .u64 24) fun a1 =>
 A.toInt .u8 a1 fun a2 =>
 A.bin .shr x0 (.int .u64 16) fun a3 =>
 A.toInt .u8 a3 fun a4 =>
 A.bin .shr x0 (.int .u64 8) fun a5 =>
 A.toInt .u8 a5 fun a6 =>
 A.toInt .u8 x0 fun a7 =>
 A.bslice 1 (.int .u8 0) 4 [(0, a2), (1, a4), (2, a6), (3, a7)] fun a8 =>
 A.toStr a8 st fun a9 =>
 some (.ret a9.er1, st)
theorem s34_eq (x0 : V) (st : St) : s34 [x0] st = f34 x0 st := by
  rw [s34, sealF_eq]
  kernel_rfl
/-! sinew/check.Sum -/
def g35mu : Nat → Bool := fun _ => false
noncomputable def g35T : Tbl := tget [(50, s50)]
theorem g35t : SimT Try.prog g35T := simT_cons sim50 (simT_nil)
noncomputable def s35 : Fn := sealF (fun args st => fg (afn Try.prog g35mu g35T big (areg Try.prog g35mu g35T) 35 args st) st)
theorem sim35 : Sim Try.prog 35 s35 := (afn_sim g35t (fun m => areg_sound g35t hmix m) 35 (by kernel_rfl)).fg.sealed
noncomputable def g35C (p : List Nat) : Code := sub (match Try.f35.body with | some c => c | none => .skip) p
noncomputable def g35X (c : Code) (K : Kon) : Env → St → Res := aexec Try.prog g35mu g35T big 37 (areg Try.prog g35mu g35T 37) c K
noncomputable def g35kr : Kon := aresK Try.prog Try.f35.results.toList
theorem g35reg {c : Code} {K : Kon} {G : Env → St → Res} {id : Nat} {ops : Array Oper} {l1 l2 : List Nat} (hc : c = .region id ops false) (hl : List.range ops.size = l1 ++ l2) (h : (fun env st => aops Try.prog g35mu g35T 37 ops l2 env st (K .normal)) = G) : g35X c K = fun env st => aops Try.prog g35mu g35T 37 ops l1 env st G := reg_cut hc hl h
theorem g35seq {c x y : Code} {K : Kon} {G : Env → St → Res} (hc : c = .seq x y) (hy : g35X y K = G) : g35X c K = g35X x (kSeq G K) := seq_cut hc hy
theorem g35blk {c x : Code} {K : Kon} {i : Nat} (hc : c = .block i x) : g35X c K = g35X x (kBlk i K) := blk_cut hc
theorem g35loop {c x : Code} {K : Kon} (hc : c = .loop x) : g35X c K = aloop (g35X x) K big := loop_cut hc
theorem g35cond {c x y : Code} {K : Kon} {v : Operand} {F G : Env → St → Res} (hc : c = .cond v x y) (hx : g35X x K = F) (hy : g35X y K = G) : g35X c K = condF v F G := cond_cut hc hx hy
noncomputable def g35k0 : Kon := kSeq (g35X (g35C [1, 1, 1, 1]) (g35kr)) (g35kr)
noncomputable def g35k1 : Kon := kBlk 0 (g35k0)
noncomputable def g35k2 (L111010 : V → V → V → V → V → St → Res) : Kon := kSeq (fun env st => L111010 (env 0) (env 3) (env 4) (env 8) (env 9) st) (g35k1)
noncomputable def g35k3 (L111010 : V → V → V → V → V → St → Res) : Kon := kSeq (g35X (g35C [1, 1, 1, 0, 1, 0, 0, 1, 1, 1]) (g35k2 L111010)) (g35k2 L111010)
noncomputable def g35k4 (L111010 : V → V → V → V → V → St → Res) : Kon := kBlk 1 (g35k3 L111010)
noncomputable def g35b1110100110011 (L111010 : V → V → V → V → V → St → Res) (x0 : V) (x3 : V) (x4 : V) (x8 : V) (x9 : V) (st : St) : Res :=
 A.bin .shl x4 (.int .u64 4) fun a1 =>
 A.bin .shr x4 (.int .u64 28) fun a2 =>
 A.iaddrA 16 1 x3 a2 fun a3 =>
 A.load false 1 a3 st fun a4 z5 =>
 A.bin .xor a1 a4 fun a6 =>
 A.bin .shl a6 (.int .u64 4) fun a7 =>
 A.bin .shr a6 (.int .u64 28) fun a8 =>
 A.iaddrA 16 1 x3 a8 fun a9 =>
 A.load false 1 a9 z5 fun a10 z11 =>
 A.bin .xor a7 a10 fun a12 =>
 A.bin .add x9 (.int .i64 1) fun a13 =>
 L111010 x0 x3 a12 x8 a13 z11
theorem g35e1110100110011 (L111010 : V → V → V → V → V → St → Res) : g35X (g35C [1, 1, 1, 0, 1, 0, 0, 1, 1, 0, 0, 1, 1]) (g35k4 L111010) = fun env st => g35b1110100110011 L111010 (env 0) (env 3) (env 4) (env 8) (env 9) st := by
  refine Eq.trans (Eq.refl (g35X (g35C [1, 1, 1, 0, 1, 0, 0, 1, 1, 0, 0, 1, 1]) (g35k4 L111010))) ?_
  funext env st
  kernel_rfl
noncomputable def g35b111010 : Nat → V → V → V → V → V → St → Res
| 0, _, _, _, _, _, _ => none
| n + 1, x0, x3, x4, x8, x9, st =>
 A.bin .lss x9 x8 fun a1 =>
 A.cond a1
 (A.idxS x0 x9 fun a2 =>
 A.toInt .u32 a2 fun a3 =>
 A.bin .shl a3 (.int .u64 24) fun a4 =>
 A.bin .xor x4 a4 fun a5 =>
 g35b1110100110011 (g35b111010 n) x0 x3 a5 x8 x9 st)
 (A.un .xor x4 fun a6 =>
 A.toInt .i64 a6 fun a7 =>
 some (.ret a7.er1, st))
theorem g35n111010 : g35C [1, 1, 1, 0, 1, 0] = .loop (g35C [1, 1, 1, 0, 1, 0, 0]) := by kernel_rfl
theorem g35n1110100 : g35C [1, 1, 1, 0, 1, 0, 0] = .seq (g35C [1, 1, 1, 0, 1, 0, 0, 0]) (g35C [1, 1, 1, 0, 1, 0, 0, 1]) := by kernel_rfl
theorem g35n11101001 : g35C [1, 1, 1, 0, 1, 0, 0, 1] = .seq (g35C [1, 1, 1, 0, 1, 0, 0, 1, 0]) (g35C [1, 1, 1, 0, 1, 0, 0, 1, 1]) := by kernel_rfl
theorem g35n111010011 : g35C [1, 1, 1, 0, 1, 0, 0, 1, 1] = .seq (g35C [1, 1, 1, 0, 1, 0, 0, 1, 1, 0]) (g35C [1, 1, 1, 0, 1, 0, 0, 1, 1, 1]) := by kernel_rfl
theorem g35n1110100110 : g35C [1, 1, 1, 0, 1, 0, 0, 1, 1, 0] = .block 1 (g35C [1, 1, 1, 0, 1, 0, 0, 1, 1, 0, 0]) := by kernel_rfl
theorem g35n11101001100 : g35C [1, 1, 1, 0, 1, 0, 0, 1, 1, 0, 0] = .seq (g35C [1, 1, 1, 0, 1, 0, 0, 1, 1, 0, 0, 0]) (g35C [1, 1, 1, 0, 1, 0, 0, 1, 1, 0, 0, 1]) := by kernel_rfl
theorem g35n111010011001 : g35C [1, 1, 1, 0, 1, 0, 0, 1, 1, 0, 0, 1] = .seq (g35C [1, 1, 1, 0, 1, 0, 0, 1, 1, 0, 0, 1, 0]) (g35C [1, 1, 1, 0, 1, 0, 0, 1, 1, 0, 0, 1, 1]) := by kernel_rfl
theorem g35e111010 : g35X (g35C [1, 1, 1, 0, 1, 0]) (g35k1) = fun env st => g35b111010 big (env 0) (env 3) (env 4) (env 8) (env 9) st := by
  have key : ∀ n, aloop (g35X (g35C [1, 1, 1, 0, 1, 0, 0])) (g35k1) n = fun env st => g35b111010 n (env 0) (env 3) (env 4) (env 8) (env 9) st := by
    intro n
    induction n with
    | zero => rfl
    | succ n ih =>
      have h : aloop (g35X (g35C [1, 1, 1, 0, 1, 0, 0])) (g35k1) (n + 1) = g35X (g35C [1, 1, 1, 0, 1, 0, 0]) (kSeq (aloop (g35X (g35C [1, 1, 1, 0, 1, 0, 0])) (g35k1) n) (g35k1)) := rfl
      rw [h, ih]
      refine Eq.trans (g35seq g35n1110100 (g35seq g35n11101001 ((g35seq g35n111010011 rfl).trans ((g35blk g35n1110100110).trans (g35seq g35n11101001100 (g35seq g35n111010011001 (g35e1110100110011 (g35b111010 n)))))))) ?_
      funext env st
      kernel_rfl
  exact (g35loop g35n111010).trans (key big)
noncomputable def f35 (x0 : V) (st : St) : Res :=
 A.ret (s50 [] st) fun a1 z2 =>
 A.box (.agg [(.int .u32 0), (.int .u32 0), (.int .u32 0), (.int .u32 0), (.int .u32 0), (.int .u32 0), (.int .u32 0), (.int .u32 0), (.int .u32 0), (.int .u32 0), (.int .u32 0), (.int .u32 0), (.int .u32 0), (.int .u32 0), (.int .u32 0), (.int .u32 0)]) z2 fun a3 z4 =>
 A.store 16 a3 a1 z4 fun z5 =>
 A.lenS x0 fun a6 =>
 g35b111010 big x0 a3 (.int .u32 4294967295) a6 (.int .i64 0) z5
theorem g35nr : g35C [] = .seq (g35C [0]) (g35C [1]) := by kernel_rfl
theorem g35n1 : g35C [1] = .seq (g35C [1, 0]) (g35C [1, 1]) := by kernel_rfl
theorem g35n11 : g35C [1, 1] = .seq (g35C [1, 1, 0]) (g35C [1, 1, 1]) := by kernel_rfl
theorem g35n111 : g35C [1, 1, 1] = .seq (g35C [1, 1, 1, 0]) (g35C [1, 1, 1, 1]) := by kernel_rfl
theorem g35n1110 : g35C [1, 1, 1, 0] = .seq (g35C [1, 1, 1, 0, 0]) (g35C [1, 1, 1, 0, 1]) := by kernel_rfl
theorem g35n11101 : g35C [1, 1, 1, 0, 1] = .block 0 (g35C [1, 1, 1, 0, 1, 0]) := by kernel_rfl
theorem g35er (env : Env) (st : St) : g35X (g35C []) g35kr env st = f35 (env 0) st := by
  rw [(g35seq g35nr (g35seq g35n1 (g35seq g35n11 ((g35seq g35n111 rfl).trans (g35seq g35n1110 ((g35blk g35n11101).trans (g35e111010)))))))]
  kernel_rfl
theorem s35_eq (x0 : V) (st : St) : s35 [x0] st = fg (f35 x0 st) st := by
  have h : afn Try.prog g35mu g35T big (areg Try.prog g35mu g35T) 35 [x0] st = g35X (g35C []) g35kr (fun t => [x0].getD t (.tup [])) st := by kernel_rfl
  rw [s35, sealF_eq]
  show fg _ st = fg _ st
  refine congrArg (fun r => fg r st) ?_
  exact h.trans (g35er _ st)
/-! sinew/wire.Pack -/
def g22mu : Nat → Bool := fun _ => false
noncomputable def g22T : Tbl := tget [(33, s33), (34, s34), (35, s35)]
theorem g22t : SimT Try.prog g22T := simT_cons sim33 ( simT_cons sim34 ( simT_cons sim35 (simT_nil)))
noncomputable def s22 : Fn := sealF (fun args st => fg (afn Try.prog g22mu g22T big (areg Try.prog g22mu g22T) 22 args st) st)
theorem sim22 : Sim Try.prog 22 s22 := (afn_sim g22t (fun m => areg_sound g22t hmix m) 22 (by kernel_rfl)).fg.sealed
noncomputable def g22C (p : List Nat) : Code := sub (match Try.f22.body with | some c => c | none => .skip) p
noncomputable def g22X (c : Code) (K : Kon) : Env → St → Res := aexec Try.prog g22mu g22T big 23 (areg Try.prog g22mu g22T 23) c K
noncomputable def g22kr : Kon := aresK Try.prog Try.f22.results.toList
theorem g22reg {c : Code} {K : Kon} {G : Env → St → Res} {id : Nat} {ops : Array Oper} {l1 l2 : List Nat} (hc : c = .region id ops false) (hl : List.range ops.size = l1 ++ l2) (h : (fun env st => aops Try.prog g22mu g22T 23 ops l2 env st (K .normal)) = G) : g22X c K = fun env st => aops Try.prog g22mu g22T 23 ops l1 env st G := reg_cut hc hl h
theorem g22seq {c x y : Code} {K : Kon} {G : Env → St → Res} (hc : c = .seq x y) (hy : g22X y K = G) : g22X c K = g22X x (kSeq G K) := seq_cut hc hy
theorem g22blk {c x : Code} {K : Kon} {i : Nat} (hc : c = .block i x) : g22X c K = g22X x (kBlk i K) := blk_cut hc
theorem g22loop {c x : Code} {K : Kon} (hc : c = .loop x) : g22X c K = aloop (g22X x) K big := loop_cut hc
theorem g22cond {c x y : Code} {K : Kon} {v : Operand} {F G : Env → St → Res} (hc : c = .cond v x y) (hx : g22X x K = F) (hy : g22X y K = G) : g22X c K = condF v F G := cond_cut hc hx hy
noncomputable def g22b111 (x4 : V) (st : St) : Res :=
 A.lenS x4 fun a1 =>
 A.ret (s34 [a1.er1] st) fun a2 z3 =>
 A.ret (s35 [x4.er1] z3) fun a4 z5 =>
 A.ret (s34 [a4.er1] z5) fun a6 z7 =>
 A.bin .add a2 a6 fun a8 =>
 A.bin .add a8 x4 fun a9 =>
 some (.ret (.tup [a9.er1, ((.int .i64 0) : V).er1]), z7)
theorem g22e111 : g22X (g22C [1, 1, 1]) (g22kr) = fun env st => g22b111 (env 4) st := by
  refine Eq.trans (Eq.refl (g22X (g22C [1, 1, 1]) (g22kr))) ?_
  funext env st
  kernel_rfl
noncomputable def f22 (x0 : V) (st : St) : Res :=
 A.box x0 st fun a1 z2 =>
 A.load true 4 a1 z2 fun a3 z4 =>
 A.ret (s33 [a3.er1] z4) fun a5 z6 =>
 A.ext a5 0 fun a7 =>
 A.ext a5 1 fun a8 =>
 A.eql 2 true a8 (.int .i64 0) fun a9 =>
 A.cond a9
 (some (.ret (.tup [((.str []) : V).er1, a8.er1]), z6))
 (g22b111 a7 z6)
theorem g22nr : g22C [] = .seq (g22C [0]) (g22C [1]) := by kernel_rfl
theorem g22n1 : g22C [1] = .seq (g22C [1, 0]) (g22C [1, 1]) := by kernel_rfl
theorem g22n11 : g22C [1, 1] = .seq (g22C [1, 1, 0]) (g22C [1, 1, 1]) := by kernel_rfl
theorem g22er (env : Env) (st : St) : g22X (g22C []) g22kr env st = f22 (env 0) st := by
  rw [(g22seq g22nr (g22seq g22n1 (g22seq g22n11 (g22e111))))]
  kernel_rfl
theorem s22_eq (x0 : V) (st : St) : s22 [x0] st = fg (f22 x0 st) st := by
  have h : afn Try.prog g22mu g22T big (areg Try.prog g22mu g22T) 22 [x0] st = g22X (g22C []) g22kr (fun t => [x0].getD t (.tup [])) st := by kernel_rfl
  rw [s22, sealF_eq]
  show fg _ st = fg _ st
  refine congrArg (fun r => fg r st) ?_
  exact h.trans (g22er _ st)
/-! (*sinew/journal.Journal).given -/
def g23mu : Nat → Bool := fun _ => false
noncomputable def g23T : Tbl := tget []
theorem g23t : SimT Try.prog g23T := simT_nil
noncomputable def s23 : Fn := sealF (afn Try.prog g23mu g23T big (areg Try.prog g23mu g23T) 23)
theorem sim23 : Sim Try.prog 23 s23 := (afn_sim g23t (fun m => areg_sound g23t hmix m) 23 (by kernel_rfl)).sealed
noncomputable def f23 (x0 : V) (st : St) : Res :=
 A.eql 4 true x0 .ptr0 fun a1 =>
 A.guard a1 true
 (A.nilc x0 fun a2 =>
 A.faddr 0 a2 fun a3 =>
 A.load false 1 a3 st fun a4 z5 =>
 A.bin .gtr a4 (.int .i64 0) fun a6 =>
 some (.ret a6.er1, z5))
 (some (.ret ((.bool false) : V).er1, st))
theorem s23_eq (x0 : V) (st : St) : s23 [x0] st = f23 x0 st := by
  rw [s23, sealF_eq]
  kernel_rfl
/-! (*sinew/journal.Journal).Write -/
def g12mu : Nat → Bool := fun i => Nat.beq i 40
noncomputable def g12T : Tbl := tget [(22, s22), (23, s23)]
theorem g12t : SimT Try.prog g12T := simT_cons sim22 ( simT_cons sim23 (simT_nil))
noncomputable def s12 : Fn := sealF (afn Try.prog g12mu g12T big (areg Try.prog g12mu g12T) 12)
theorem sim12 : Sim Try.prog 12 s12 := (afn_sim g12t (fun m => areg_sound g12t hmix m) 12 (by kernel_rfl)).sealed
noncomputable def g12C (p : List Nat) : Code := sub (match Try.f12.body with | some c => c | none => .skip) p
noncomputable def g12X (c : Code) (K : Kon) : Env → St → Res := aexec Try.prog g12mu g12T big 43 (areg Try.prog g12mu g12T 43) c K
noncomputable def g12kr : Kon := aresK Try.prog Try.f12.results.toList
theorem g12reg {c : Code} {K : Kon} {G : Env → St → Res} {id : Nat} {ops : Array Oper} {l1 l2 : List Nat} (hc : c = .region id ops false) (hl : List.range ops.size = l1 ++ l2) (h : (fun env st => aops Try.prog g12mu g12T 43 ops l2 env st (K .normal)) = G) : g12X c K = fun env st => aops Try.prog g12mu g12T 43 ops l1 env st G := reg_cut hc hl h
theorem g12seq {c x y : Code} {K : Kon} {G : Env → St → Res} (hc : c = .seq x y) (hy : g12X y K = G) : g12X c K = g12X x (kSeq G K) := seq_cut hc hy
theorem g12blk {c x : Code} {K : Kon} {i : Nat} (hc : c = .block i x) : g12X c K = g12X x (kBlk i K) := blk_cut hc
theorem g12loop {c x : Code} {K : Kon} (hc : c = .loop x) : g12X c K = aloop (g12X x) K big := loop_cut hc
theorem g12cond {c x y : Code} {K : Kon} {v : Operand} {F G : Env → St → Res} (hc : c = .cond v x y) (hx : g12X x K = F) (hy : g12X y K = G) : g12X c K = condF v F G := cond_cut hc hx hy
noncomputable def g12b111 (x0 : V) (x5 : V) (st : St) : Res :=
 A.nilc x0 fun a1 =>
 A.faddr 1 a1 fun a2 =>
 A.load false 1 a2 st fun a3 z4 =>
 A.appM 1 a3 (elemsOf 3 1 x5 z4) z4 fun a5 z6 =>
 A.nilc x0 fun a7 =>
 A.faddr 1 a7 fun a8 =>
 A.store 1 a8 a5 z6 fun z9 =>
 some (.ret ((.int .i64 0) : V).er1, z9)
theorem g12e111 : g12X (g12C [1, 1, 1]) (g12kr) = fun env st => g12b111 (env 0) (env 5) st := by
  refine Eq.trans (Eq.refl (g12X (g12C [1, 1, 1]) (g12kr))) ?_
  funext env st
  kernel_rfl
noncomputable def g12k0 : Kon := kSeq (fun env st => g12b111 (env 0) (env 5) st) (g12kr)
noncomputable def g12k1 : Kon := kBlk 0 (g12k0)
noncomputable def g12b11001 (x0 : V) (x5 : V) (x12 : V) (st : St) : Res :=
 A.cond x12
 (some (.ret ((.int .i64 1) : V).er1, st))
 (A.nilc x0 fun a1 =>
 A.faddr 1 a1 fun a2 =>
 A.load false 1 a2 st fun a3 _ =>
 A.lenL a3 fun a4 =>
 A.lenS x5 fun a5 =>
 A.bin .add a4 a5 fun a6 =>
 A.nilc x0 fun a7 =>
 A.faddr 0 a7 fun a8 =>
 A.load false 1 a8 st fun a9 _ =>
 A.bin .gtr a6 a9 fun a10 =>
 A.cond a10
 (some (.ret ((.int .i64 40) : V).er1, st))
 (g12b111 x0 x5 st))
theorem g12e11001 : g12X (g12C [1, 1, 0, 0, 1]) (g12k1) = fun env st => g12b11001 (env 0) (env 5) (env 12) st := by
  refine Eq.trans (Eq.refl (g12X (g12C [1, 1, 0, 0, 1]) (g12k1))) ?_
  funext env st
  kernel_rfl
noncomputable def f12 (x0 : V) (x1 : V) (st : St) : Res :=
 A.box x1 st fun a1 z2 =>
 A.load true 4 a1 z2 fun a3 z4 =>
 A.ret (s22 [a3.er1] z4) fun a5 z6 =>
 A.ext a5 0 fun a7 =>
 A.ext a5 1 fun a8 =>
 A.ret (s23 [x0.er1] z6) fun a9 z10 =>
 A.un .not a9 fun a11 =>
 A.guard a11 false
 (A.eql 2 true a8 (.int .i64 0) fun a12 =>
 g12b11001 x0 a7 a12 z10)
 (g12b11001 x0 a7 (.bool true) z10)
theorem g12nr : g12C [] = .seq (g12C [0]) (g12C [1]) := by kernel_rfl
theorem g12n1 : g12C [1] = .seq (g12C [1, 0]) (g12C [1, 1]) := by kernel_rfl
theorem g12n11 : g12C [1, 1] = .seq (g12C [1, 1, 0]) (g12C [1, 1, 1]) := by kernel_rfl
theorem g12n110 : g12C [1, 1, 0] = .block 0 (g12C [1, 1, 0, 0]) := by kernel_rfl
theorem g12n1100 : g12C [1, 1, 0, 0] = .seq (g12C [1, 1, 0, 0, 0]) (g12C [1, 1, 0, 0, 1]) := by kernel_rfl
theorem g12er (env : Env) (st : St) : g12X (g12C []) g12kr env st = f12 (env 0) (env 1) st := by
  rw [(g12seq g12nr (g12seq g12n1 ((g12seq g12n11 (g12e111)).trans ((g12blk g12n110).trans (g12seq g12n1100 (g12e11001))))))]
  kernel_rfl
theorem s12_eq (x0 : V) (x1 : V) (st : St) : s12 [x0, x1] st = f12 x0 x1 st := by
  have h : afn Try.prog g12mu g12T big (areg Try.prog g12mu g12T) 12 [x0, x1] st = g12X (g12C []) g12kr (fun t => [x0, x1].getD t (.tup [])) st := by kernel_rfl
  rw [s12, sealF_eq]
  exact h.trans (g12er _ st)
/-! (*sinew/journal.Journal).Sure -/
def g13mu : Nat → Bool := fun _ => false
noncomputable def g13T : Tbl := tget [(23, s23)]
theorem g13t : SimT Try.prog g13T := simT_cons sim23 (simT_nil)
noncomputable def s13 : Fn := sealF (afn Try.prog g13mu g13T big (areg Try.prog g13mu g13T) 13)
theorem sim13 : Sim Try.prog 13 s13 := (afn_sim g13t (fun m => areg_sound g13t hmix m) 13 (by kernel_rfl)).sealed
noncomputable def f13 (x0 : V) (st : St) : Res :=
 A.ret (s23 [x0.er1] st) fun a1 z2 =>
 A.un .not a1 fun a3 =>
 A.cond a3
 (some (.ret ((.int .i64 1) : V).er1, z2))
 (A.nilc x0 fun a4 =>
 A.faddr 1 a4 fun a5 =>
 A.load false 1 a5 z2 fun a6 z7 =>
 A.lenL a6 fun a8 =>
 A.nilc x0 fun a9 =>
 A.faddr 2 a9 fun a10 =>
 A.store 1 a10 a8 z7 fun z11 =>
 some (.ret ((.int .i64 0) : V).er1, z11))
theorem s13_eq (x0 : V) (st : St) : s13 [x0] st = f13 x0 st := by
  rw [s13, sealF_eq]
  kernel_rfl
end Go.Ab
