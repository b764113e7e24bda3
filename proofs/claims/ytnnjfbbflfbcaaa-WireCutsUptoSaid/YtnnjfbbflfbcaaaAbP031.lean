import Derived.Test.YtnnjfbbflfbcaaaAbForget
import Derived.Test.YtnnjfbbflfbcaaaAbP030
namespace Go.Ab
open Go.Proofs
set_option linter.unusedVariables false
set_option maxRecDepth 100000
/-! sinew/octet.List -/
def g38mu : Nat → Bool := fun _ => false
noncomputable def g38T : Tbl := tget [(36, s36), (53, s53)]
theorem g38t : SimT Try.prog g38T := simT_cons sim36 ( simT_cons sim53 (simT_nil))
noncomputable def s38 : Fn := sealF (fun args st => fg (afn Try.prog g38mu g38T big (areg Try.prog g38mu g38T) 38 args st) st)
theorem sim38 : Sim Try.prog 38 s38 := (afn_sim g38t (fun m => areg_sound g38t hmix m) 38 (by kernel_rfl)).fg.sealed
noncomputable def g38C (p : List Nat) : Code := sub (match Try.f38.body with | some c => c | none => .skip) p
noncomputable def g38X (c : Code) (K : Kon) : Env → St → Res := aexec Try.prog g38mu g38T big 44 (areg Try.prog g38mu g38T 44) c K
noncomputable def g38kr : Kon := aresK Try.prog Try.f38.results.toList
theorem g38reg {c : Code} {K : Kon} {G : Env → St → Res} {id : Nat} {ops : Array Oper} {l1 l2 : List Nat} (hc : c = .region id ops false) (hl : List.range ops.size = l1 ++ l2) (h : (fun env st => aops Try.prog g38mu g38T 44 ops l2 env st (K .normal)) = G) : g38X c K = fun env st => aops Try.prog g38mu g38T 44 ops l1 env st G := reg_cut hc hl h
theorem g38seq {c x y : Code} {K : Kon} {G : Env → St → Res} (hc : c = .seq x y) (hy : g38X y K = G) : g38X c K = g38X x (kSeq G K) := seq_cut hc hy
theorem g38blk {c x : Code} {K : Kon} {i : Nat} (hc : c = .block i x) : g38X c K = g38X x (kBlk i K) := blk_cut hc
theorem g38loop {c x : Code} {K : Kon} (hc : c = .loop x) : g38X c K = aloop (g38X x) K big := loop_cut hc
theorem g38cond {c x y : Code} {K : Kon} {v : Operand} {F G : Env → St → Res} (hc : c = .cond v x y) (hx : g38X x K = F) (hy : g38X y K = G) : g38X c K = condF v F G := cond_cut hc hx hy
noncomputable def g38k0 : Kon := kSeq (g38X (g38C [1, 1, 1, 1, 1]) (g38kr)) (g38kr)
noncomputable def g38k1 : Kon := kBlk 0 (g38k0)
noncomputable def g38k2 (L1111010 : V → V → V → V → V → St → Res) : Kon := kSeq (fun env st => L1111010 (env 0) (env 2) (env 3) (env 20) (env 21) st) (g38k1)
noncomputable def g38k3 (L1111010 : V → V → V → V → V → St → Res) : Kon := kSeq (g38X (g38C [1, 1, 1, 1, 0, 1, 0, 0, 1, 1, 1]) (g38k2 L1111010)) (g38k2 L1111010)
noncomputable def g38k4 (L1111010 : V → V → V → V → V → St → Res) : Kon := kBlk 1 (g38k3 L1111010)
noncomputable def g38b1111010011001 (L1111010 : V → V → V → V → V → St → Res) (x0 : V) (x2 : V) (x3 : V) (x6 : V) (x7 : V) (x8 : V) (x20 : V) (x21 : V) (st : St) : Res :=
 A.eql 2 true x8 (.int .i64 0) fun a1 =>
 A.cond a1
 (some (.ret (.tup [((.lst [] 1) : V).er1, ((.int .i64 0) : V).er1, x8.er1]), st))
 (A.bslice 1 (.str []) 1 [(0, x6)] fun a2 =>
 A.app 1 x2 (elemsOf 5 1 a2 st) st fun a3 z4 =>
 A.bin .add x3 x7 fun a5 =>
 A.bin .add x21 (.int .i64 1) fun a6 =>
 L1111010 x0 a3 a5 x20 a6 z4)
theorem g38e1111010011001 (L1111010 : V → V → V → V → V → St → Res) : g38X (g38C [1, 1, 1, 1, 0, 1, 0, 0, 1, 1, 0, 0, 1]) (g38k4 L1111010) = fun env st => g38b1111010011001 L1111010 (env 0) (env 2) (env 3) (env 6) (env 7) (env 8) (env 20) (env 21) st := by
  refine Eq.trans (Eq.refl (g38X (g38C [1, 1, 1, 1, 0, 1, 0, 0, 1, 1, 0, 0, 1]) (g38k4 L1111010))) ?_
  funext env st
  kernel_rfl
noncomputable def g38b1111010 : Nat → V → V → V → V → V → St → Res
| 0, _, _, _, _, _, _ => none
| n + 1, x0, x2, x3, x20, x21, st =>
 A.bin .lss x21 x20 fun a1 =>
 A.cond a1
 (A.sliceS x0 (some x3) none fun a2 =>
 A.ret (s53 [a2.er1] st) fun a3 z4 =>
 A.ext a3 0 fun a5 =>
 A.ext a3 1 fun a6 =>
 A.ext a3 2 fun a7 =>
 g38b1111010011001 (g38b1111010 n) x0 x2 x3 a5 a6 a7 x20 x21 z4)
 (some (.ret (.tup [x2.er1, x3.er1, ((.int .i64 0) : V).er1]), st))
theorem g38n1111010 : g38C [1, 1, 1, 1, 0, 1, 0] = .loop (g38C [1, 1, 1, 1, 0, 1, 0, 0]) := by kernel_rfl
theorem g38n11110100 : g38C [1, 1, 1, 1, 0, 1, 0, 0] = .seq (g38C [1, 1, 1, 1, 0, 1, 0, 0, 0]) (g38C [1, 1, 1, 1, 0, 1, 0, 0, 1]) := by kernel_rfl
theorem g38n111101001 : g38C [1, 1, 1, 1, 0, 1, 0, 0, 1] = .seq (g38C [1, 1, 1, 1, 0, 1, 0, 0, 1, 0]) (g38C [1, 1, 1, 1, 0, 1, 0, 0, 1, 1]) := by kernel_rfl
theorem g38n1111010011 : g38C [1, 1, 1, 1, 0, 1, 0, 0, 1, 1] = .seq (g38C [1, 1, 1, 1, 0, 1, 0, 0, 1, 1, 0]) (g38C [1, 1, 1, 1, 0, 1, 0, 0, 1, 1, 1]) := by kernel_rfl
theorem g38n11110100110 : g38C [1, 1, 1, 1, 0, 1, 0, 0, 1, 1, 0] = .block 1 (g38C [1, 1, 1, 1, 0, 1, 0, 0, 1, 1, 0, 0]) := by kernel_rfl
theorem g38n111101001100 : g38C [1, 1, 1, 1, 0, 1, 0, 0, 1, 1, 0, 0] = .seq (g38C [1, 1, 1, 1, 0, 1, 0, 0, 1, 1, 0, 0, 0]) (g38C [1, 1, 1, 1, 0, 1, 0, 0, 1, 1, 0, 0, 1]) := by kernel_rfl
theorem g38e1111010 : g38X (g38C [1, 1, 1, 1, 0, 1, 0]) (g38k1) = fun env st => g38b1111010 big (env 0) (env 2) (env 3) (env 20) (env 21) st := by
  have key : ∀ n, aloop (g38X (g38C [1, 1, 1, 1, 0, 1, 0, 0])) (g38k1) n = fun env st => g38b1111010 n (env 0) (env 2) (env 3) (env 20) (env 21) st := by
    intro n
    induction n with
    | zero => rfl
    | succ n ih =>
      have h : aloop (g38X (g38C [1, 1, 1, 1, 0, 1, 0, 0])) (g38k1) (n + 1) = g38X (g38C [1, 1, 1, 1, 0, 1, 0, 0]) (kSeq (aloop (g38X (g38C [1, 1, 1, 1, 0, 1, 0, 0])) (g38k1) n) (g38k1)) := rfl
      rw [h, ih]
      refine Eq.trans (g38seq g38n11110100 (g38seq g38n111101001 ((g38seq g38n1111010011 rfl).trans ((g38blk g38n11110100110).trans (g38seq g38n111101001100 (g38e1111010011001 (g38b1111010 n))))))) ?_
      funext env st
      kernel_rfl
  exact (g38loop g38n1111010).trans (key big)
noncomputable def g38b1111 (x0 : V) (x2 : V) (x3 : V) (x5 : V) (st : St) : Res :=
 g38b1111010 big x0 x2 x3 x5 (.int .i64 0) st
theorem g38n1111 : g38C [1, 1, 1, 1] = .seq (g38C [1, 1, 1, 1, 0]) (g38C [1, 1, 1, 1, 1]) := by kernel_rfl
theorem g38n11110 : g38C [1, 1, 1, 1, 0] = .seq (g38C [1, 1, 1, 1, 0, 0]) (g38C [1, 1, 1, 1, 0, 1]) := by kernel_rfl
theorem g38n111101 : g38C [1, 1, 1, 1, 0, 1] = .block 0 (g38C [1, 1, 1, 1, 0, 1, 0]) := by kernel_rfl
theorem g38e1111 : g38X (g38C [1, 1, 1, 1]) (g38kr) = fun env st => g38b1111 (env 0) (env 2) (env 3) (env 5) st := by
  refine Eq.trans ((g38seq g38n1111 rfl).trans (g38seq g38n11110 ((g38blk g38n111101).trans (g38e1111010)))) ?_
  funext env st
  kernel_rfl
noncomputable def g38b11 (x0 : V) (x2 : V) (x3 : V) (x4 : V) (x5 : V) (st : St) : Res :=
 A.eql 2 true x4 (.int .i64 0) fun a1 =>
 A.cond a1
 (some (.ret (.tup [((.lst [] 1) : V).er1, ((.int .i64 0) : V).er1, x4.er1]), st))
 (A.bin .gtr x5 (.int .i64 4096) fun a2 =>
 A.cond a2
 (some (.ret (.tup [((.lst [] 1) : V).er1, ((.int .i64 0) : V).er1, ((.int .i64 12) : V).er1]), st))
 (g38b1111 x0 x2 x3 x5 st))
theorem g38n11 : g38C [1, 1] = .seq (g38C [1, 1, 0]) (g38C [1, 1, 1]) := by kernel_rfl
theorem g38n111 : g38C [1, 1, 1] = .seq (g38C [1, 1, 1, 0]) (g38C [1, 1, 1, 1]) := by kernel_rfl
theorem g38e11 : g38X (g38C [1, 1]) (g38kr) = fun env st => g38b11 (env 0) (env 2) (env 3) (env 4) (env 5) st := by
  refine Eq.trans (g38seq g38n11 (g38seq g38n111 (g38e1111))) ?_
  funext env st
  kernel_rfl
noncomputable def f38 (x0 : V) (st : St) : Res :=
 A.ret (s36 [x0.er1] st) fun a1 z2 =>
 A.ext a1 0 fun a3 =>
 A.ext a1 1 fun a4 =>
 A.ext a1 2 fun a5 =>
 g38b11 x0 (.lst [] 1) a4 a5 a3 z2
theorem g38nr : g38C [] = .seq (g38C [0]) (g38C [1]) := by kernel_rfl
theorem g38n1 : g38C [1] = .seq (g38C [1, 0]) (g38C [1, 1]) := by kernel_rfl
theorem g38er (env : Env) (st : St) : g38X (g38C []) g38kr env st = f38 (env 0) st := by
  rw [(g38seq g38nr (g38seq g38n1 (g38e11)))]
  kernel_rfl
theorem s38_eq (x0 : V) (st : St) : s38 [x0] st = fg (f38 x0 st) st := by
  have h : afn Try.prog g38mu g38T big (areg Try.prog g38mu g38T) 38 [x0] st = g38X (g38C []) g38kr (fun t => [x0].getD t (.tup [])) st := by kernel_rfl
  rw [s38, sealF_eq]
  show fg _ st = fg _ st
  refine congrArg (fun r => fg r st) ?_
  exact h.trans (g38er _ st)
/-! sinew/wire.of$2 -/
def g37mu : Nat → Bool := fun _ => false
noncomputable def g37T : Tbl := tget [(38, s38)]
theorem g37t : SimT Try.prog g37T := simT_cons sim38 (simT_nil)
noncomputable def s37 : Fn := sealF (afn Try.prog g37mu g37T big (areg Try.prog g37mu g37T) 37)
theorem sim37 : Sim Try.prog 37 s37 := (afn_sim g37t (fun m => areg_sound g37t hmix m) 37 (by kernel_rfl)).sealed
noncomputable def g37C (p : List Nat) : Code := sub (match Try.f37.body with | some c => c | none => .skip) p
noncomputable def g37X (c : Code) (K : Kon) : Env → St → Res := aexec Try.prog g37mu g37T big 22 (areg Try.prog g37mu g37T 22) c K
noncomputable def g37kr : Kon := aresK Try.prog Try.f37.results.toList
theorem g37reg {c : Code} {K : Kon} {G : Env → St → Res} {id : Nat} {ops : Array Oper} {l1 l2 : List Nat} (hc : c = .region id ops false) (hl : List.range ops.size = l1 ++ l2) (h : (fun env st => aops Try.prog g37mu g37T 22 ops l2 env st (K .normal)) = G) : g37X c K = fun env st => aops Try.prog g37mu g37T 22 ops l1 env st G := reg_cut hc hl h
theorem g37seq {c x y : Code} {K : Kon} {G : Env → St → Res} (hc : c = .seq x y) (hy : g37X y K = G) : g37X c K = g37X x (kSeq G K) := seq_cut hc hy
theorem g37blk {c x : Code} {K : Kon} {i : Nat} (hc : c = .block i x) : g37X c K = g37X x (kBlk i K) := blk_cut hc
theorem g37loop {c x : Code} {K : Kon} (hc : c = .loop x) : g37X c K = aloop (g37X x) K big := loop_cut hc
theorem g37cond {c x y : Code} {K : Kon} {v : Operand} {F G : Env → St → Res} (hc : c = .cond v x y) (hx : g37X x K = F) (hy : g37X y K = G) : g37X c K = condF v F G := cond_cut hc hx hy
noncomputable def g37b111 (x0 : V) (x3 : V) (x4 : V) (st : St) : Res :=
 A.load false 1 x0 st fun a1 z2 =>
 A.sliceS a1 (some x4) none fun a3 =>
 A.store 1 x0 a3 z2 fun z4 =>
 some (.ret x3.er1, z4)
theorem g37e111 : g37X (g37C [1, 1, 1]) (g37kr) = fun env st => g37b111 (env 0) (env 3) (env 4) st := by
  refine Eq.trans (Eq.refl (g37X (g37C [1, 1, 1]) (g37kr))) ?_
  funext env st
  kernel_rfl
noncomputable def f37 (x0 : V) (x1 : V) (st : St) : Res :=
 A.load false 1 x0 st fun a1 z2 =>
 A.ret (s38 [a1.er1] z2) fun a3 z4 =>
 A.ext a3 0 fun a5 =>
 A.ext a3 1 fun a6 =>
 A.ext a3 2 fun a7 =>
 A.load false 1 x1 z4 fun a8 z9 =>
 A.un .not a8 fun a10 =>
 A.guard a10 false
 (A.eql 2 true a7 (.int .i64 0) fun a11 =>
 A.cond a11
 (A.store 1 x1 (.bool false) z9 fun z12 =>
 some (.ret ((.lst [] 1) : V).er1, z12))
 (g37b111 x0 a5 a6 z9))
 (A.store 1 x1 (.bool false) z9 fun z13 =>
 some (.ret ((.lst [] 1) : V).er1, z13))
theorem g37nr : g37C [] = .seq (g37C [0]) (g37C [1]) := by kernel_rfl
theorem g37n1 : g37C [1] = .seq (g37C [1, 0]) (g37C [1, 1]) := by kernel_rfl
theorem g37n11 : g37C [1, 1] = .seq (g37C [1, 1, 0]) (g37C [1, 1, 1]) := by kernel_rfl
theorem g37er (env : Env) (st : St) : g37X (g37C []) g37kr env st = f37 (env 0) (env 1) st := by
  rw [(g37seq g37nr (g37seq g37n1 (g37seq g37n11 (g37e111))))]
  kernel_rfl
theorem s37_eq (x0 : V) (x1 : V) (st : St) : s37 [x0, x1] st = f37 x0 x1 st := by
  have h : afn Try.prog g37mu g37T big (areg Try.prog g37mu g37T) 37 [x0, x1] st = g37X (g37C []) g37kr (fun t => [x0, x1].getD t (.tup [])) st := by kernel_rfl
  rw [s37, sealF_eq]
  exact h.trans (g37er _ st)
/-! sinew/wire.of -/
def g24mu : Nat → Bool := fun _ => false
noncomputable def g24T : Tbl := tget [(35, s35), (37, s37), (39, s39)]
theorem g24t : SimT Try.prog g24T := simT_cons sim35 ( simT_cons sim37 ( simT_cons sim39 (simT_nil)))
noncomputable def s24 : Fn := sealF (fun args st => fg (afn Try.prog g24mu g24T big (areg Try.prog g24mu g24T) 24 args st) st)
theorem sim24 : Sim Try.prog 24 s24 := (afn_sim g24t (fun m => areg_sound g24t hmix m) 24 (by kernel_rfl)).fg.sealed
noncomputable def g24C (p : List Nat) : Code := sub (match Try.f24.body with | some c => c | none => .skip) p
noncomputable def g24X (c : Code) (K : Kon) : Env → St → Res := aexec Try.prog g24mu g24T big 48 (areg Try.prog g24mu g24T 48) c K
noncomputable def g24kr : Kon := aresK Try.prog Try.f24.results.toList
theorem g24reg {c : Code} {K : Kon} {G : Env → St → Res} {id : Nat} {ops : Array Oper} {l1 l2 : List Nat} (hc : c = .region id ops false) (hl : List.range ops.size = l1 ++ l2) (h : (fun env st => aops Try.prog g24mu g24T 48 ops l2 env st (K .normal)) = G) : g24X c K = fun env st => aops Try.prog g24mu g24T 48 ops l1 env st G := reg_cut hc hl h
theorem g24seq {c x y : Code} {K : Kon} {G : Env → St → Res} (hc : c = .seq x y) (hy : g24X y K = G) : g24X c K = g24X x (kSeq G K) := seq_cut hc hy
theorem g24blk {c x : Code} {K : Kon} {i : Nat} (hc : c = .block i x) : g24X c K = g24X x (kBlk i K) := blk_cut hc
theorem g24loop {c x : Code} {K : Kon} (hc : c = .loop x) : g24X c K = aloop (g24X x) K big := loop_cut hc
theorem g24cond {c x y : Code} {K : Kon} {v : Operand} {F G : Env → St → Res} (hc : c = .cond v x y) (hx : g24X x K = F) (hy : g24X y K = G) : g24X c K = condF v F G := cond_cut hc hx hy
noncomputable def g24k0 : Kon := kSeq (g24X (g24C [1, 1, 1, 1, 1, 1, 1, 1]) (g24kr)) (g24kr)
noncomputable def g24k1 : Kon := kBlk 2 (g24k0)
noncomputable def g24b1111111010 : Nat → V → V → V → V → V → V → St → Res
| 0, _, _, _, _, _, _, _ => none
| n + 1, x1, x2, x3, x5, x27, x28, st =>
 A.bin .lss x28 x27 fun a1 =>
 A.cond a1
 (A.faddr 3 x2 fun a2 =>
 A.load false 1 a2 st fun a3 _ =>
 A.noP (A.call g24T x5 [] st kid) fun a4 z5 =>
 A.chk (ldv false 1 a2 z5) a3
 (A.bslice 1 (.lst [] 1) 1 [(0, a4)] fun a6 =>
 A.noP (A.app 1 a3 (elemsOf 5 1 a6 z5) z5 kid) fun a7 z8 =>
 A.faddr 3 x2 fun a9 =>
 A.noP (A.store 1 a9 a7 z8 fun s => kid (.tup []) s) fun a10 z11 =>
 A.bin .add x28 (.int .i64 1) fun a12 =>
 (g24b1111111010 n) x1 x2 x3 x5 x27 a12 z11))
 (A.load true 4 x2 st fun a13 _ =>
 A.load false 1 x3 st fun a14 _ =>
 A.guard a14 true
 (A.load false 1 x1 st fun a15 _ =>
 A.eql 3 false a15 (.str []) fun a16 =>
 A.guard a16 true
 (A.load true 4 x2 st fun a17 _ =>
 A.noP (A.ret (s39 [a17.er1] st) kid) fun a18 z19 =>
 A.chk (ldv true 4 x2 z19) a13
 (A.noP (A.store 4 x2 a13 z19 fun s => kid (.tup []) s) fun a20 z21 =>
 A.noP (A.store 1 x3 a18 z21 fun s => kid (.tup []) s) fun a22 z23 =>
 A.res (rcell (A.load true 4 x2 z23 kid) (rcell (A.load false 1 x3 z23 kid) (some []))) z23))
 (A.noP (A.store 4 x2 a13 st fun s => kid (.tup []) s) fun a24 z25 =>
 A.noP (A.store 1 x3 (.bool false) z25 fun s => kid (.tup []) s) fun a26 z27 =>
 A.res (rcell (A.load true 4 x2 z27 kid) (rcell (A.load false 1 x3 z27 kid) (some []))) z27))
 (A.noP (A.store 4 x2 a13 st fun s => kid (.tup []) s) fun a28 z29 =>
 A.noP (A.store 1 x3 (.bool false) z29 fun s => kid (.tup []) s) fun a30 z31 =>
 A.res (rcell (A.load true 4 x2 z31 kid) (rcell (A.load false 1 x3 z31 kid) (some []))) z31))
theorem g24n1111111010 : g24C [1, 1, 1, 1, 1, 1, 1, 0, 1, 0] = .loop (g24C [1, 1, 1, 1, 1, 1, 1, 0, 1, 0, 0]) := by kernel_rfl
noncomputable def g24k2 (L1111111010 : V → V → V → V → V → V → St → Res) : Kon := kSeq (fun env st => L1111111010 (env 1) (env 2) (env 3) (env 5) (env 27) (env 28) st) (g24k1)
theorem g24e1111111010 : g24X (g24C [1, 1, 1, 1, 1, 1, 1, 0, 1, 0]) (g24k1) = fun env st => g24b1111111010 big (env 1) (env 2) (env 3) (env 5) (env 27) (env 28) st := by
  have key : ∀ n, aloop (g24X (g24C [1, 1, 1, 1, 1, 1, 1, 0, 1, 0, 0])) (g24k1) n = fun env st => g24b1111111010 n (env 1) (env 2) (env 3) (env 5) (env 27) (env 28) st := by
    intro n
    induction n with
    | zero => rfl
    | succ n ih =>
      have h : aloop (g24X (g24C [1, 1, 1, 1, 1, 1, 1, 0, 1, 0, 0])) (g24k1) (n + 1) = g24X (g24C [1, 1, 1, 1, 1, 1, 1, 0, 1, 0, 0]) (kSeq (aloop (g24X (g24C [1, 1, 1, 1, 1, 1, 1, 0, 1, 0, 0])) (g24k1) n) (g24k1)) := rfl
      rw [h, ih]
      refine Eq.trans (Eq.refl _) ?_
      funext env st
      kernel_rfl
  exact (g24loop g24n1111111010).trans (key big)
noncomputable def g24b111111 (x1 : V) (x2 : V) (x3 : V) (x4 : V) (x5 : V) (st : St) : Res :=
 A.call g24T x5 [] st fun a1 z2 =>
 A.faddr 2 x2 fun a3 =>
 A.store 1 a3 a1 z2 fun z4 =>
 A.call g24T x4 [(.int .i64 4096)] z4 fun a5 z6 =>
 g24b1111111010 big x1 x2 x3 x5 a5 (.int .i64 0) z6
theorem g24n111111 : g24C [1, 1, 1, 1, 1, 1] = .seq (g24C [1, 1, 1, 1, 1, 1, 0]) (g24C [1, 1, 1, 1, 1, 1, 1]) := by kernel_rfl
theorem g24n1111111 : g24C [1, 1, 1, 1, 1, 1, 1] = .seq (g24C [1, 1, 1, 1, 1, 1, 1, 0]) (g24C [1, 1, 1, 1, 1, 1, 1, 1]) := by kernel_rfl
theorem g24n11111110 : g24C [1, 1, 1, 1, 1, 1, 1, 0] = .seq (g24C [1, 1, 1, 1, 1, 1, 1, 0, 0]) (g24C [1, 1, 1, 1, 1, 1, 1, 0, 1]) := by kernel_rfl
theorem g24n111111101 : g24C [1, 1, 1, 1, 1, 1, 1, 0, 1] = .block 2 (g24C [1, 1, 1, 1, 1, 1, 1, 0, 1, 0]) := by kernel_rfl
theorem g24e111111 : g24X (g24C [1, 1, 1, 1, 1, 1]) (g24kr) = fun env st => g24b111111 (env 1) (env 2) (env 3) (env 4) (env 5) st := by
  refine Eq.trans (g24seq g24n111111 ((g24seq g24n1111111 rfl).trans (g24seq g24n11111110 ((g24blk g24n111111101).trans (g24e1111111010))))) ?_
  funext env st
  kernel_rfl
noncomputable def g24k3 : Kon := kSeq (fun env st => g24b111111 (env 1) (env 2) (env 3) (env 4) (env 5) st) (g24kr)
noncomputable def g24k4 : Kon := kBlk 0 (g24k3)
noncomputable def g24b11111010 : Nat → V → V → V → V → V → V → V → St → Res
| 0, _, _, _, _, _, _, _, _ => none
| n + 1, x1, x2, x3, x4, x5, x12, x13, st =>
 A.bin .lss x13 x12 fun a1 =>
 A.cond a1
 (A.faddr 1 x2 fun a2 =>
 A.load false 1 a2 st fun a3 _ =>
 A.noP (A.call g24T x4 [(.int .i64 4611686018427387903)] st kid) fun a4 z5 =>
 A.chk (ldv false 1 a2 z5) a3
 (A.bslice 1 (.int .i64 0) 1 [(0, a4)] fun a6 =>
 A.noP (A.app 1 a3 (elemsOf 5 1 a6 z5) z5 kid) fun a7 z8 =>
 A.faddr 1 x2 fun a9 =>
 A.noP (A.store 1 a9 a7 z8 fun s => kid (.tup []) s) fun a10 z11 =>
 A.bin .add x13 (.int .i64 1) fun a12 =>
 (g24b11111010 n) x1 x2 x3 x4 x5 x12 a12 z11))
 (g24b111111 x1 x2 x3 x4 x5 st)
theorem g24n11111010 : g24C [1, 1, 1, 1, 1, 0, 1, 0] = .loop (g24C [1, 1, 1, 1, 1, 0, 1, 0, 0]) := by kernel_rfl
noncomputable def g24k5 (L11111010 : V → V → V → V → V → V → V → St → Res) : Kon := kSeq (fun env st => L11111010 (env 1) (env 2) (env 3) (env 4) (env 5) (env 12) (env 13) st) (g24k4)
theorem g24e11111010 : g24X (g24C [1, 1, 1, 1, 1, 0, 1, 0]) (g24k4) = fun env st => g24b11111010 big (env 1) (env 2) (env 3) (env 4) (env 5) (env 12) (env 13) st := by
  have key : ∀ n, aloop (g24X (g24C [1, 1, 1, 1, 1, 0, 1, 0, 0])) (g24k4) n = fun env st => g24b11111010 n (env 1) (env 2) (env 3) (env 4) (env 5) (env 12) (env 13) st := by
    intro n
    induction n with
    | zero => rfl
    | succ n ih =>
      have h : aloop (g24X (g24C [1, 1, 1, 1, 1, 0, 1, 0, 0])) (g24k4) (n + 1) = g24X (g24C [1, 1, 1, 1, 1, 0, 1, 0, 0]) (kSeq (aloop (g24X (g24C [1, 1, 1, 1, 1, 0, 1, 0, 0])) (g24k4) n) (g24k4)) := rfl
      rw [h, ih]
      refine Eq.trans (Eq.refl _) ?_
      funext env st
      kernel_rfl
  exact (g24loop g24n11111010).trans (key big)
noncomputable def g24b11111 (x1 : V) (x2 : V) (x3 : V) (x4 : V) (x5 : V) (st : St) : Res :=
 A.call g24T x4 [(.int .i64 64)] st fun a1 z2 =>
 g24b11111010 big x1 x2 x3 x4 x5 a1 (.int .i64 0) z2
theorem g24n11111 : g24C [1, 1, 1, 1, 1] = .seq (g24C [1, 1, 1, 1, 1, 0]) (g24C [1, 1, 1, 1, 1, 1]) := by kernel_rfl
theorem g24n111110 : g24C [1, 1, 1, 1, 1, 0] = .seq (g24C [1, 1, 1, 1, 1, 0, 0]) (g24C [1, 1, 1, 1, 1, 0, 1]) := by kernel_rfl
theorem g24n1111101 : g24C [1, 1, 1, 1, 1, 0, 1] = .block 0 (g24C [1, 1, 1, 1, 1, 0, 1, 0]) := by kernel_rfl
theorem g24e11111 : g24X (g24C [1, 1, 1, 1, 1]) (g24kr) = fun env st => g24b11111 (env 1) (env 2) (env 3) (env 4) (env 5) st := by
  refine Eq.trans ((g24seq g24n11111 (g24e111111)).trans (g24seq g24n111110 ((g24blk g24n1111101).trans (g24e11111010)))) ?_
  funext env st
  kernel_rfl
noncomputable def f24 (x0 : V) (st : St) : Res :=
 A.box x0 st fun a1 z2 =>
 A.box (.agg [(.int .i64 0), (.lst [] 1), (.lst [] 1), (.lst [] 1)]) z2 fun a3 z4 =>
 A.box (.bool false) z4 fun a5 z6 =>
 A.store 1 a5 (.bool true) z6 fun z7 =>
 A.call g24T (.fn 35 [] [a1, a5]) [(.int .i64 255)] z7 fun a8 z9 =>
 A.faddr 0 a3 fun a10 =>
 A.store 1 a10 a8 z9 fun z11 =>
 g24b11111 a1 a3 a5 (.fn 35 [] [a1, a5]) (.fn 37 [] [a1, a5]) z11
theorem g24nr : g24C [] = .seq (g24C [0]) (g24C [1]) := by kernel_rfl
theorem g24n1 : g24C [1] = .seq (g24C [1, 0]) (g24C [1, 1]) := by kernel_rfl
theorem g24n11 : g24C [1, 1] = .seq (g24C [1, 1, 0]) (g24C [1, 1, 1]) := by kernel_rfl
theorem g24n111 : g24C [1, 1, 1] = .seq (g24C [1, 1, 1, 0]) (g24C [1, 1, 1, 1]) := by kernel_rfl
theorem g24n1111 : g24C [1, 1, 1, 1] = .seq (g24C [1, 1, 1, 1, 0]) (g24C [1, 1, 1, 1, 1]) := by kernel_rfl
theorem g24er (env : Env) (st : St) : g24X (g24C []) g24kr env st = f24 (env 0) st := by
  rw [(g24seq g24nr (g24seq g24n1 (g24seq g24n11 (g24seq g24n111 (g24seq g24n1111 (g24e11111))))))]
  kernel_rfl
theorem s24_eq (x0 : V) (st : St) : s24 [x0] st = fg (f24 x0 st) st := by
  have h : afn Try.prog g24mu g24T big (areg Try.prog g24mu g24T) 24 [x0] st = g24X (g24C []) g24kr (fun t => [x0].getD t (.tup [])) st := by kernel_rfl
  rw [s24, sealF_eq]
  show fg _ st = fg _ st
  refine congrArg (fun r => fg r st) ?_
  exact h.trans (g24er _ st)
/-! sinew/wire.Unpack -/
def g11mu : Nat → Bool := fun _ => false
noncomputable def g11T : Tbl := tget [(22, s22), (23, s23), (24, s24)]
theorem g11t : SimT Try.prog g11T := simT_cons sim22 ( simT_cons sim23 ( simT_cons sim24 (simT_nil)))
noncomputable def s11 : Fn := sealF (fun args st => fg (afn Try.prog g11mu g11T big (areg Try.prog g11mu g11T) 11 args st) st)
theorem sim11 : Sim Try.prog 11 s11 := (afn_sim g11t (fun m => areg_sound g11t hmix m) 11 (by kernel_rfl)).fg.sealed
noncomputable def g11C (p : List Nat) : Code := sub (match Try.f11.body with | some c => c | none => .skip) p
noncomputable def g11X (c : Code) (K : Kon) : Env → St → Res := aexec Try.prog g11mu g11T big 45 (areg Try.prog g11mu g11T 45) c K
noncomputable def g11kr : Kon := aresK Try.prog Try.f11.results.toList
theorem g11reg {c : Code} {K : Kon} {G : Env → St → Res} {id : Nat} {ops : Array Oper} {l1 l2 : List Nat} (hc : c = .region id ops false) (hl : List.range ops.size = l1 ++ l2) (h : (fun env st => aops Try.prog g11mu g11T 45 ops l2 env st (K .normal)) = G) : g11X c K = fun env st => aops Try.prog g11mu g11T 45 ops l1 env st G := reg_cut hc hl h
theorem g11seq {c x y : Code} {K : Kon} {G : Env → St → Res} (hc : c = .seq x y) (hy : g11X y K = G) : g11X c K = g11X x (kSeq G K) := seq_cut hc hy
theorem g11blk {c x : Code} {K : Kon} {i : Nat} (hc : c = .block i x) : g11X c K = g11X x (kBlk i K) := blk_cut hc
theorem g11loop {c x : Code} {K : Kon} (hc : c = .loop x) : g11X c K = aloop (g11X x) K big := loop_cut hc
theorem g11cond {c x y : Code} {K : Kon} {v : Operand} {F G : Env → St → Res} (hc : c = .cond v x y) (hx : g11X x K = F) (hy : g11X y K = G) : g11X c K = condF v F G := cond_cut hc hx hy
noncomputable def g11k0 : Kon := kSeq (g11X (g11C [1, 1, 1, 1, 1, 1]) (g11kr)) (g11kr)
noncomputable def g11b1111101 (x2 : V) (x3 : V) (x41 : V) (st : St) : Res :=
 A.cond x41
 (A.build [(.int .i64 0), (.lst [] 1), (.lst [] 1), (.lst [] 1)] [] fun a1 =>
 A.store 4 x2 a1 st fun z2 =>
 A.res (rcell (A.load true 4 x2 z2 kid) (rtmp (.int .i64 0) (rtmp (.int .i64 31) (some [])))) z2)
 (A.load true 4 x2 st fun a3 z4 =>
 A.store 4 x2 a3 z4 fun z5 =>
 A.res (rcell (A.load true 4 x2 z5 kid) (rtmp x3 (rtmp (.int .i64 0) (some [])))) z5)
theorem g11e1111101 : g11X (g11C [1, 1, 1, 1, 1, 0, 1]) (g11k0) = fun env st => g11b1111101 (env 2) (env 3) (env 41) st := by
  refine Eq.trans (Eq.refl (g11X (g11C [1, 1, 1, 1, 1, 0, 1]) (g11k0))) ?_
  funext env st
  kernel_rfl
noncomputable def g11b1111 (x0 : V) (x2 : V) (x3 : V) (st : St) : Res :=
 A.sliceS x0 (some (.int .i64 8)) (some x3) fun a1 =>
 A.ret (s24 [a1.er1] st) fun a2 z3 =>
 A.ext a2 0 fun a4 =>
 A.ext a2 1 fun a5 =>
 A.store 4 x2 a4 z3 fun z6 =>
 A.un .not a5 fun a7 =>
 g11b1111101 x2 x3 a7 z6
theorem g11n1111 : g11C [1, 1, 1, 1] = .seq (g11C [1, 1, 1, 1, 0]) (g11C [1, 1, 1, 1, 1]) := by kernel_rfl
theorem g11n11111 : g11C [1, 1, 1, 1, 1] = .seq (g11C [1, 1, 1, 1, 1, 0]) (g11C [1, 1, 1, 1, 1, 1]) := by kernel_rfl
theorem g11n111110 : g11C [1, 1, 1, 1, 1, 0] = .seq (g11C [1, 1, 1, 1, 1, 0, 0]) (g11C [1, 1, 1, 1, 1, 0, 1]) := by kernel_rfl
theorem g11e1111 : g11X (g11C [1, 1, 1, 1]) (g11kr) = fun env st => g11b1111 (env 0) (env 2) (env 3) st := by
  refine Eq.trans (g11seq g11n1111 ((g11seq g11n11111 rfl).trans (g11seq g11n111110 (g11e1111101)))) ?_
  funext env st
  kernel_rfl
noncomputable def g11k1 : Kon := kSeq (fun env st => g11b1111 (env 0) (env 2) (env 3) st) (g11kr)
noncomputable def g11k2 : Kon := kBlk 0 (g11k1)
noncomputable def g11b1110011111 (x0 : V) (x2 : V) (x3 : V) (x23 : V) (st : St) : Res :=
 A.cond x23
 (A.build [(.int .i64 0), (.lst [] 1), (.lst [] 1), (.lst [] 1)] [] fun a1 =>
 A.store 4 x2 a1 st fun z2 =>
 A.res (rcell (A.load true 4 x2 z2 kid) (rtmp (.int .i64 0) (rtmp (.int .i64 30) (some [])))) z2)
 (g11b1111 x0 x2 x3 st)
theorem g11e1110011111 : g11X (g11C [1, 1, 1, 0, 0, 1, 1, 1, 1, 1]) (g11k2) = fun env st => g11b1110011111 (env 0) (env 2) (env 3) (env 23) st := by
  refine Eq.trans (Eq.refl (g11X (g11C [1, 1, 1, 0, 0, 1, 1, 1, 1, 1]) (g11k2))) ?_
  funext env st
  kernel_rfl
noncomputable def g11b111 (x0 : V) (x2 : V) (x3 : V) (st : St) : Res :=
 A.bin .gtr x3 (.int .i64 1048584) fun a1 =>
 A.cond a1
 (A.build [(.int .i64 0), (.lst [] 1), (.lst [] 1), (.lst [] 1)] [] fun a2 =>
 A.store 4 x2 a2 st fun z3 =>
 A.res (rcell (A.load true 4 x2 z3 kid) (rtmp (.int .i64 0) (rtmp (.int .i64 31) (some [])))) z3)
 (A.lenS x0 fun a4 =>
 A.bin .gtr x3 a4 fun a5 =>
 A.cond a5
 (A.build [(.int .i64 0), (.lst [] 1), (.lst [] 1), (.lst [] 1)] [] fun a6 =>
 A.store 4 x2 a6 st fun z7 =>
 A.res (rcell (A.load true 4 x2 z7 kid) (rtmp (.int .i64 0) (rtmp (.int .i64 11) (some [])))) z7)
 (A.sliceS x0 (some (.int .i64 8)) (some x3) fun a8 =>
 A.noP (A.ret (s23 [a8.er1] st) kid) fun a9 z10 =>
 A.sliceS x0 (some (.int .i64 4)) none fun a11 =>
 A.noP (A.ret (s22 [a11.er1] z10) kid) fun a12 z13 =>
 A.eql 2 true a9 a12 fun a14 =>
 g11b1110011111 x0 x2 x3 a14 z13))
theorem g11n111 : g11C [1, 1, 1] = .seq (g11C [1, 1, 1, 0]) (g11C [1, 1, 1, 1]) := by kernel_rfl
theorem g11n1110 : g11C [1, 1, 1, 0] = .block 0 (g11C [1, 1, 1, 0, 0]) := by kernel_rfl
theorem g11n11100 : g11C [1, 1, 1, 0, 0] = .seq (g11C [1, 1, 1, 0, 0, 0]) (g11C [1, 1, 1, 0, 0, 1]) := by kernel_rfl
theorem g11n111001 : g11C [1, 1, 1, 0, 0, 1] = .cond (.tmp 13) (g11C [1, 1, 1, 0, 0, 1, 0]) (g11C [1, 1, 1, 0, 0, 1, 1]) := by kernel_rfl
theorem g11n1110011 : g11C [1, 1, 1, 0, 0, 1, 1] = .seq (g11C [1, 1, 1, 0, 0, 1, 1, 0]) (g11C [1, 1, 1, 0, 0, 1, 1, 1]) := by kernel_rfl
theorem g11n11100111 : g11C [1, 1, 1, 0, 0, 1, 1, 1] = .cond (.tmp 17) (g11C [1, 1, 1, 0, 0, 1, 1, 1, 0]) (g11C [1, 1, 1, 0, 0, 1, 1, 1, 1]) := by kernel_rfl
theorem g11n111001111 : g11C [1, 1, 1, 0, 0, 1, 1, 1, 1] = .seq (g11C [1, 1, 1, 0, 0, 1, 1, 1, 1, 0]) (g11C [1, 1, 1, 0, 0, 1, 1, 1, 1, 1]) := by kernel_rfl
theorem g11e111 : g11X (g11C [1, 1, 1]) (g11kr) = fun env st => g11b111 (env 0) (env 2) (env 3) st := by
  refine Eq.trans ((g11seq g11n111 (g11e1111)).trans ((g11blk g11n1110).trans (g11seq g11n11100 (g11cond g11n111001 rfl (g11seq g11n1110011 (g11cond g11n11100111 rfl (g11seq g11n111001111 (g11e1110011111)))))))) ?_
  funext env st
  kernel_rfl
noncomputable def f11 (x0 : V) (st : St) : Res :=
 A.box (.agg [(.int .i64 0), (.lst [] 1), (.lst [] 1), (.lst [] 1)]) st fun a1 z2 =>
 A.lenS x0 fun a3 =>
 A.bin .lss a3 (.int .i64 8) fun a4 =>
 A.cond a4
 (A.build [(.int .i64 0), (.lst [] 1), (.lst [] 1), (.lst [] 1)] [] fun a5 =>
 A.store 4 a1 a5 z2 fun z6 =>
 A.res (rcell (A.load true 4 a1 z6 kid) (rtmp (.int .i64 0) (rtmp (.int .i64 11) (some [])))) z6)
 (A.ret (s22 [x0.er1] z2) fun a7 z8 =>
 A.bin .add (.int .i64 8) a7 fun a9 =>
 g11b111 x0 a1 a9 z8)
theorem g11nr : g11C [] = .seq (g11C [0]) (g11C [1]) := by kernel_rfl
theorem g11n1 : g11C [1] = .seq (g11C [1, 0]) (g11C [1, 1]) := by kernel_rfl
theorem g11n11 : g11C [1, 1] = .seq (g11C [1, 1, 0]) (g11C [1, 1, 1]) := by kernel_rfl
theorem g11er (env : Env) (st : St) : g11X (g11C []) g11kr env st = f11 (env 0) st := by
  rw [(g11seq g11nr (g11seq g11n1 (g11seq g11n11 (g11e111))))]
  kernel_rfl
theorem s11_eq (x0 : V) (st : St) : s11 [x0] st = fg (f11 x0 st) st := by
  have h : afn Try.prog g11mu g11T big (areg Try.prog g11mu g11T) 11 [x0] st = g11X (g11C []) g11kr (fun t => [x0].getD t (.tup [])) st := by kernel_rfl
  rw [s11, sealF_eq]
  show fg _ st = fg _ st
  refine congrArg (fun r => fg r st) ?_
  exact h.trans (g11er _ st)
/-! sinew/wire.All -/
def g13mu : Nat → Bool := fun _ => false
noncomputable def g13T : Tbl := tget [(11, s11)]
theorem g13t : SimT Try.prog g13T := simT_cons sim11 (simT_nil)
noncomputable def s13 : Fn := sealF (fun args st => fg (afn Try.prog g13mu g13T big (areg Try.prog g13mu g13T) 13 args st) st)
theorem sim13 : Sim Try.prog 13 s13 := (afn_sim g13t (fun m => areg_sound g13t hmix m) 13 (by kernel_rfl)).fg.sealed
noncomputable def g13C (p : List Nat) : Code := sub (match Try.f13.body with | some c => c | none => .skip) p
noncomputable def g13X (c : Code) (K : Kon) : Env → St → Res := aexec Try.prog g13mu g13T big 26 (areg Try.prog g13mu g13T 26) c K
noncomputable def g13kr : Kon := aresK Try.prog Try.f13.results.toList
theorem g13reg {c : Code} {K : Kon} {G : Env → St → Res} {id : Nat} {ops : Array Oper} {l1 l2 : List Nat} (hc : c = .region id ops false) (hl : List.range ops.size = l1 ++ l2) (h : (fun env st => aops Try.prog g13mu g13T 26 ops l2 env st (K .normal)) = G) : g13X c K = fun env st => aops Try.prog g13mu g13T 26 ops l1 env st G := reg_cut hc hl h
theorem g13seq {c x y : Code} {K : Kon} {G : Env → St → Res} (hc : c = .seq x y) (hy : g13X y K = G) : g13X c K = g13X x (kSeq G K) := seq_cut hc hy
theorem g13blk {c x : Code} {K : Kon} {i : Nat} (hc : c = .block i x) : g13X c K = g13X x (kBlk i K) := blk_cut hc
theorem g13loop {c x : Code} {K : Kon} (hc : c = .loop x) : g13X c K = aloop (g13X x) K big := loop_cut hc
theorem g13cond {c x y : Code} {K : Kon} {v : Operand} {F G : Env → St → Res} (hc : c = .cond v x y) (hx : g13X x K = F) (hy : g13X y K = G) : g13X c K = condF v F G := cond_cut hc hx hy
noncomputable def g13k0 : Kon := kBlk 0 (g13kr)
noncomputable def g13k1 (L10 : V → V → V → St → Res) : Kon := kSeq (fun env st => L10 (env 0) (env 2) (env 3) st) (g13k0)
noncomputable def g13k2 (L10 : V → V → V → St → Res) : Kon := kBlk 1 (g13k1 L10)
noncomputable def g13b10001 (L10 : V → V → V → St → Res) (x0 : V) (x2 : V) (x3 : V) (x4 : V) (x5 : V) (x6 : V) (st : St) : Res :=
 A.eql 2 true x6 (.int .i64 0) fun a1 =>
 A.cond a1
 (some (.ret (.tup [x2.er1, x3.er1]), st))
 (A.load true 4 x4 st fun a2 z3 =>
 A.bslice 4 (.agg [(.int .i64 0), (.lst [] 1), (.lst [] 1), (.lst [] 1)]) 1 [(0, a2)] fun a4 =>
 A.app 4 x2 (elemsOf 5 4 a4 z3) z3 fun a5 z6 =>
 A.bin .add x3 x5 fun a7 =>
 L10 x0 a5 a7 z6)
theorem g13e10001 (L10 : V → V → V → St → Res) : g13X (g13C [1, 0, 0, 0, 1]) (g13k2 L10) = fun env st => g13b10001 L10 (env 0) (env 2) (env 3) (env 4) (env 5) (env 6) st := by
  refine Eq.trans (Eq.refl (g13X (g13C [1, 0, 0, 0, 1]) (g13k2 L10))) ?_
  funext env st
  kernel_rfl
noncomputable def g13b10 : Nat → V → V → V → St → Res
| 0, _, _, _, _ => none
| n + 1, x0, x2, x3, st =>
 A.sliceS x0 (some x3) none fun a1 =>
 A.ret (s11 [a1.er1] st) fun a2 z3 =>
 A.ext a2 0 fun a4 =>
 A.ext a2 1 fun a5 =>
 A.ext a2 2 fun a6 =>
 A.box (.agg [(.int .i64 0), (.lst [] 1), (.lst [] 1), (.lst [] 1)]) z3 fun a7 z8 =>
 A.store 4 a7 a4 z8 fun z9 =>
 g13b10001 (g13b10 n) x0 x2 x3 a7 a5 a6 z9
theorem g13n10 : g13C [1, 0] = .loop (g13C [1, 0, 0]) := by kernel_rfl
theorem g13n100 : g13C [1, 0, 0] = .block 1 (g13C [1, 0, 0, 0]) := by kernel_rfl
theorem g13n1000 : g13C [1, 0, 0, 0] = .seq (g13C [1, 0, 0, 0, 0]) (g13C [1, 0, 0, 0, 1]) := by kernel_rfl
theorem g13e10 : g13X (g13C [1, 0]) (g13k0) = fun env st => g13b10 big (env 0) (env 2) (env 3) st := by
  have key : ∀ n, aloop (g13X (g13C [1, 0, 0])) (g13k0) n = fun env st => g13b10 n (env 0) (env 2) (env 3) st := by
    intro n
    induction n with
    | zero => rfl
    | succ n ih =>
      have h : aloop (g13X (g13C [1, 0, 0])) (g13k0) (n + 1) = g13X (g13C [1, 0, 0]) (kSeq (aloop (g13X (g13C [1, 0, 0])) (g13k0) n) (g13k0)) := rfl
      rw [h, ih]
      refine Eq.trans ((g13blk g13n100).trans (g13seq g13n1000 (g13e10001 (g13b10 n)))) ?_
      funext env st
      kernel_rfl
  exact (g13loop g13n10).trans (key big)
noncomputable def f13 (x0 : V) (st : St) : Res :=
 g13b10 big x0 (.lst [] 1) (.int .i64 0) st
theorem g13nr : g13C [] = .seq (g13C [0]) (g13C [1]) := by kernel_rfl
theorem g13n1 : g13C [1] = .block 0 (g13C [1, 0]) := by kernel_rfl
theorem g13er (env : Env) (st : St) : g13X (g13C []) g13kr env st = f13 (env 0) st := by
  rw [(g13seq g13nr ((g13blk g13n1).trans (g13e10)))]
  kernel_rfl
theorem s13_eq (x0 : V) (st : St) : s13 [x0] st = fg (f13 x0 st) st := by
  have h : afn Try.prog g13mu g13T big (areg Try.prog g13mu g13T) 13 [x0] st = g13X (g13C []) g13kr (fun t => [x0].getD t (.tup [])) st := by kernel_rfl
  rw [s13, sealF_eq]
  show fg _ st = fg _ st
  refine congrArg (fun r => fg r st) ?_
  exact h.trans (g13er _ st)
/-! (*strings.Builder).Len -/
def g44mu : Nat → Bool := fun _ => false
noncomputable def g44T : Tbl := tget []
theorem g44t : SimT Try.prog g44T := simT_nil
noncomputable def s44 : Fn := sealF (afn Try.prog g44mu g44T big (areg Try.prog g44mu g44T) 44)
theorem sim44 : Sim Try.prog 44 s44 := (afn_sim g44t (fun m => areg_sound g44t hmix m) 44 (by kernel_rfl)).sealed
noncomputable def f44 (x0 : V) (st : St) : Res :=
 A.nilc x0 fun a1 =>
 A.faddr 1 a1 fun a2 =>
 A.load false 1 a2 st fun a3 z4 =>
 A.lenL a3 fun a5 =>
 some (.ret a5.er1, z4)
theorem s44_eq (x0 : V) (st : St) : s44 [x0] st = f44 x0 st := by
  rw [s44, sealF_eq]
  kernel_rfl
/-! (*strings.Builder).String -/
def g49mu : Nat → Bool := fun _ => false
noncomputable def g49T : Tbl := tget []
theorem g49t : SimT Try.prog g49T := simT_nil
noncomputable def s49 : Fn := sealF (afn Try.prog g49mu g49T big (areg Try.prog g49mu g49T) 49)
theorem sim49 : Sim Try.prog 49 s49 := (afn_sim g49t (fun m => areg_sound g49t hmix m) 49 (by kernel_rfl)).sealed
noncomputable def f49 (x0 : V) (st : St) : Res :=
 A.nilc x0 fun a1 =>
 A.faddr 1 a1 fun a2 =>
 A.load false 1 a2 st fun a3 _ =>
 A.noP (A.sdata a3 fun v => kid v st) fun a4 z5 =>
 A.nilc x0 fun a6 =>
 A.faddr 1 a6 fun a7 =>
 A.load false 1 a7 z5 fun a8 _ =>
 A.chk (ldv false 1 a7 st) a8
 (A.lenL a8 fun a9 =>
 A.noP (A.ustr a4 a9 z5 kid) fun a10 z11 =>
 some (.ret a10.er1, z11))
theorem s49_eq (x0 : V) (st : St) : s49 [x0] st = f49 x0 st := by
  rw [s49, sealF_eq]
  kernel_rfl
/-! (*strings.Builder).WriteString -/
def g46mu : Nat → Bool := fun _ => false
noncomputable def g46T : Tbl := tget [(61, s61)]
theorem g46t : SimT Try.prog g46T := simT_cons sim61 (simT_nil)
noncomputable def s46 : Fn := sealF (afn Try.prog g46mu g46T big (areg Try.prog g46mu g46T) 46)
theorem sim46 : Sim Try.prog 46 s46 := (afn_sim g46t (fun m => areg_sound g46t hmix m) 46 (by kernel_rfl)).sealed
noncomputable def f46 (x0 : V) (x1 : V) (st : St) : Res :=
 A.ret (s61 [x0.er1] st) fun a1 z2 =>
 A.nilc x0 fun a3 =>
 A.faddr 1 a3 fun a4 =>
 A.load false 1 a4 z2 fun a5 z6 =>
 A.appB 1 a5 (elemsOf 3 1 x1 z6) z6 fun a7 z8 =>
 A.nilc x0 fun a9 =>
 A.faddr 1 a9 fun a10 =>
 A.store 1 a10 a7 z8 fun z11 =>
 A.lenS x1 fun a12 =>
 some (.ret (.tup [a12.er1, (.if0 : V).er1]), z11)
theorem s46_eq (x0 : V) (x1 : V) (st : St) : s46 [x0, x1] st = f46 x0 x1 st := by
  rw [s46, sealF_eq]
  kernel_rfl
/-! sinew/octet.PutNum -/
def g48mu : Nat → Bool := fun _ => false
noncomputable def g48T : Tbl := tget []
theorem g48t : SimT Try.prog g48T := simT_nil
noncomputable def s48 : Fn := sealF (fun args st => fg (afn Try.prog g48mu g48T big (areg Try.prog g48mu g48T) 48 args st) st)
theorem sim48 : Sim Try.prog 48 s48 := (afn_sim g48t (fun m => areg_sound g48t hmix m) 48 (by kernel_rfl)).fg.sealed
noncomputable def g48C (p : List Nat) : Code := sub (match Try.f48.body with | some c => c | none => .skip) p
noncomputable def g48X (c : Code) (K : Kon) : Env → St → Res := aexec Try.prog g48mu g48T big 29 (areg Try.prog g48mu g48T 29) c K
noncomputable def g48kr : Kon := aresK Try.prog Try.f48.results.toList
theorem g48reg {c : Code} {K : Kon} {G : Env → St → Res} {id : Nat} {ops : Array Oper} {l1 l2 : List Nat} (hc : c = .region id ops false) (hl : List.range ops.size = l1 ++ l2) (h : (fun env st => aops Try.prog g48mu g48T 29 ops l2 env st (K .normal)) = G) : g48X c K = fun env st => aops Try.prog g48mu g48T 29 ops l1 env st G := reg_cut hc hl h
theorem g48seq {c x y : Code} {K : Kon} {G : Env → St → Res} (hc : c = .seq x y) (hy : g48X y K = G) : g48X c K = g48X x (kSeq G K) := seq_cut hc hy
theorem g48blk {c x : Code} {K : Kon} {i : Nat} (hc : c = .block i x) : g48X c K = g48X x (kBlk i K) := blk_cut hc
theorem g48loop {c x : Code} {K : Kon} (hc : c = .loop x) : g48X c K = aloop (g48X x) K big := loop_cut hc
theorem g48cond {c x y : Code} {K : Kon} {v : Operand} {F G : Env → St → Res} (hc : c = .cond v x y) (hx : g48X x K = F) (hy : g48X y K = G) : g48X c K = condF v F G := cond_cut hc hx hy
noncomputable def g48k0 : Kon := kSeq (g48X (g48C [1, 1, 1, 1, 1]) (g48kr)) (g48kr)
noncomputable def g48k1 : Kon := kBlk 0 (g48k0)
noncomputable def g48b111100 : Nat → V → V → V → St → Res
| 0, _, _, _, _ => none
| n + 1, x0, x4, x5, st =>
 A.bin .gtr x0 (.int .i64 0) fun a1 =>
 A.cond a1
 (A.bin .sub x5 (.int .i64 1) fun a2 =>
 A.toInt .u8 x0 fun a3 =>
 A.iaddrA 9 1 x4 a2 fun a4 =>
 A.store 1 a4 a3 st fun z5 =>
 A.bin .shr x0 (.int .u64 8) fun a6 =>
 (g48b111100 n) a6 x4 a2 z5)
 (A.bin .sub x5 (.int .i64 1) fun a7 =>
 A.bin .sub (.int .i64 9) a7 fun a8 =>
 A.bin .sub a8 (.int .i64 1) fun a9 =>
 A.toInt .u8 a9 fun a10 =>
 A.iaddrA 9 1 x4 a7 fun a11 =>
 A.store 1 a11 a10 st fun z12 =>
 A.sliceA 9 1 x4 (some a7) none z12 fun a13 =>
 A.toStr a13 z12 fun a14 =>
 some (.ret (.tup [a14.er1, ((.int .i64 0) : V).er1]), z12))
theorem g48n111100 : g48C [1, 1, 1, 1, 0, 0] = .loop (g48C [1, 1, 1, 1, 0, 0, 0]) := by kernel_rfl
noncomputable def g48k2 (L111100 : V → V → V → St → Res) : Kon := kSeq (fun env st => L111100 (env 0) (env 4) (env 5) st) (g48k1)
theorem g48e111100 : g48X (g48C [1, 1, 1, 1, 0, 0]) (g48k1) = fun env st => g48b111100 big (env 0) (env 4) (env 5) st := by
  have key : ∀ n, aloop (g48X (g48C [1, 1, 1, 1, 0, 0, 0])) (g48k1) n = fun env st => g48b111100 n (env 0) (env 4) (env 5) st := by
    intro n
    induction n with
    | zero => rfl
    | succ n ih =>
      have h : aloop (g48X (g48C [1, 1, 1, 1, 0, 0, 0])) (g48k1) (n + 1) = g48X (g48C [1, 1, 1, 1, 0, 0, 0]) (kSeq (aloop (g48X (g48C [1, 1, 1, 1, 0, 0, 0])) (g48k1) n) (g48k1)) := rfl
      rw [h, ih]
      refine Eq.trans (Eq.refl _) ?_
      funext env st
      kernel_rfl
  exact (g48loop g48n111100).trans (key big)
noncomputable def f48 (x0 : V) (st : St) : Res :=
 A.bin .lss x0 (.int .i64 0) fun a1 =>
 A.cond a1
 (some (.ret (.tup [((.str []) : V).er1, ((.int .i64 1) : V).er1]), st))
 (A.box (.agg [(.int .u8 0), (.int .u8 0), (.int .u8 0), (.int .u8 0), (.int .u8 0), (.int .u8 0), (.int .u8 0), (.int .u8 0), (.int .u8 0)]) st fun a2 z3 =>
 g48b111100 big x0 a2 (.int .i64 9) z3)
theorem g48nr : g48C [] = .seq (g48C [0]) (g48C [1]) := by kernel_rfl
theorem g48n1 : g48C [1] = .seq (g48C [1, 0]) (g48C [1, 1]) := by kernel_rfl
theorem g48n11 : g48C [1, 1] = .seq (g48C [1, 1, 0]) (g48C [1, 1, 1]) := by kernel_rfl
theorem g48n111 : g48C [1, 1, 1] = .seq (g48C [1, 1, 1, 0]) (g48C [1, 1, 1, 1]) := by kernel_rfl
theorem g48n1111 : g48C [1, 1, 1, 1] = .seq (g48C [1, 1, 1, 1, 0]) (g48C [1, 1, 1, 1, 1]) := by kernel_rfl
theorem g48n11110 : g48C [1, 1, 1, 1, 0] = .block 0 (g48C [1, 1, 1, 1, 0, 0]) := by kernel_rfl
theorem g48er (env : Env) (st : St) : g48X (g48C []) g48kr env st = f48 (env 0) st := by
  rw [(g48seq g48nr (g48seq g48n1 (g48seq g48n11 (g48seq g48n111 ((g48seq g48n1111 rfl).trans ((g48blk g48n11110).trans (g48e111100)))))))]
  kernel_rfl
theorem s48_eq (x0 : V) (st : St) : s48 [x0] st = fg (f48 x0 st) st := by
  have h : afn Try.prog g48mu g48T big (areg Try.prog g48mu g48T) 48 [x0] st = g48X (g48C []) g48kr (fun t => [x0].getD t (.tup [])) st := by kernel_rfl
  rw [s48, sealF_eq]
  show fg _ st = fg _ st
  refine congrArg (fun r => fg r st) ?_
  exact h.trans (g48er _ st)
/-! sinew/octet.PutStr -/
def g60mu : Nat → Bool := fun _ => false
noncomputable def g60T : Tbl := tget [(48, s48)]
theorem g60t : SimT Try.prog g60T := simT_cons sim48 (simT_nil)
noncomputable def s60 : Fn := sealF (afn Try.prog g60mu g60T big (areg Try.prog g60mu g60T) 60)
theorem sim60 : Sim Try.prog 60 s60 := (afn_sim g60t (fun m => areg_sound g60t hmix m) 60 (by kernel_rfl)).sealed
noncomputable def g60C (p : List Nat) : Code := sub (match Try.f60.body with | some c => c | none => .skip) p
noncomputable def g60X (c : Code) (K : Kon) : Env → St → Res := aexec Try.prog g60mu g60T big 18 (areg Try.prog g60mu g60T 18) c K
noncomputable def g60kr : Kon := aresK Try.prog Try.f60.results.toList
theorem g60reg {c : Code} {K : Kon} {G : Env → St → Res} {id : Nat} {ops : Array Oper} {l1 l2 : List Nat} (hc : c = .region id ops false) (hl : List.range ops.size = l1 ++ l2) (h : (fun env st => aops Try.prog g60mu g60T 18 ops l2 env st (K .normal)) = G) : g60X c K = fun env st => aops Try.prog g60mu g60T 18 ops l1 env st G := reg_cut hc hl h
theorem g60seq {c x y : Code} {K : Kon} {G : Env → St → Res} (hc : c = .seq x y) (hy : g60X y K = G) : g60X c K = g60X x (kSeq G K) := seq_cut hc hy
theorem g60blk {c x : Code} {K : Kon} {i : Nat} (hc : c = .block i x) : g60X c K = g60X x (kBlk i K) := blk_cut hc
theorem g60loop {c x : Code} {K : Kon} (hc : c = .loop x) : g60X c K = aloop (g60X x) K big := loop_cut hc
theorem g60cond {c x y : Code} {K : Kon} {v : Operand} {F G : Env → St → Res} (hc : c = .cond v x y) (hx : g60X x K = F) (hy : g60X y K = G) : g60X c K = condF v F G := cond_cut hc hx hy
noncomputable def g60b111 (x0 : V) (x4 : V) (st : St) : Res :=
 A.bin .add x4 x0 fun a1 =>
 some (.ret (.tup [a1.er1, ((.int .i64 0) : V).er1]), st)
theorem g60e111 : g60X (g60C [1, 1, 1]) (g60kr) = fun env st => g60b111 (env 0) (env 4) st := by
  refine Eq.trans (Eq.refl (g60X (g60C [1, 1, 1]) (g60kr))) ?_
  funext env st
  kernel_rfl
noncomputable def f60 (x0 : V) (st : St) : Res :=
 A.lenS x0 fun a1 =>
 A.bin .gtr a1 (.int .i64 65536) fun a2 =>
 A.cond a2
 (some (.ret (.tup [((.str []) : V).er1, ((.int .i64 12) : V).er1]), st))
 (A.lenS x0 fun a3 =>
 A.ret (s48 [a3.er1] st) fun a4 z5 =>
 A.ext a4 0 fun a6 =>
 A.ext a4 1 fun a7 =>
 g60b111 x0 a6 z5)
theorem g60nr : g60C [] = .seq (g60C [0]) (g60C [1]) := by kernel_rfl
theorem g60n1 : g60C [1] = .seq (g60C [1, 0]) (g60C [1, 1]) := by kernel_rfl
theorem g60n11 : g60C [1, 1] = .seq (g60C [1, 1, 0]) (g60C [1, 1, 1]) := by kernel_rfl
theorem g60er (env : Env) (st : St) : g60X (g60C []) g60kr env st = f60 (env 0) st := by
  rw [(g60seq g60nr (g60seq g60n1 (g60seq g60n11 (g60e111))))]
  kernel_rfl
theorem s60_eq (x0 : V) (st : St) : s60 [x0] st = f60 x0 st := by
  have h : afn Try.prog g60mu g60T big (areg Try.prog g60mu g60T) 60 [x0] st = g60X (g60C []) g60kr (fun t => [x0].getD t (.tup [])) st := by kernel_rfl
  rw [s60, sealF_eq]
  exact h.trans (g60er _ st)
/-! sinew/octet.PutList -/
def g45mu : Nat → Bool := fun _ => false
noncomputable def g45T : Tbl := tget [(46, s46), (48, s48), (49, s49), (60, s60)]
theorem g45t : SimT Try.prog g45T := simT_cons sim46 ( simT_cons sim48 ( simT_cons sim49 ( simT_cons sim60 (simT_nil))))
noncomputable def s45 : Fn := sealF (fun args st => fg (afn Try.prog g45mu g45T big (areg Try.prog g45mu g45T) 45 args st) st)
theorem sim45 : Sim Try.prog 45 s45 := (afn_sim g45t (fun m => areg_sound g45t hmix m) 45 (by kernel_rfl)).fg.sealed
noncomputable def g45C (p : List Nat) : Code := sub (match Try.f45.body with | some c => c | none => .skip) p
noncomputable def g45X (c : Code) (K : Kon) : Env → St → Res := aexec Try.prog g45mu g45T big 40 (areg Try.prog g45mu g45T 40) c K
noncomputable def g45kr : Kon := aresK Try.prog Try.f45.results.toList
theorem g45reg {c : Code} {K : Kon} {G : Env → St → Res} {id : Nat} {ops : Array Oper} {l1 l2 : List Nat} (hc : c = .region id ops false) (hl : List.range ops.size = l1 ++ l2) (h : (fun env st => aops Try.prog g45mu g45T 40 ops l2 env st (K .normal)) = G) : g45X c K = fun env st => aops Try.prog g45mu g45T 40 ops l1 env st G := reg_cut hc hl h
theorem g45seq {c x y : Code} {K : Kon} {G : Env → St → Res} (hc : c = .seq x y) (hy : g45X y K = G) : g45X c K = g45X x (kSeq G K) := seq_cut hc hy
theorem g45blk {c x : Code} {K : Kon} {i : Nat} (hc : c = .block i x) : g45X c K = g45X x (kBlk i K) := blk_cut hc
theorem g45loop {c x : Code} {K : Kon} (hc : c = .loop x) : g45X c K = aloop (g45X x) K big := loop_cut hc
theorem g45cond {c x y : Code} {K : Kon} {v : Operand} {F G : Env → St → Res} (hc : c = .cond v x y) (hx : g45X x K = F) (hy : g45X y K = G) : g45X c K = condF v F G := cond_cut hc hx hy
noncomputable def g45k0 : Kon := kSeq (g45X (g45C [1, 1, 1, 1, 1, 1]) (g45kr)) (g45kr)
noncomputable def g45k1 : Kon := kBlk 0 (g45k0)
noncomputable def g45k2 (L11111010 : V → V → V → V → St → Res) : Kon := kSeq (fun env st => L11111010 (env 4) (env 22) (env 23) (env 24) st) (g45k1)
noncomputable def g45k3 (L11111010 : V → V → V → V → St → Res) : Kon := kSeq (g45X (g45C [1, 1, 1, 1, 1, 0, 1, 0, 0, 1, 1, 1]) (g45k2 L11111010)) (g45k2 L11111010)
noncomputable def g45k4 (L11111010 : V → V → V → V → St → Res) : Kon := kBlk 1 (g45k3 L11111010)
noncomputable def g45b111110100110011 (L11111010 : V → V → V → V → St → Res) (x4 : V) (x9 : V) (x10 : V) (x22 : V) (x23 : V) (x24 : V) (st : St) : Res :=
 A.eql 2 true x10 (.int .i64 0) fun a1 =>
 A.cond a1
 (some (.ret (.tup [((.str []) : V).er1, x10.er1]), st))
 (A.ret (s46 [x4.er1, x9.er1] st) fun a2 z3 =>
 A.bin .add x24 (.int .i64 1) fun a4 =>
 L11111010 x4 x22 x23 a4 z3)
theorem g45e111110100110011 (L11111010 : V → V → V → V → St → Res) : g45X (g45C [1, 1, 1, 1, 1, 0, 1, 0, 0, 1, 1, 0, 0, 1, 1]) (g45k4 L11111010) = fun env st => g45b111110100110011 L11111010 (env 4) (env 9) (env 10) (env 22) (env 23) (env 24) st := by
  refine Eq.trans (Eq.refl (g45X (g45C [1, 1, 1, 1, 1, 0, 1, 0, 0, 1, 1, 0, 0, 1, 1]) (g45k4 L11111010))) ?_
  funext env st
  kernel_rfl
noncomputable def g45b11111010 : Nat → V → V → V → V → St → Res
| 0, _, _, _, _, _ => none
| n + 1, x4, x22, x23, x24, st =>
 A.bin .lss x24 x23 fun a1 =>
 A.cond a1
 (A.iaddr 1 x22 x24 fun a2 =>
 A.load false 1 a2 st fun a3 z4 =>
 A.ret (s60 [a3.er1] z4) fun a5 z6 =>
 A.ext a5 0 fun a7 =>
 A.ext a5 1 fun a8 =>
 g45b111110100110011 (g45b11111010 n) x4 a7 a8 x22 x23 x24 z6)
 (A.ret (s49 [x4.er1] st) fun a9 z10 =>
 some (.ret (.tup [a9.er1, ((.int .i64 0) : V).er1]), z10))
theorem g45n11111010 : g45C [1, 1, 1, 1, 1, 0, 1, 0] = .loop (g45C [1, 1, 1, 1, 1, 0, 1, 0, 0]) := by kernel_rfl
theorem g45n111110100 : g45C [1, 1, 1, 1, 1, 0, 1, 0, 0] = .seq (g45C [1, 1, 1, 1, 1, 0, 1, 0, 0, 0]) (g45C [1, 1, 1, 1, 1, 0, 1, 0, 0, 1]) := by kernel_rfl
theorem g45n1111101001 : g45C [1, 1, 1, 1, 1, 0, 1, 0, 0, 1] = .seq (g45C [1, 1, 1, 1, 1, 0, 1, 0, 0, 1, 0]) (g45C [1, 1, 1, 1, 1, 0, 1, 0, 0, 1, 1]) := by kernel_rfl
theorem g45n11111010011 : g45C [1, 1, 1, 1, 1, 0, 1, 0, 0, 1, 1] = .seq (g45C [1, 1, 1, 1, 1, 0, 1, 0, 0, 1, 1, 0]) (g45C [1, 1, 1, 1, 1, 0, 1, 0, 0, 1, 1, 1]) := by kernel_rfl
theorem g45n111110100110 : g45C [1, 1, 1, 1, 1, 0, 1, 0, 0, 1, 1, 0] = .block 1 (g45C [1, 1, 1, 1, 1, 0, 1, 0, 0, 1, 1, 0, 0]) := by kernel_rfl
theorem g45n1111101001100 : g45C [1, 1, 1, 1, 1, 0, 1, 0, 0, 1, 1, 0, 0] = .seq (g45C [1, 1, 1, 1, 1, 0, 1, 0, 0, 1, 1, 0, 0, 0]) (g45C [1, 1, 1, 1, 1, 0, 1, 0, 0, 1, 1, 0, 0, 1]) := by kernel_rfl
theorem g45n11111010011001 : g45C [1, 1, 1, 1, 1, 0, 1, 0, 0, 1, 1, 0, 0, 1] = .seq (g45C [1, 1, 1, 1, 1, 0, 1, 0, 0, 1, 1, 0, 0, 1, 0]) (g45C [1, 1, 1, 1, 1, 0, 1, 0, 0, 1, 1, 0, 0, 1, 1]) := by kernel_rfl
theorem g45e11111010 : g45X (g45C [1, 1, 1, 1, 1, 0, 1, 0]) (g45k1) = fun env st => g45b11111010 big (env 4) (env 22) (env 23) (env 24) st := by
  have key : ∀ n, aloop (g45X (g45C [1, 1, 1, 1, 1, 0, 1, 0, 0])) (g45k1) n = fun env st => g45b11111010 n (env 4) (env 22) (env 23) (env 24) st := by
    intro n
    induction n with
    | zero => rfl
    | succ n ih =>
      have h : aloop (g45X (g45C [1, 1, 1, 1, 1, 0, 1, 0, 0])) (g45k1) (n + 1) = g45X (g45C [1, 1, 1, 1, 1, 0, 1, 0, 0]) (kSeq (aloop (g45X (g45C [1, 1, 1, 1, 1, 0, 1, 0, 0])) (g45k1) n) (g45k1)) := rfl
      rw [h, ih]
      refine Eq.trans (g45seq g45n111110100 (g45seq g45n1111101001 ((g45seq g45n11111010011 rfl).trans ((g45blk g45n111110100110).trans (g45seq g45n1111101001100 (g45seq g45n11111010011001 (g45e111110100110011 (g45b11111010 n)))))))) ?_
      funext env st
      kernel_rfl
  exact (g45loop g45n11111010).trans (key big)
noncomputable def g45b1111 (x0 : V) (x4 : V) (x5 : V) (st : St) : Res :=
 A.ret (s46 [x4.er1, x5.er1] st) fun a1 z2 =>
 A.lenL x0 fun a3 =>
 g45b11111010 big x4 x0 a3 (.int .i64 0) z2
theorem g45n1111 : g45C [1, 1, 1, 1] = .seq (g45C [1, 1, 1, 1, 0]) (g45C [1, 1, 1, 1, 1]) := by kernel_rfl
theorem g45n11111 : g45C [1, 1, 1, 1, 1] = .seq (g45C [1, 1, 1, 1, 1, 0]) (g45C [1, 1, 1, 1, 1, 1]) := by kernel_rfl
theorem g45n111110 : g45C [1, 1, 1, 1, 1, 0] = .seq (g45C [1, 1, 1, 1, 1, 0, 0]) (g45C [1, 1, 1, 1, 1, 0, 1]) := by kernel_rfl
theorem g45n1111101 : g45C [1, 1, 1, 1, 1, 0, 1] = .block 0 (g45C [1, 1, 1, 1, 1, 0, 1, 0]) := by kernel_rfl
theorem g45e1111 : g45X (g45C [1, 1, 1, 1]) (g45kr) = fun env st => g45b1111 (env 0) (env 4) (env 5) st := by
  refine Eq.trans (g45seq g45n1111 ((g45seq g45n11111 rfl).trans (g45seq g45n111110 ((g45blk g45n1111101).trans (g45e11111010))))) ?_
  funext env st
  kernel_rfl
noncomputable def f45 (x0 : V) (st : St) : Res :=
 A.lenL x0 fun a1 =>
 A.bin .gtr a1 (.int .i64 4096) fun a2 =>
 A.cond a2
 (some (.ret (.tup [((.str []) : V).er1, ((.int .i64 12) : V).er1]), st))
 (A.newB 66 (.agg [.ptr0, (.lst [] 1)]) st fun a3 z4 =>
 A.lenL x0 fun a5 =>
 A.ret (s48 [a5.er1] z4) fun a6 z7 =>
 A.ext a6 0 fun a8 =>
 A.ext a6 1 fun a9 =>
 g45b1111 x0 a3 a8 z7)
theorem g45nr : g45C [] = .seq (g45C [0]) (g45C [1]) := by kernel_rfl
theorem g45n1 : g45C [1] = .seq (g45C [1, 0]) (g45C [1, 1]) := by kernel_rfl
theorem g45n11 : g45C [1, 1] = .seq (g45C [1, 1, 0]) (g45C [1, 1, 1]) := by kernel_rfl
theorem g45n111 : g45C [1, 1, 1] = .seq (g45C [1, 1, 1, 0]) (g45C [1, 1, 1, 1]) := by kernel_rfl
theorem g45er (env : Env) (st : St) : g45X (g45C []) g45kr env st = f45 (env 0) st := by
  rw [(g45seq g45nr (g45seq g45n1 (g45seq g45n11 (g45seq g45n111 (g45e1111)))))]
  kernel_rfl
theorem s45_eq (x0 : V) (st : St) : s45 [x0] st = fg (f45 x0 st) st := by
  have h : afn Try.prog g45mu g45T big (areg Try.prog g45mu g45T) 45 [x0] st = g45X (g45C []) g45kr (fun t => [x0].getD t (.tup [])) st := by kernel_rfl
  rw [s45, sealF_eq]
  show fg _ st = fg _ st
  refine congrArg (fun r => fg r st) ?_
  exact h.trans (g45er _ st)
/-! sinew/wire.body$1 -/
def g43mu : Nat → Bool := fun _ => false
noncomputable def g43T : Tbl := tget [(44, s44), (45, s45), (46, s46)]
theorem g43t : SimT Try.prog g43T := simT_cons sim44 ( simT_cons sim45 ( simT_cons sim46 (simT_nil)))
noncomputable def s43 : Fn := sealF (afn Try.prog g43mu g43T big (areg Try.prog g43mu g43T) 43)
theorem sim43 : Sim Try.prog 43 s43 := (afn_sim g43t (fun m => areg_sound g43t hmix m) 43 (by kernel_rfl)).sealed
noncomputable def g43C (p : List Nat) : Code := sub (match Try.f43.body with | some c => c | none => .skip) p
noncomputable def g43X (c : Code) (K : Kon) : Env → St → Res := aexec Try.prog g43mu g43T big 20 (areg Try.prog g43mu g43T 20) c K
noncomputable def g43kr : Kon := aresK Try.prog Try.f43.results.toList
theorem g43reg {c : Code} {K : Kon} {G : Env → St → Res} {id : Nat} {ops : Array Oper} {l1 l2 : List Nat} (hc : c = .region id ops false) (hl : List.range ops.size = l1 ++ l2) (h : (fun env st => aops Try.prog g43mu g43T 20 ops l2 env st (K .normal)) = G) : g43X c K = fun env st => aops Try.prog g43mu g43T 20 ops l1 env st G := reg_cut hc hl h
theorem g43seq {c x y : Code} {K : Kon} {G : Env → St → Res} (hc : c = .seq x y) (hy : g43X y K = G) : g43X c K = g43X x (kSeq G K) := seq_cut hc hy
theorem g43blk {c x : Code} {K : Kon} {i : Nat} (hc : c = .block i x) : g43X c K = g43X x (kBlk i K) := blk_cut hc
theorem g43loop {c x : Code} {K : Kon} (hc : c = .loop x) : g43X c K = aloop (g43X x) K big := loop_cut hc
theorem g43cond {c x y : Code} {K : Kon} {v : Operand} {F G : Env → St → Res} (hc : c = .cond v x y) (hx : g43X x K = F) (hy : g43X y K = G) : g43X c K = condF v F G := cond_cut hc hx hy
noncomputable def g43b1 (x0 : V) (x1 : V) (x2 : V) (st : St) : Res :=
 A.load false 1 x1 st fun a1 z2 =>
 A.un .not a1 fun a3 =>
 A.cond a3
 (A.ret (s45 [x0.er1] z2) fun a4 z5 =>
 A.ext a4 0 fun a6 =>
 A.ext a4 1 fun a7 =>
 A.ret (s46 [x2.er1, a6.er1] z5) fun a8 z9 =>
 some (.ret (.tup []), z9))
 (some (.ret (.tup []), z2))
theorem g43e1 : g43X (g43C [1]) (g43kr) = fun env st => g43b1 (env 0) (env 1) (env 2) st := by
  refine Eq.trans (Eq.refl (g43X (g43C [1]) (g43kr))) ?_
  funext env st
  kernel_rfl
noncomputable def f43 (x0 : V) (x1 : V) (x2 : V) (st : St) : Res :=
 A.load false 1 x1 st fun a1 z2 =>
 A.guard a1 false
 (A.ret (s44 [x2.er1] z2) fun a3 z4 =>
 A.bin .gtr a3 (.int .i64 1048576) fun a5 =>
 A.store 1 x1 a5 z4 fun z6 =>
 g43b1 x0 x1 x2 z6)
 (A.store 1 x1 (.bool true) z2 fun z7 =>
 g43b1 x0 x1 x2 z7)
theorem g43nr : g43C [] = .seq (g43C [0]) (g43C [1]) := by kernel_rfl
theorem g43er (env : Env) (st : St) : g43X (g43C []) g43kr env st = f43 (env 0) (env 1) (env 2) st := by
  rw [(g43seq g43nr (g43e1))]
  kernel_rfl
theorem s43_eq (x0 : V) (x1 : V) (x2 : V) (st : St) : s43 [x0, x1, x2] st = f43 x0 x1 x2 st := by
  have h : afn Try.prog g43mu g43T big (areg Try.prog g43mu g43T) 43 [x0, x1, x2] st = g43X (g43C []) g43kr (fun t => [x0, x1, x2].getD t (.tup [])) st := by kernel_rfl
  rw [s43, sealF_eq]
  exact h.trans (g43er _ st)
end Go.Ab
