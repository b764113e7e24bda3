import Derived.Test.YtimicmlpaaohoaaAbQuiet
import Derived.Test.YtimicmlpaaohoaaAbP156
namespace Go.Ab
open Go.Proofs
set_option linter.unusedVariables false
set_option maxRecDepth 100000
/-! sinew/sinewlaw15.begun -/
def g24mu : Nat → Bool := fun _ => false
noncomputable def g24T : Tbl := tget [(9, s9)]
theorem g24t : SimT Try.prog g24T := simT_cons sim9 (simT_nil)
noncomputable def s24 : Fn := sealF (afn Try.prog g24mu g24T big (areg Try.prog g24mu g24T) 24)
theorem sim24 : Sim Try.prog 24 s24 := (afn_sim g24t (fun m => areg_sound g24t hmix m) 24 (by kernel_rfl)).sealed
noncomputable def g24C (p : List Nat) : Code := sub (match Try.f24.body with | some c => c | none => .skip) p
noncomputable def g24X (c : Code) (K : Kon) : Env → St → Res := aexec Try.prog g24mu g24T big 39 (areg Try.prog g24mu g24T 39) c K
noncomputable def g24kr : Kon := aresK Try.prog Try.f24.results.toList
theorem g24reg {c : Code} {K : Kon} {G : Env → St → Res} {id : Nat} {ops : Array Oper} {l1 l2 : List Nat} (hc : c = .region id ops false) (hl : List.range ops.size = l1 ++ l2) (h : (fun env st => aops Try.prog g24mu g24T 39 ops l2 env st (K .normal)) = G) : g24X c K = fun env st => aops Try.prog g24mu g24T 39 ops l1 env st G := reg_cut hc hl h
theorem g24seq {c x y : Code} {K : Kon} {G : Env → St → Res} (hc : c = .seq x y) (hy : g24X y K = G) : g24X c K = g24X x (kSeq G K) := seq_cut hc hy
theorem g24blk {c x : Code} {K : Kon} {i : Nat} (hc : c = .block i x) : g24X c K = g24X x (kBlk i K) := blk_cut hc
theorem g24loop {c x : Code} {K : Kon} (hc : c = .loop x) : g24X c K = aloop (g24X x) K big := loop_cut hc
theorem g24cond {c x y : Code} {K : Kon} {v : Operand} {F G : Env → St → Res} (hc : c = .cond v x y) (hx : g24X x K = F) (hy : g24X y K = G) : g24X c K = condF v F G := cond_cut hc hx hy
noncomputable def g24k0 : Kon := kSeq (g24X (g24C [1, 1, 1]) (g24kr)) (g24kr)
noncomputable def g24k1 : Kon := kBlk 0 (g24k0)
noncomputable def g24k2 (L11010 : V → V → V → St → Res) : Kon := kSeq (fun env st => L11010 (env 0) (env 3) (env 4) st) (g24k1)
noncomputable def g24k3 (L11010 : V → V → V → St → Res) : Kon := kSeq (g24X (g24C [1, 1, 0, 1, 0, 0, 1, 1]) (g24k2 L11010)) (g24k2 L11010)
noncomputable def g24k4 (L11010 : V → V → V → St → Res) : Kon := kBlk 1 (g24k3 L11010)
noncomputable def g24bz2vn (L11010 : V → V → V → St → Res) (x0 : V) (x3 : V) (x4 : V) (x5 : V) (st : St) : Res :=
 A.nilc x3 fun a1 =>
 A.faddr 0 a1 fun a2 =>
 A.iaddrA 2 1 a2 x4 fun a3 =>
 A.store 1 a3 x5 st fun z4 =>
 A.bin .add x4 (.int .i64 1) fun a5 =>
 L11010 x0 x3 a5 z4
theorem g24ez2vn (L11010 : V → V → V → St → Res) : g24X (g24C [1, 1, 0, 1, 0, 0, 1, 0, 0, 1, 1]) (g24k4 L11010) = fun env st => g24bz2vn L11010 (env 0) (env 3) (env 4) (env 5) st := by
  refine Eq.trans (Eq.refl (g24X (g24C [1, 1, 0, 1, 0, 0, 1, 0, 0, 1, 1]) (g24k4 L11010))) ?_
  funext env st
  kernel_rfl
noncomputable def g24k5 (L11010 : V → V → V → St → Res) : Kon := kSeq (fun env st => g24bz2vn L11010 (env 0) (env 3) (env 4) (env 5) st) (g24k4 L11010)
noncomputable def g24bz5r9 (L11010 : V → V → V → St → Res) (x0 : V) (x3 : V) (x4 : V) (x5 : V) (x28 : V) (st : St) : Res :=
 A.cond x28
 (A.nilc x3 fun a1 =>
 A.faddr 8 a1 fun a2 =>
 A.store 1 a2 (.bool false) st fun z3 =>
 g24bz2vn L11010 x0 x3 x4 x5 z3)
 (g24bz2vn L11010 x0 x3 x4 x5 st)
theorem g24ez5r9 (L11010 : V → V → V → St → Res) : g24X (g24C [1, 1, 0, 1, 0, 0, 1, 0, 0, 1, 0, 1]) (g24k5 L11010) = fun env st => g24bz5r9 L11010 (env 0) (env 3) (env 4) (env 5) (env 28) st := by
  refine Eq.trans (Eq.refl (g24X (g24C [1, 1, 0, 1, 0, 0, 1, 0, 0, 1, 0, 1]) (g24k5 L11010))) ?_
  funext env st
  kernel_rfl
noncomputable def g24bz1ft (L11010 : V → V → V → St → Res) (x0 : V) (x3 : V) (x4 : V) (x5 : V) (x6 : V) (st : St) : Res :=
 A.eql 2 true x6 (.int .i64 0) fun a1 =>
 A.guard a1 false
 (A.eql 4 false x5 .ptr0 fun a2 =>
 g24bz5r9 L11010 x0 x3 x4 x5 a2 st)
 (g24bz5r9 L11010 x0 x3 x4 x5 (.bool true) st)
theorem g24nz1ft : g24C [1, 1, 0, 1, 0, 0, 1, 0, 0, 1] = .seq (g24C [1, 1, 0, 1, 0, 0, 1, 0, 0, 1, 0]) (g24C [1, 1, 0, 1, 0, 0, 1, 0, 0, 1, 1]) := by kernel_rfl
theorem g24nz2vm : g24C [1, 1, 0, 1, 0, 0, 1, 0, 0, 1, 0] = .seq (g24C [1, 1, 0, 1, 0, 0, 1, 0, 0, 1, 0, 0]) (g24C [1, 1, 0, 1, 0, 0, 1, 0, 0, 1, 0, 1]) := by kernel_rfl
theorem g24ez1ft (L11010 : V → V → V → St → Res) : g24X (g24C [1, 1, 0, 1, 0, 0, 1, 0, 0, 1]) (g24k4 L11010) = fun env st => g24bz1ft L11010 (env 0) (env 3) (env 4) (env 5) (env 6) st := by
  refine Eq.trans ((g24seq g24nz1ft (g24ez2vn L11010)).trans (g24seq g24nz2vm (g24ez5r9 L11010))) ?_
  funext env st
  kernel_rfl
noncomputable def g24b11010 : Nat → V → V → V → St → Res
| 0, _, _, _, _ => none
| n + 1, x0, x3, x4, st =>
 A.bin .lss x4 (.int .i64 2) fun a1 =>
 A.cond a1
 (A.bin .mul (.int .i64 4) x4 fun a2 =>
 A.bin .shr x0 a2 fun a3 =>
 A.bin .and a3 (.int .i64 15) fun a4 =>
 A.bin .add (.int .i64 1) a4 fun a5 =>
 A.ret (s9 [a5.er1] st) fun a6 z7 =>
 A.ext a6 0 fun a8 =>
 A.ext a6 1 fun a9 =>
 g24bz1ft (g24b11010 n) x0 x3 x4 a8 a9 z7)
 (some (.ret x3.er1, st))
theorem g24n11010 : g24C [1, 1, 0, 1, 0] = .loop (g24C [1, 1, 0, 1, 0, 0]) := by kernel_rfl
theorem g24nz38 : g24C [1, 1, 0, 1, 0, 0] = .seq (g24C [1, 1, 0, 1, 0, 0, 0]) (g24C [1, 1, 0, 1, 0, 0, 1]) := by kernel_rfl
theorem g24nz6h : g24C [1, 1, 0, 1, 0, 0, 1] = .seq (g24C [1, 1, 0, 1, 0, 0, 1, 0]) (g24C [1, 1, 0, 1, 0, 0, 1, 1]) := by kernel_rfl
theorem g24nzcy : g24C [1, 1, 0, 1, 0, 0, 1, 0] = .block 1 (g24C [1, 1, 0, 1, 0, 0, 1, 0, 0]) := by kernel_rfl
theorem g24nzpw : g24C [1, 1, 0, 1, 0, 0, 1, 0, 0] = .seq (g24C [1, 1, 0, 1, 0, 0, 1, 0, 0, 0]) (g24C [1, 1, 0, 1, 0, 0, 1, 0, 0, 1]) := by kernel_rfl
theorem g24e11010 : g24X (g24C [1, 1, 0, 1, 0]) (g24k1) = fun env st => g24b11010 big (env 0) (env 3) (env 4) st := by
  have key : ∀ n, aloop (g24X (g24C [1, 1, 0, 1, 0, 0])) (g24k1) n = fun env st => g24b11010 n (env 0) (env 3) (env 4) st := by
    intro n
    induction n with
    | zero => rfl
    | succ n ih =>
      have h : aloop (g24X (g24C [1, 1, 0, 1, 0, 0])) (g24k1) (n + 1) = g24X (g24C [1, 1, 0, 1, 0, 0]) (kSeq (aloop (g24X (g24C [1, 1, 0, 1, 0, 0])) (g24k1) n) (g24k1)) := rfl
      rw [h, ih]
      refine Eq.trans (g24seq g24nz38 ((g24seq g24nz6h rfl).trans ((g24blk g24nzcy).trans (g24seq g24nzpw (g24ez1ft (g24b11010 n)))))) ?_
      funext env st
      kernel_rfl
  exact (g24loop g24n11010).trans (key big)
noncomputable def f24 (x0 : V) (st : St) : Res :=
 A.build [.ptr0, .ptr0, (.lst [] 1), (.lst [] 1), (.lst [] 1), (.lst [] 1), (.lst [] 1), (.lst [] 1), (.bool false)] [(8, 1, (.bool true))] fun a1 =>
 A.box a1 st fun a2 z3 =>
 g24b11010 big x0 a2 (.int .i64 0) z3
theorem g24nr : g24C [] = .seq (g24C [0]) (g24C [1]) := by kernel_rfl
theorem g24n1 : g24C [1] = .seq (g24C [1, 0]) (g24C [1, 1]) := by kernel_rfl
theorem g24n11 : g24C [1, 1] = .seq (g24C [1, 1, 0]) (g24C [1, 1, 1]) := by kernel_rfl
theorem g24n110 : g24C [1, 1, 0] = .seq (g24C [1, 1, 0, 0]) (g24C [1, 1, 0, 1]) := by kernel_rfl
theorem g24n1101 : g24C [1, 1, 0, 1] = .block 0 (g24C [1, 1, 0, 1, 0]) := by kernel_rfl
theorem g24er (env : Env) (st : St) : g24X (g24C []) g24kr env st = f24 (env 0) st := by
  rw [(g24seq g24nr (g24seq g24n1 ((g24seq g24n11 rfl).trans (g24seq g24n110 ((g24blk g24n1101).trans (g24e11010))))))]
  kernel_rfl
theorem s24_eq (x0 : V) (st : St) : s24 [x0] st = f24 x0 st := by
  have h : afn Try.prog g24mu g24T big (areg Try.prog g24mu g24T) 24 [x0] st = g24X (g24C []) g24kr (fun t => [x0].getD t (.tup [])) st := by kernel_rfl
  rw [s24, sealF_eq]
  exact h.trans (g24er _ st)
/-! (*sinew/sinewlaw15.line).sends -/
def g27mu : Nat → Bool := fun _ => false
noncomputable def g27T : Tbl := tget []
theorem g27t : SimT Try.prog g27T := simT_nil
noncomputable def s27 : Fn := sealF (afn Try.prog g27mu g27T big (areg Try.prog g27mu g27T) 27)
theorem sim27 : Sim Try.prog 27 s27 := (afn_sim g27t (fun m => areg_sound g27t hmix m) 27 (by kernel_rfl)).sealed
noncomputable def g27C (p : List Nat) : Code := sub (match Try.f27.body with | some c => c | none => .skip) p
noncomputable def g27X (c : Code) (K : Kon) : Env → St → Res := aexec Try.prog g27mu g27T big 31 (areg Try.prog g27mu g27T 31) c K
noncomputable def g27kr : Kon := aresK Try.prog Try.f27.results.toList
theorem g27reg {c : Code} {K : Kon} {G : Env → St → Res} {id : Nat} {ops : Array Oper} {l1 l2 : List Nat} (hc : c = .region id ops false) (hl : List.range ops.size = l1 ++ l2) (h : (fun env st => aops Try.prog g27mu g27T 31 ops l2 env st (K .normal)) = G) : g27X c K = fun env st => aops Try.prog g27mu g27T 31 ops l1 env st G := reg_cut hc hl h
theorem g27seq {c x y : Code} {K : Kon} {G : Env → St → Res} (hc : c = .seq x y) (hy : g27X y K = G) : g27X c K = g27X x (kSeq G K) := seq_cut hc hy
theorem g27blk {c x : Code} {K : Kon} {i : Nat} (hc : c = .block i x) : g27X c K = g27X x (kBlk i K) := blk_cut hc
theorem g27loop {c x : Code} {K : Kon} (hc : c = .loop x) : g27X c K = aloop (g27X x) K big := loop_cut hc
theorem g27cond {c x y : Code} {K : Kon} {v : Operand} {F G : Env → St → Res} (hc : c = .cond v x y) (hx : g27X x K = F) (hy : g27X y K = G) : g27X c K = condF v F G := cond_cut hc hx hy
noncomputable def g27b1011 (x0 : V) (x1 : V) (x2 : V) (x6 : V) (st : St) : Res :=
 A.noP (A.app 1 x6 (elemsOf 5 1 x2 st) st kid) fun a1 z2 =>
 A.nilc x0 fun a3 =>
 A.faddr 2 a3 fun a4 =>
 A.iaddrA 2 1 a4 x1 fun a5 =>
 A.noP (A.store 1 a5 a1 z2 fun s => kid (.tup []) s) fun a6 z7 =>
 some (.ret (.tup []), z7)
theorem g27e1011 : g27X (g27C [1, 0, 1, 1]) (g27kr) = fun env st => g27b1011 (env 0) (env 1) (env 2) (env 6) st := by
  refine Eq.trans (Eq.refl (g27X (g27C [1, 0, 1, 1]) (g27kr))) ?_
  funext env st
  kernel_rfl
noncomputable def f27 (x0 : V) (x1 : V) (x2 : V) (st : St) : Res :=
 A.nilc x0 fun a1 =>
 A.faddr 2 a1 fun a2 =>
 A.iaddrA 2 1 a2 x1 fun a3 =>
 A.load false 1 a3 st fun a4 z5 =>
 A.lenL a4 fun a6 =>
 A.bin .lss a6 (.int .i64 300) fun a7 =>
 A.cond a7
 (A.nilc x0 fun a8 =>
 A.faddr 2 a8 fun a9 =>
 A.iaddrA 2 1 a9 x1 fun a10 =>
 A.load false 1 a10 z5 fun a11 z12 =>
 A.app 1 (.lst [] 1) (elemsOf 5 1 a11 z12) z12 fun a13 z14 =>
 g27b1011 x0 x1 x2 a13 z14)
 (some (.ret (.tup []), z5))
theorem g27nr : g27C [] = .seq (g27C [0]) (g27C [1]) := by kernel_rfl
theorem g27n1 : g27C [1] = .cond (.tmp 14) (g27C [1, 0]) (g27C [1, 1]) := by kernel_rfl
theorem g27n10 : g27C [1, 0] = .seq (g27C [1, 0, 0]) (g27C [1, 0, 1]) := by kernel_rfl
theorem g27n101 : g27C [1, 0, 1] = .seq (g27C [1, 0, 1, 0]) (g27C [1, 0, 1, 1]) := by kernel_rfl
theorem g27er (env : Env) (st : St) : g27X (g27C []) g27kr env st = f27 (env 0) (env 1) (env 2) st := by
  rw [(g27seq g27nr (g27cond g27n1 (g27seq g27n10 (g27seq g27n101 (g27e1011))) rfl))]
  kernel_rfl
theorem s27_eq (x0 : V) (x1 : V) (x2 : V) (st : St) : s27 [x0, x1, x2] st = f27 x0 x1 x2 st := by
  have h : afn Try.prog g27mu g27T big (areg Try.prog g27mu g27T) 27 [x0, x1, x2] st = g27X (g27C []) g27kr (fun t => [x0, x1, x2].getD t (.tup [])) st := by kernel_rfl
  rw [s27, sealF_eq]
  exact h.trans (g27er _ st)
/-! (*sinew/sinewlaw15.line).comes -/
def g28mu : Nat → Bool := fun _ => false
noncomputable def g28T : Tbl := tget [(19, s19), (27, s27)]
theorem g28t : SimT Try.prog g28T := simT_cons sim19 ( simT_cons sim27 (simT_nil))
noncomputable def s28 : Fn := sealF (afn Try.prog g28mu g28T big (areg Try.prog g28mu g28T) 28)
theorem sim28 : Sim Try.prog 28 s28 := (afn_sim g28t (fun m => areg_sound g28t hmix m) 28 (by kernel_rfl)).sealed
noncomputable def g28C (p : List Nat) : Code := sub (match Try.f28.body with | some c => c | none => .skip) p
noncomputable def g28X (c : Code) (K : Kon) : Env → St → Res := aexec Try.prog g28mu g28T big 134 (areg Try.prog g28mu g28T 134) c K
noncomputable def g28kr : Kon := aresK Try.prog Try.f28.results.toList
theorem g28reg {c : Code} {K : Kon} {G : Env → St → Res} {id : Nat} {ops : Array Oper} {l1 l2 : List Nat} (hc : c = .region id ops false) (hl : List.range ops.size = l1 ++ l2) (h : (fun env st => aops Try.prog g28mu g28T 134 ops l2 env st (K .normal)) = G) : g28X c K = fun env st => aops Try.prog g28mu g28T 134 ops l1 env st G := reg_cut hc hl h
theorem g28seq {c x y : Code} {K : Kon} {G : Env → St → Res} (hc : c = .seq x y) (hy : g28X y K = G) : g28X c K = g28X x (kSeq G K) := seq_cut hc hy
theorem g28blk {c x : Code} {K : Kon} {i : Nat} (hc : c = .block i x) : g28X c K = g28X x (kBlk i K) := blk_cut hc
theorem g28loop {c x : Code} {K : Kon} (hc : c = .loop x) : g28X c K = aloop (g28X x) K big := loop_cut hc
theorem g28cond {c x y : Code} {K : Kon} {v : Operand} {F G : Env → St → Res} (hc : c = .cond v x y) (hx : g28X x K = F) (hy : g28X y K = G) : g28X c K = condF v F G := cond_cut hc hx hy
noncomputable def g28k0 : Kon := kSeq (g28X (g28C [1, 1, 1, 1, 1, 1, 1]) (g28kr)) (g28kr)
noncomputable def g28k1 : Kon := kBlk 0 (g28k0)
noncomputable def g28k2 (Lzsa : V → V → V → V → St → Res) : Kon := kSeq (fun env st => Lzsa (env 0) (env 1) (env 10) (env 11) st) (g28k1)
noncomputable def g28k3 (Lzsa : V → V → V → V → St → Res) : Kon := kSeq (g28X (g28C [1, 1, 1, 1, 1, 1, 0, 1, 0, 0, 1, 1]) (g28k2 Lzsa)) (g28k2 Lzsa)
noncomputable def g28k4 (Lzsa : V → V → V → V → St → Res) : Kon := kBlk 1 (g28k3 Lzsa)
noncomputable def g28k5 (Lzsa : V → V → V → V → St → Res) : Kon := kSeq (g28X (g28C [1, 1, 1, 1, 1, 1, 0, 1, 0, 0, 1, 0, 0, 1]) (g28k4 Lzsa)) (g28k4 Lzsa)
noncomputable def g28bz1ea9 (Lzsa : V → V → V → V → St → Res) (x0 : V) (x1 : V) (x10 : V) (x11 : V) (x103 : V) (st : St) : Res :=
 A.cond x103
 (A.nilc x0 fun a1 =>
 A.faddr 8 a1 fun a2 =>
 A.store 1 a2 (.bool false) st fun z3 =>
 some (.ret (.tup []), z3))
 (A.nilc x0 fun a4 =>
 A.faddr 6 a4 fun a5 =>
 A.iaddrA 2 1 a5 x1 fun a6 =>
 A.load false 1 a6 st fun a7 _ =>
 A.faddr 0 x10 fun a8 =>
 A.load false 1 a8 st fun a9 _ =>
 A.iaddr 4 a9 x11 fun a10 =>
 A.faddr 1 a10 fun a11 =>
 A.load false 1 a11 st fun a12 _ =>
 A.iaddr 1 a12 (.int .i64 0) fun a13 =>
 A.load false 1 a13 st fun a14 _ =>
 A.bslice 1 (.int .i64 0) 1 [(0, a14)] fun a15 =>
 A.noP (A.app 1 a7 (elemsOf 5 1 a15 st) st kid) fun a16 z17 =>
 A.nilc x0 fun a18 =>
 A.faddr 6 a18 fun a19 =>
 A.iaddrA 2 1 a19 x1 fun a20 =>
 A.noP (A.store 1 a20 a16 z17 fun s => kid (.tup []) s) fun a21 z22 =>
 A.bin .add x11 (.int .i64 1) fun a23 =>
 Lzsa x0 x1 x10 a23 z22)
theorem g28ez1ea9 (Lzsa : V → V → V → V → St → Res) : g28X (g28C [1, 1, 1, 1, 1, 1, 0, 1, 0, 0, 1, 0, 0, 0, 1]) (g28k5 Lzsa) = fun env st => g28bz1ea9 Lzsa (env 0) (env 1) (env 10) (env 11) (env 103) st := by
  refine Eq.trans (Eq.refl (g28X (g28C [1, 1, 1, 1, 1, 1, 0, 1, 0, 0, 1, 0, 0, 0, 1]) (g28k5 Lzsa))) ?_
  funext env st
  kernel_rfl
noncomputable def g28k6 (Lzsa : V → V → V → V → St → Res) : Kon := kSeq (fun env st => g28bz1ea9 Lzsa (env 0) (env 1) (env 10) (env 11) (env 103) st) (g28k5 Lzsa)
noncomputable def g28bz1ea8_8 (Lzsa : V → V → V → V → St → Res) (x0 : V) (x1 : V) (x10 : V) (x11 : V) (x94 : V) (st : St) : Res :=
 A.guard x94 false
 (A.faddr 0 x10 fun a1 =>
 A.load false 1 a1 st fun a2 z3 =>
 A.iaddr 4 a2 x11 fun a4 =>
 A.faddr 1 a4 fun a5 =>
 A.load false 1 a5 z3 fun a6 z7 =>
 A.lenL a6 fun a8 =>
 A.eql 2 true a8 (.int .i64 1) fun a9 =>
 g28bz1ea9 Lzsa x0 x1 x10 x11 a9 z7)
 (g28bz1ea9 Lzsa x0 x1 x10 x11 (.bool true) st)
theorem g28ez1ea8_8 (Lzsa : V → V → V → V → St → Res) : (fun env st => aops Try.prog g28mu g28T 134 (rops (g28C [1, 1, 1, 1, 1, 1, 0, 1, 0, 0, 1, 0, 0, 0, 0])) [8, 9, 10, 11, 12, 13, 14, 15, 16] env st ((g28k6 Lzsa) .normal)) = fun env st => g28bz1ea8_8 Lzsa (env 0) (env 1) (env 10) (env 11) (env 94) st := by
  refine Eq.trans (Eq.refl _) ?_
  funext env st
  kernel_rfl
noncomputable def g28bzsa : Nat → V → V → V → V → St → Res
| 0, _, _, _, _, _ => none
| n + 1, x0, x1, x10, x11, st =>
 A.faddr 0 x10 fun a1 =>
 A.load false 1 a1 st fun a2 z3 =>
 A.lenL a2 fun a4 =>
 A.bin .lss x11 a4 fun a5 =>
 A.cond a5
 (A.faddr 0 x10 fun a6 =>
 A.load false 1 a6 z3 fun a7 z8 =>
 A.iaddr 4 a7 x11 fun a9 =>
 A.faddr 0 a9 fun a10 =>
 A.load false 1 a10 z8 fun a11 z12 =>
 A.eql 2 true a11 (.int .i64 5) fun a13 =>
 g28bz1ea8_8 (g28bzsa n) x0 x1 x10 x11 a13 z12)
 (A.bin .sub (.int .i64 1) x1 fun a14 =>
 A.faddr 1 x10 fun a15 =>
 A.load false 1 a15 z3 fun a16 z17 =>
 A.ret (s27 [x0.er1, a14.er1, a16.er1] z17) fun a18 z19 =>
 some (.ret (.tup []), z19))
theorem g28nzsa : g28C [1, 1, 1, 1, 1, 1, 0, 1, 0] = .loop (g28C [1, 1, 1, 1, 1, 1, 0, 1, 0, 0]) := by kernel_rfl
theorem g28nz1kk : g28C [1, 1, 1, 1, 1, 1, 0, 1, 0, 0] = .seq (g28C [1, 1, 1, 1, 1, 1, 0, 1, 0, 0, 0]) (g28C [1, 1, 1, 1, 1, 1, 0, 1, 0, 0, 1]) := by kernel_rfl
theorem g28nz355 : g28C [1, 1, 1, 1, 1, 1, 0, 1, 0, 0, 1] = .seq (g28C [1, 1, 1, 1, 1, 1, 0, 1, 0, 0, 1, 0]) (g28C [1, 1, 1, 1, 1, 1, 0, 1, 0, 0, 1, 1]) := by kernel_rfl
theorem g28nz6aa : g28C [1, 1, 1, 1, 1, 1, 0, 1, 0, 0, 1, 0] = .block 1 (g28C [1, 1, 1, 1, 1, 1, 0, 1, 0, 0, 1, 0, 0]) := by kernel_rfl
theorem g28nzckk : g28C [1, 1, 1, 1, 1, 1, 0, 1, 0, 0, 1, 0, 0] = .seq (g28C [1, 1, 1, 1, 1, 1, 0, 1, 0, 0, 1, 0, 0, 0]) (g28C [1, 1, 1, 1, 1, 1, 0, 1, 0, 0, 1, 0, 0, 1]) := by kernel_rfl
theorem g28nzp54 : g28C [1, 1, 1, 1, 1, 1, 0, 1, 0, 0, 1, 0, 0, 0] = .seq (g28C [1, 1, 1, 1, 1, 1, 0, 1, 0, 0, 1, 0, 0, 0, 0]) (g28C [1, 1, 1, 1, 1, 1, 0, 1, 0, 0, 1, 0, 0, 0, 1]) := by kernel_rfl
theorem g28rgz1ea8 : g28C [1, 1, 1, 1, 1, 1, 0, 1, 0, 0, 1, 0, 0, 0, 0] = .region 13 (rops (g28C [1, 1, 1, 1, 1, 1, 0, 1, 0, 0, 1, 0, 0, 0, 0])) false := by kernel_rfl
theorem g28rgz1ea8l : List.range (rops (g28C [1, 1, 1, 1, 1, 1, 0, 1, 0, 0, 1, 0, 0, 0, 0])).size = [0, 1, 2, 3, 4, 5, 6, 7] ++ [8, 9, 10, 11, 12, 13, 14, 15, 16] := by kernel_rfl
theorem g28ezsa : g28X (g28C [1, 1, 1, 1, 1, 1, 0, 1, 0]) (g28k1) = fun env st => g28bzsa big (env 0) (env 1) (env 10) (env 11) st := by
  have key : ∀ n, aloop (g28X (g28C [1, 1, 1, 1, 1, 1, 0, 1, 0, 0])) (g28k1) n = fun env st => g28bzsa n (env 0) (env 1) (env 10) (env 11) st := by
    intro n
    induction n with
    | zero => rfl
    | succ n ih =>
      have h : aloop (g28X (g28C [1, 1, 1, 1, 1, 1, 0, 1, 0, 0])) (g28k1) (n + 1) = g28X (g28C [1, 1, 1, 1, 1, 1, 0, 1, 0, 0]) (kSeq (aloop (g28X (g28C [1, 1, 1, 1, 1, 1, 0, 1, 0, 0])) (g28k1) n) (g28k1)) := rfl
      rw [h, ih]
      refine Eq.trans (g28seq g28nz1kk ((g28seq g28nz355 rfl).trans ((g28blk g28nz6aa).trans ((g28seq g28nzckk rfl).trans ((g28seq g28nzp54 (g28ez1ea9 (g28bzsa n))).trans (g28reg g28rgz1ea8 g28rgz1ea8l (g28ez1ea8_8 (g28bzsa n)))))))) ?_
      funext env st
      kernel_rfl
  exact (g28loop g28nzsa).trans (key big)
noncomputable def g28bz3j (x0 : V) (x1 : V) (x10 : V) (st : St) : Res :=
 g28bzsa big x0 x1 x10 (.int .i64 0) st
theorem g28nz3j : g28C [1, 1, 1, 1, 1, 1] = .seq (g28C [1, 1, 1, 1, 1, 1, 0]) (g28C [1, 1, 1, 1, 1, 1, 1]) := by kernel_rfl
theorem g28nz72 : g28C [1, 1, 1, 1, 1, 1, 0] = .seq (g28C [1, 1, 1, 1, 1, 1, 0, 0]) (g28C [1, 1, 1, 1, 1, 1, 0, 1]) := by kernel_rfl
theorem g28nze5 : g28C [1, 1, 1, 1, 1, 1, 0, 1] = .block 0 (g28C [1, 1, 1, 1, 1, 1, 0, 1, 0]) := by kernel_rfl
theorem g28ez3j : g28X (g28C [1, 1, 1, 1, 1, 1]) (g28kr) = fun env st => g28bz3j (env 0) (env 1) (env 10) st := by
  refine Eq.trans ((g28seq g28nz3j rfl).trans (g28seq g28nz72 ((g28blk g28nze5).trans (g28ezsa)))) ?_
  funext env st
  kernel_rfl
noncomputable def g28k7 : Kon := kSeq (fun env st => g28bz3j (env 0) (env 1) (env 10) st) (g28kr)
noncomputable def g28bz71 (x0 : V) (x1 : V) (x10 : V) (x76 : V) (st : St) : Res :=
 A.cond x76
 (A.nilc x0 fun a1 =>
 A.faddr 8 a1 fun a2 =>
 A.store 1 a2 (.bool false) st fun z3 =>
 g28bz3j x0 x1 x10 z3)
 (g28bz3j x0 x1 x10 st)
theorem g28ez71 : g28X (g28C [1, 1, 1, 1, 1, 0, 1]) (g28k7) = fun env st => g28bz71 (env 0) (env 1) (env 10) (env 76) st := by
  refine Eq.trans (Eq.refl (g28X (g28C [1, 1, 1, 1, 1, 0, 1]) (g28k7))) ?_
  funext env st
  kernel_rfl
noncomputable def g28b1111 (x0 : V) (x1 : V) (x8 : V) (st : St) : Res :=
 A.nilc x0 fun a1 =>
 A.faddr 0 a1 fun a2 =>
 A.iaddrA 2 1 a2 x1 fun a3 =>
 A.load false 1 a3 st fun a4 z5 =>
 A.ret (s19 [a4.er1, x8.er1] z5) fun a6 z7 =>
 A.box (.agg [(.lst [] 1), (.lst [] 1), (.bool false)]) z7 fun a8 z9 =>
 A.store 3 a8 a6 z9 fun z10 =>
 A.faddr 2 a8 fun a11 =>
 A.load false 1 a11 z10 fun a12 z13 =>
 g28bz71 x0 x1 a8 a12 z13
theorem g28n1111 : g28C [1, 1, 1, 1] = .seq (g28C [1, 1, 1, 1, 0]) (g28C [1, 1, 1, 1, 1]) := by kernel_rfl
theorem g28n11111 : g28C [1, 1, 1, 1, 1] = .seq (g28C [1, 1, 1, 1, 1, 0]) (g28C [1, 1, 1, 1, 1, 1]) := by kernel_rfl
theorem g28nz3i : g28C [1, 1, 1, 1, 1, 0] = .seq (g28C [1, 1, 1, 1, 1, 0, 0]) (g28C [1, 1, 1, 1, 1, 0, 1]) := by kernel_rfl
theorem g28e1111 : g28X (g28C [1, 1, 1, 1]) (g28kr) = fun env st => g28b1111 (env 0) (env 1) (env 8) st := by
  refine Eq.trans (g28seq g28n1111 ((g28seq g28n11111 (g28ez3j)).trans (g28seq g28nz3i (g28ez71)))) ?_
  funext env st
  kernel_rfl
noncomputable def g28k8 : Kon := kSeq (fun env st => g28b1111 (env 0) (env 1) (env 8) st) (g28kr)
noncomputable def g28bzdn (x0 : V) (x1 : V) (x2 : V) (x8 : V) (x9 : V) (st : St) : Res :=
 A.nilc x0 fun a1 =>
 A.faddr 2 a1 fun a2 =>
 A.iaddrA 2 1 a2 x1 fun a3 =>
 A.load false 1 a3 st fun a4 _ =>
 A.bin .add x2 (.int .i64 1) fun a5 =>
 A.slice 1 a4 (some a5) none none fun a6 =>
 A.noP (A.app 1 x9 (elemsOf 5 1 a6 st) st kid) fun a7 z8 =>
 A.nilc x0 fun a9 =>
 A.faddr 2 a9 fun a10 =>
 A.iaddrA 2 1 a10 x1 fun a11 =>
 A.noP (A.store 1 a11 a7 z8 fun s => kid (.tup []) s) fun a12 z13 =>
 g28b1111 x0 x1 x8 z13
theorem g28ezdn : g28X (g28C [1, 1, 1, 0, 1, 0, 1, 1]) (g28k8) = fun env st => g28bzdn (env 0) (env 1) (env 2) (env 8) (env 9) st := by
  refine Eq.trans (Eq.refl (g28X (g28C [1, 1, 1, 0, 1, 0, 1, 1]) (g28k8))) ?_
  funext env st
  kernel_rfl
noncomputable def g28b11101 (x0 : V) (x1 : V) (x2 : V) (x8 : V) (x40 : V) (st : St) : Res :=
 A.cond x40
 (A.nilc x0 fun a1 =>
 A.faddr 2 a1 fun a2 =>
 A.iaddrA 2 1 a2 x1 fun a3 =>
 A.load false 1 a3 st fun a4 z5 =>
 A.slice 1 a4 none (some x2) none fun a6 =>
 A.app 1 (.lst [] 1) (elemsOf 5 1 a6 z5) z5 fun a7 z8 =>
 g28bzdn x0 x1 x2 x8 a7 z8)
 (g28b1111 x0 x1 x8 st)
theorem g28n11101 : g28C [1, 1, 1, 0, 1] = .cond (.tmp 40) (g28C [1, 1, 1, 0, 1, 0]) (g28C [1, 1, 1, 0, 1, 1]) := by kernel_rfl
theorem g28nz3e : g28C [1, 1, 1, 0, 1, 0] = .seq (g28C [1, 1, 1, 0, 1, 0, 0]) (g28C [1, 1, 1, 0, 1, 0, 1]) := by kernel_rfl
theorem g28nz6t : g28C [1, 1, 1, 0, 1, 0, 1] = .seq (g28C [1, 1, 1, 0, 1, 0, 1, 0]) (g28C [1, 1, 1, 0, 1, 0, 1, 1]) := by kernel_rfl
theorem g28e11101 : g28X (g28C [1, 1, 1, 0, 1]) (g28k8) = fun env st => g28b11101 (env 0) (env 1) (env 2) (env 8) (env 40) st := by
  refine Eq.trans (g28cond g28n11101 (g28seq g28nz3e (g28seq g28nz6t (g28ezdn))) rfl) ?_
  funext env st
  kernel_rfl
noncomputable def g28b11 (x0 : V) (x1 : V) (x2 : V) (x3 : V) (st : St) : Res :=
 A.nilc x0 fun a1 =>
 A.faddr 2 a1 fun a2 =>
 A.iaddrA 2 1 a2 x1 fun a3 =>
 A.load false 1 a3 st fun a4 z5 =>
 A.iaddr 1 a4 x2 fun a6 =>
 A.load false 1 a6 z5 fun a7 z8 =>
 A.un .not x3 fun a9 =>
 g28b11101 x0 x1 x2 a7 a9 z8
theorem g28n11 : g28C [1, 1] = .seq (g28C [1, 1, 0]) (g28C [1, 1, 1]) := by kernel_rfl
theorem g28n111 : g28C [1, 1, 1] = .seq (g28C [1, 1, 1, 0]) (g28C [1, 1, 1, 1]) := by kernel_rfl
theorem g28n1110 : g28C [1, 1, 1, 0] = .seq (g28C [1, 1, 1, 0, 0]) (g28C [1, 1, 1, 0, 1]) := by kernel_rfl
theorem g28e11 : g28X (g28C [1, 1]) (g28kr) = fun env st => g28b11 (env 0) (env 1) (env 2) (env 3) st := by
  refine Eq.trans (g28seq g28n11 ((g28seq g28n111 (g28e1111)).trans (g28seq g28n1110 (g28e11101)))) ?_
  funext env st
  kernel_rfl
noncomputable def f28 (x0 : V) (x1 : V) (x2 : V) (x3 : V) (st : St) : Res :=
 A.nilc x0 fun a1 =>
 A.faddr 2 a1 fun a2 =>
 A.iaddrA 2 1 a2 x1 fun a3 =>
 A.load false 1 a3 st fun a4 z5 =>
 A.lenL a4 fun a6 =>
 A.eql 2 false a6 (.int .i64 0) fun a7 =>
 A.cond a7
 (some (.ret (.tup []), z5))
 (A.bin .and x2 (.int .i64 65535) fun a8 =>
 A.nilc x0 fun a9 =>
 A.faddr 2 a9 fun a10 =>
 A.iaddrA 2 1 a10 x1 fun a11 =>
 A.load false 1 a11 z5 fun a12 z13 =>
 A.lenL a12 fun a14 =>
 A.bin .rem a8 a14 fun a15 =>
 g28b11 x0 x1 a15 x3 z13)
theorem g28nr : g28C [] = .seq (g28C [0]) (g28C [1]) := by kernel_rfl
theorem g28n1 : g28C [1] = .seq (g28C [1, 0]) (g28C [1, 1]) := by kernel_rfl
theorem g28er (env : Env) (st : St) : g28X (g28C []) g28kr env st = f28 (env 0) (env 1) (env 2) (env 3) st := by
  rw [(g28seq g28nr (g28seq g28n1 (g28e11)))]
  kernel_rfl
theorem s28_eq (x0 : V) (x1 : V) (x2 : V) (x3 : V) (st : St) : s28 [x0, x1, x2, x3] st = f28 x0 x1 x2 x3 st := by
  have h : afn Try.prog g28mu g28T big (areg Try.prog g28mu g28T) 28 [x0, x1, x2, x3] st = g28X (g28C []) g28kr (fun t => [x0, x1, x2, x3].getD t (.tup [])) st := by kernel_rfl
  rw [s28, sealF_eq]
  exact h.trans (g28er _ st)
/-! (*sinew/sinewlaw15.line).puts -/
def g40mu : Nat → Bool := fun _ => false
noncomputable def g40T : Tbl := tget [(13, s13), (27, s27)]
theorem g40t : SimT Try.prog g40T := simT_cons sim13 ( simT_cons sim27 (simT_nil))
noncomputable def s40 : Fn := sealF (afn Try.prog g40mu g40T big (areg Try.prog g40mu g40T) 40)
theorem sim40 : Sim Try.prog 40 s40 := (afn_sim g40t (fun m => areg_sound g40t hmix m) 40 (by kernel_rfl)).sealed
noncomputable def g40C (p : List Nat) : Code := sub (match Try.f40.body with | some c => c | none => .skip) p
noncomputable def g40X (c : Code) (K : Kon) : Env → St → Res := aexec Try.prog g40mu g40T big 48 (areg Try.prog g40mu g40T 48) c K
noncomputable def g40kr : Kon := aresK Try.prog Try.f40.results.toList
theorem g40reg {c : Code} {K : Kon} {G : Env → St → Res} {id : Nat} {ops : Array Oper} {l1 l2 : List Nat} (hc : c = .region id ops false) (hl : List.range ops.size = l1 ++ l2) (h : (fun env st => aops Try.prog g40mu g40T 48 ops l2 env st (K .normal)) = G) : g40X c K = fun env st => aops Try.prog g40mu g40T 48 ops l1 env st G := reg_cut hc hl h
theorem g40seq {c x y : Code} {K : Kon} {G : Env → St → Res} (hc : c = .seq x y) (hy : g40X y K = G) : g40X c K = g40X x (kSeq G K) := seq_cut hc hy
theorem g40blk {c x : Code} {K : Kon} {i : Nat} (hc : c = .block i x) : g40X c K = g40X x (kBlk i K) := blk_cut hc
theorem g40loop {c x : Code} {K : Kon} (hc : c = .loop x) : g40X c K = aloop (g40X x) K big := loop_cut hc
theorem g40cond {c x y : Code} {K : Kon} {v : Operand} {F G : Env → St → Res} (hc : c = .cond v x y) (hx : g40X x K = F) (hy : g40X y K = G) : g40X c K = condF v F G := cond_cut hc hx hy
noncomputable def g40b1111 (x0 : V) (x1 : V) (x5 : V) (st : St) : Res :=
 A.bin .sub (.int .i64 1) x1 fun a1 =>
 A.ret (s27 [x0.er1, a1.er1, x5.er1] st) fun a2 z3 =>
 some (.ret (.tup []), z3)
theorem g40e1111 : g40X (g40C [1, 1, 1, 1]) (g40kr) = fun env st => g40b1111 (env 0) (env 1) (env 5) st := by
  refine Eq.trans (Eq.refl (g40X (g40C [1, 1, 1, 1]) (g40kr))) ?_
  funext env st
  kernel_rfl
noncomputable def g40b11 (x0 : V) (x1 : V) (x4 : V) (x5 : V) (x6 : V) (st : St) : Res :=
 A.eql 2 true x6 (.int .i64 0) fun a1 =>
 A.cond a1
 (some (.ret (.tup []), st))
 (A.nilc x0 fun a2 =>
 A.faddr 4 a2 fun a3 =>
 A.iaddrA 2 1 a3 x1 fun a4 =>
 A.load false 1 a4 st fun a5 _ =>
 A.bslice 1 (.int .i64 0) 1 [(0, x4)] fun a6 =>
 A.noP (A.app 1 a5 (elemsOf 5 1 a6 st) st kid) fun a7 z8 =>
 A.nilc x0 fun a9 =>
 A.faddr 4 a9 fun a10 =>
 A.iaddrA 2 1 a10 x1 fun a11 =>
 A.noP (A.store 1 a11 a7 z8 fun s => kid (.tup []) s) fun a12 z13 =>
 g40b1111 x0 x1 x5 z13)
theorem g40n11 : g40C [1, 1] = .seq (g40C [1, 1, 0]) (g40C [1, 1, 1]) := by kernel_rfl
theorem g40n111 : g40C [1, 1, 1] = .seq (g40C [1, 1, 1, 0]) (g40C [1, 1, 1, 1]) := by kernel_rfl
theorem g40e11 : g40X (g40C [1, 1]) (g40kr) = fun env st => g40b11 (env 0) (env 1) (env 4) (env 5) (env 6) st := by
  refine Eq.trans (g40seq g40n11 (g40seq g40n111 (g40e1111))) ?_
  funext env st
  kernel_rfl
noncomputable def f40 (x0 : V) (x1 : V) (st : St) : Res :=
 A.nilc x0 fun a1 =>
 A.faddr 4 a1 fun a2 =>
 A.iaddrA 2 1 a2 x1 fun a3 =>
 A.load false 1 a3 st fun a4 z5 =>
 A.lenL a4 fun a6 =>
 A.nilc x0 fun a7 =>
 A.faddr 0 a7 fun a8 =>
 A.iaddrA 2 1 a8 x1 fun a9 =>
 A.load false 1 a9 z5 fun a10 z11 =>
 A.bslice 1 (.int .i64 0) 1 [(0, a6)] fun a12 =>
 A.build [(.int .i64 0), (.lst [] 1), (.lst [] 1), (.lst [] 1)] [(0, 1, (.int .i64 5)), (1, 1, a12)] fun a13 =>
 A.ret (s13 [a10.er1, a13.er1] z11) fun a14 z15 =>
 A.ext a14 0 fun a16 =>
 A.ext a14 1 fun a17 =>
 g40b11 x0 x1 a6 a16 a17 z15
theorem g40nr : g40C [] = .seq (g40C [0]) (g40C [1]) := by kernel_rfl
theorem g40n1 : g40C [1] = .seq (g40C [1, 0]) (g40C [1, 1]) := by kernel_rfl
theorem g40er (env : Env) (st : St) : g40X (g40C []) g40kr env st = f40 (env 0) (env 1) st := by
  rw [(g40seq g40nr (g40seq g40n1 (g40e11)))]
  kernel_rfl
theorem s40_eq (x0 : V) (x1 : V) (st : St) : s40 [x0, x1] st = f40 x0 x1 st := by
  have h : afn Try.prog g40mu g40T big (areg Try.prog g40mu g40T) 40 [x0, x1] st = g40X (g40C []) g40kr (fun t => [x0, x1].getD t (.tup [])) st := by kernel_rfl
  rw [s40, sealF_eq]
  exact h.trans (g40er _ st)
/-! (*sinew/sinewlaw15.line).does -/
def g25mu : Nat → Bool := fun _ => false
noncomputable def g25T : Tbl := tget [(16, s16), (27, s27), (28, s28), (40, s40)]
theorem g25t : SimT Try.prog g25T := simT_cons sim16 ( simT_cons sim27 ( simT_cons sim28 ( simT_cons sim40 (simT_nil))))
noncomputable def s25 : Fn := sealF (afn Try.prog g25mu g25T big (areg Try.prog g25mu g25T) 25)
theorem sim25 : Sim Try.prog 25 s25 := (afn_sim g25t (fun m => areg_sound g25t hmix m) 25 (by kernel_rfl)).sealed
noncomputable def g25C (p : List Nat) : Code := sub (match Try.f25.body with | some c => c | none => .skip) p
noncomputable def g25X (c : Code) (K : Kon) : Env → St → Res := aexec Try.prog g25mu g25T big 66 (areg Try.prog g25mu g25T 66) c K
noncomputable def g25kr : Kon := aresK Try.prog Try.f25.results.toList
theorem g25reg {c : Code} {K : Kon} {G : Env → St → Res} {id : Nat} {ops : Array Oper} {l1 l2 : List Nat} (hc : c = .region id ops false) (hl : List.range ops.size = l1 ++ l2) (h : (fun env st => aops Try.prog g25mu g25T 66 ops l2 env st (K .normal)) = G) : g25X c K = fun env st => aops Try.prog g25mu g25T 66 ops l1 env st G := reg_cut hc hl h
theorem g25seq {c x y : Code} {K : Kon} {G : Env → St → Res} (hc : c = .seq x y) (hy : g25X y K = G) : g25X c K = g25X x (kSeq G K) := seq_cut hc hy
theorem g25blk {c x : Code} {K : Kon} {i : Nat} (hc : c = .block i x) : g25X c K = g25X x (kBlk i K) := blk_cut hc
theorem g25loop {c x : Code} {K : Kon} (hc : c = .loop x) : g25X c K = aloop (g25X x) K big := loop_cut hc
theorem g25cond {c x y : Code} {K : Kon} {v : Operand} {F G : Env → St → Res} (hc : c = .cond v x y) (hx : g25X x K = F) (hy : g25X y K = G) : g25X c K = condF v F G := cond_cut hc hx hy
noncomputable def g25k0 : Kon := kBlk 0 (g25kr)
noncomputable def g25bz1hb (x0 : V) (x4 : V) (x23 : V) (st : St) : Res :=
 A.cond x23
 (A.nilc x0 fun a1 =>
 A.faddr 2 a1 fun a2 =>
 A.iaddrA 2 1 a2 x4 fun a3 =>
 A.load false 1 a3 st fun a4 _ =>
 A.slice 1 a4 (some (.int .i64 1)) none none fun a5 =>
 A.nilc x0 fun a6 =>
 A.faddr 2 a6 fun a7 =>
 A.iaddrA 2 1 a7 x4 fun a8 =>
 A.noP (A.store 1 a8 a5 st fun s => kid (.tup []) s) fun a9 z10 =>
 some (.ret (.tup []), z10))
 (A.bin .sub (.int .i64 1) x4 fun a11 =>
 A.nilc x0 fun a12 =>
 A.faddr 0 a12 fun a13 =>
 A.iaddrA 2 1 a13 x4 fun a14 =>
 A.load false 1 a14 st fun a15 z16 =>
 A.ret (s16 [a15.er1] z16) fun a17 z18 =>
 A.ret (s27 [x0.er1, a11.er1, a17.er1] z18) fun a19 z20 =>
 some (.ret (.tup []), z20))
theorem g25ez1hb : g25X (g25C [1, 1, 0, 1, 1, 1, 1, 1, 1, 1]) (g25k0) = fun env st => g25bz1hb (env 0) (env 4) (env 23) st := by
  refine Eq.trans (Eq.refl (g25X (g25C [1, 1, 0, 1, 1, 1, 1, 1, 1, 1]) (g25k0))) ?_
  funext env st
  kernel_rfl
noncomputable def g25bzdb (x0 : V) (x1 : V) (x4 : V) (x59 : V) (st : St) : Res :=
 A.cond x59
 (A.bin .shr x1 (.int .u64 4) fun a1 =>
 A.ret (s28 [x0.er1, x4.er1, a1.er1, ((.bool true) : V).er1] st) fun a2 z3 =>
 some (.ret (.tup []), z3))
 (A.bin .shr x1 (.int .u64 3) fun a4 =>
 A.bin .and a4 (.int .i64 1) fun a5 =>
 A.eql 2 false a5 (.int .i64 1) fun a6 =>
 A.guard a6 true
 (A.nilc x0 fun a7 =>
 A.faddr 2 a7 fun a8 =>
 A.iaddrA 2 1 a8 x4 fun a9 =>
 A.load false 1 a9 st fun a10 z11 =>
 A.lenL a10 fun a12 =>
 A.bin .gtr a12 (.int .i64 0) fun a13 =>
 g25bz1hb x0 x4 a13 z11)
 (g25bz1hb x0 x4 (.bool false) st))
theorem g25nzdb : g25C [1, 1, 0, 1, 1, 1, 1, 1] = .cond (.tmp 59) (g25C [1, 1, 0, 1, 1, 1, 1, 1, 0]) (g25C [1, 1, 0, 1, 1, 1, 1, 1, 1]) := by kernel_rfl
theorem g25nzqn : g25C [1, 1, 0, 1, 1, 1, 1, 1, 1] = .seq (g25C [1, 1, 0, 1, 1, 1, 1, 1, 1, 0]) (g25C [1, 1, 0, 1, 1, 1, 1, 1, 1, 1]) := by kernel_rfl
theorem g25ezdb : g25X (g25C [1, 1, 0, 1, 1, 1, 1, 1]) (g25k0) = fun env st => g25bzdb (env 0) (env 1) (env 4) (env 59) st := by
  refine Eq.trans (g25cond g25nzdb rfl (g25seq g25nzqn (g25ez1hb))) ?_
  funext env st
  kernel_rfl
noncomputable def f25 (x0 : V) (x1 : V) (st : St) : Res :=
 A.bin .and x1 (.int .i64 1) fun a1 =>
 A.bin .shr x1 (.int .u64 1) fun a2 =>
 A.bin .and a2 (.int .i64 3) fun a3 =>
 A.eql 2 false a3 (.int .i64 0) fun a4 =>
 A.cond a4
 (A.ret (s40 [x0.er1, a1.er1] st) fun a5 z6 =>
 some (.ret (.tup []), z6))
 (A.eql 2 false a3 (.int .i64 1) fun a7 =>
 A.cond a7
 (A.bin .shr x1 (.int .u64 4) fun a8 =>
 A.ret (s28 [x0.er1, a1.er1, a8.er1, ((.bool false) : V).er1] st) fun a9 z10 =>
 some (.ret (.tup []), z10))
 (A.eql 2 false a3 (.int .i64 2) fun a11 =>
 g25bzdb x0 x1 a1 a11 st))
theorem g25nr : g25C [] = .seq (g25C [0]) (g25C [1]) := by kernel_rfl
theorem g25n1 : g25C [1] = .seq (g25C [1, 0]) (g25C [1, 1]) := by kernel_rfl
theorem g25n11 : g25C [1, 1] = .block 0 (g25C [1, 1, 0]) := by kernel_rfl
theorem g25n110 : g25C [1, 1, 0] = .seq (g25C [1, 1, 0, 0]) (g25C [1, 1, 0, 1]) := by kernel_rfl
theorem g25n1101 : g25C [1, 1, 0, 1] = .cond (.tmp 47) (g25C [1, 1, 0, 1, 0]) (g25C [1, 1, 0, 1, 1]) := by kernel_rfl
theorem g25n11011 : g25C [1, 1, 0, 1, 1] = .seq (g25C [1, 1, 0, 1, 1, 0]) (g25C [1, 1, 0, 1, 1, 1]) := by kernel_rfl
theorem g25nz3b : g25C [1, 1, 0, 1, 1, 1] = .cond (.tmp 52) (g25C [1, 1, 0, 1, 1, 1, 0]) (g25C [1, 1, 0, 1, 1, 1, 1]) := by kernel_rfl
theorem g25nz6n : g25C [1, 1, 0, 1, 1, 1, 1] = .seq (g25C [1, 1, 0, 1, 1, 1, 1, 0]) (g25C [1, 1, 0, 1, 1, 1, 1, 1]) := by kernel_rfl
theorem g25er (env : Env) (st : St) : g25X (g25C []) g25kr env st = f25 (env 0) (env 1) st := by
  rw [(g25seq g25nr (g25seq g25n1 ((g25blk g25n11).trans (g25seq g25n110 (g25cond g25n1101 rfl (g25seq g25n11011 (g25cond g25nz3b rfl (g25seq g25nz6n (g25ezdb)))))))))]
  kernel_rfl
theorem s25_eq (x0 : V) (x1 : V) (st : St) : s25 [x0, x1] st = f25 x0 x1 st := by
  have h : afn Try.prog g25mu g25T big (areg Try.prog g25mu g25T) 25 [x0, x1] st = g25X (g25C []) g25kr (fun t => [x0, x1].getD t (.tup [])) st := by kernel_rfl
  rw [s25, sealF_eq]
  exact h.trans (g25er _ st)
/-! (*sinew/sinewlaw15.line).right -/
def g26mu : Nat → Bool := fun _ => false
noncomputable def g26T : Tbl := tget []
theorem g26t : SimT Try.prog g26T := simT_nil
noncomputable def s26 : Fn := sealF (afn Try.prog g26mu g26T big (areg Try.prog g26mu g26T) 26)
theorem sim26 : Sim Try.prog 26 s26 := (afn_sim g26t (fun m => areg_sound g26t hmix m) 26 (by kernel_rfl)).sealed
noncomputable def g26C (p : List Nat) : Code := sub (match Try.f26.body with | some c => c | none => .skip) p
noncomputable def g26X (c : Code) (K : Kon) : Env → St → Res := aexec Try.prog g26mu g26T big 60 (areg Try.prog g26mu g26T 60) c K
noncomputable def g26kr : Kon := aresK Try.prog Try.f26.results.toList
theorem g26reg {c : Code} {K : Kon} {G : Env → St → Res} {id : Nat} {ops : Array Oper} {l1 l2 : List Nat} (hc : c = .region id ops false) (hl : List.range ops.size = l1 ++ l2) (h : (fun env st => aops Try.prog g26mu g26T 60 ops l2 env st (K .normal)) = G) : g26X c K = fun env st => aops Try.prog g26mu g26T 60 ops l1 env st G := reg_cut hc hl h
theorem g26seq {c x y : Code} {K : Kon} {G : Env → St → Res} (hc : c = .seq x y) (hy : g26X y K = G) : g26X c K = g26X x (kSeq G K) := seq_cut hc hy
theorem g26blk {c x : Code} {K : Kon} {i : Nat} (hc : c = .block i x) : g26X c K = g26X x (kBlk i K) := blk_cut hc
theorem g26loop {c x : Code} {K : Kon} (hc : c = .loop x) : g26X c K = aloop (g26X x) K big := loop_cut hc
theorem g26cond {c x y : Code} {K : Kon} {v : Operand} {F G : Env → St → Res} (hc : c = .cond v x y) (hx : g26X x K = F) (hy : g26X y K = G) : g26X c K = condF v F G := cond_cut hc hx hy
noncomputable def g26k0 : Kon := kSeq (g26X (g26C [1, 1]) (g26kr)) (g26kr)
noncomputable def g26k1 : Kon := kBlk 0 (g26k0)
noncomputable def g26k2 (L1010 : V → V → St → Res) : Kon := kSeq (fun env st => L1010 (env 0) (env 3) st) (g26k1)
noncomputable def g26k3 (L1010 : V → V → St → Res) : Kon := kSeq (g26X (g26C [1, 0, 1, 0, 0, 1, 1]) (g26k2 L1010)) (g26k2 L1010)
noncomputable def g26k4 (L1010 : V → V → St → Res) : Kon := kBlk 1 (g26k3 L1010)
noncomputable def g26k5 (L1010 : V → V → St → Res) : Kon := kBlk 2 (g26k4 L1010)
noncomputable def g26bz2li (L1010 : V → V → St → Res) : Nat → V → V → V → St → Res
| 0, _, _, _, _ => none
| n + 1, x0, x3, x4, st =>
 A.nilc x0 fun a1 =>
 A.faddr 6 a1 fun a2 =>
 A.iaddrA 2 1 a2 x3 fun a3 =>
 A.load false 1 a3 st fun a4 z5 =>
 A.lenL a4 fun a6 =>
 A.bin .lss x4 a6 fun a7 =>
 A.cond a7
 (A.nilc x0 fun a8 =>
 A.faddr 6 a8 fun a9 =>
 A.iaddrA 2 1 a9 x3 fun a10 =>
 A.load false 1 a10 z5 fun a11 _ =>
 A.iaddr 1 a11 x4 fun a12 =>
 A.load false 1 a12 z5 fun a13 _ =>
 A.bin .sub (.int .i64 1) x3 fun a14 =>
 A.nilc x0 fun a15 =>
 A.faddr 4 a15 fun a16 =>
 A.iaddrA 2 1 a16 a14 fun a17 =>
 A.load false 1 a17 z5 fun a18 _ =>
 A.iaddr 1 a18 x4 fun a19 =>
 A.load false 1 a19 z5 fun a20 _ =>
 A.eql 2 true a13 a20 fun a21 =>
 A.cond a21
 (some (.ret ((.bool false) : V).er1, z5))
 (A.bin .add x4 (.int .i64 1) fun a22 =>
 (g26bz2li L1010 n) x0 x3 a22 z5))
 (A.bin .add x3 (.int .i64 1) fun a23 =>
 L1010 x0 a23 z5)
theorem g26nz2li : g26C [1, 0, 1, 0, 0, 1, 0, 0, 1, 1, 0] = .loop (g26C [1, 0, 1, 0, 0, 1, 0, 0, 1, 1, 0, 0]) := by kernel_rfl
noncomputable def g26k6 (L1010 : V → V → St → Res) (Lz2li : V → V → V → St → Res) : Kon := kSeq (fun env st => Lz2li (env 0) (env 3) (env 4) st) (g26k5 L1010)
theorem g26ez2li (L1010 : V → V → St → Res) : g26X (g26C [1, 0, 1, 0, 0, 1, 0, 0, 1, 1, 0]) (g26k5 L1010) = fun env st => g26bz2li L1010 big (env 0) (env 3) (env 4) st := by
  have key : ∀ n, aloop (g26X (g26C [1, 0, 1, 0, 0, 1, 0, 0, 1, 1, 0, 0])) (g26k5 L1010) n = fun env st => g26bz2li L1010 n (env 0) (env 3) (env 4) st := by
    intro n
    induction n with
    | zero => rfl
    | succ n ih =>
      have h : aloop (g26X (g26C [1, 0, 1, 0, 0, 1, 0, 0, 1, 1, 0, 0])) (g26k5 L1010) (n + 1) = g26X (g26C [1, 0, 1, 0, 0, 1, 0, 0, 1, 1, 0, 0]) (kSeq (aloop (g26X (g26C [1, 0, 1, 0, 0, 1, 0, 0, 1, 1, 0, 0])) (g26k5 L1010) n) (g26k5 L1010)) := rfl
      rw [h, ih]
      refine Eq.trans (Eq.refl _) ?_
      funext env st
      kernel_rfl
  exact (g26loop g26nz2li).trans (key big)
noncomputable def g26bznd (L1010 : V → V → St → Res) (x0 : V) (x3 : V) (st : St) : Res :=
 g26bz2li L1010 big x0 x3 (.int .i64 0) st
theorem g26nznd : g26C [1, 0, 1, 0, 0, 1, 0, 0, 1] = .seq (g26C [1, 0, 1, 0, 0, 1, 0, 0, 1, 0]) (g26C [1, 0, 1, 0, 0, 1, 0, 0, 1, 1]) := by kernel_rfl
theorem g26nz1ar : g26C [1, 0, 1, 0, 0, 1, 0, 0, 1, 1] = .block 2 (g26C [1, 0, 1, 0, 0, 1, 0, 0, 1, 1, 0]) := by kernel_rfl
theorem g26eznd (L1010 : V → V → St → Res) : g26X (g26C [1, 0, 1, 0, 0, 1, 0, 0, 1]) (g26k4 L1010) = fun env st => g26bznd L1010 (env 0) (env 3) st := by
  refine Eq.trans (g26seq g26nznd ((g26blk g26nz1ar).trans (g26ez2li L1010))) ?_
  funext env st
  kernel_rfl
noncomputable def g26b1010 : Nat → V → V → St → Res
| 0, _, _, _ => none
| n + 1, x0, x3, st =>
 A.bin .lss x3 (.int .i64 2) fun a1 =>
 A.cond a1
 (A.nilc x0 fun a2 =>
 A.faddr 6 a2 fun a3 =>
 A.iaddrA 2 1 a3 x3 fun a4 =>
 A.load false 1 a4 st fun a5 _ =>
 A.lenL a5 fun a6 =>
 A.bin .sub (.int .i64 1) x3 fun a7 =>
 A.nilc x0 fun a8 =>
 A.faddr 4 a8 fun a9 =>
 A.iaddrA 2 1 a9 a7 fun a10 =>
 A.load false 1 a10 st fun a11 _ =>
 A.lenL a11 fun a12 =>
 A.bin .gtr a6 a12 fun a13 =>
 A.cond a13
 (some (.ret ((.bool false) : V).er1, st))
 (g26bznd (g26b1010 n) x0 x3 st))
 (A.nilc x0 fun a14 =>
 A.faddr 8 a14 fun a15 =>
 A.load false 1 a15 st fun a16 z17 =>
 some (.ret a16.er1, z17))
theorem g26n1010 : g26C [1, 0, 1, 0] = .loop (g26C [1, 0, 1, 0, 0]) := by kernel_rfl
theorem g26n10100 : g26C [1, 0, 1, 0, 0] = .seq (g26C [1, 0, 1, 0, 0, 0]) (g26C [1, 0, 1, 0, 0, 1]) := by kernel_rfl
theorem g26nz2x : g26C [1, 0, 1, 0, 0, 1] = .seq (g26C [1, 0, 1, 0, 0, 1, 0]) (g26C [1, 0, 1, 0, 0, 1, 1]) := by kernel_rfl
theorem g26nz5u : g26C [1, 0, 1, 0, 0, 1, 0] = .block 1 (g26C [1, 0, 1, 0, 0, 1, 0, 0]) := by kernel_rfl
theorem g26nzbo : g26C [1, 0, 1, 0, 0, 1, 0, 0] = .seq (g26C [1, 0, 1, 0, 0, 1, 0, 0, 0]) (g26C [1, 0, 1, 0, 0, 1, 0, 0, 1]) := by kernel_rfl
theorem g26e1010 : g26X (g26C [1, 0, 1, 0]) (g26k1) = fun env st => g26b1010 big (env 0) (env 3) st := by
  have key : ∀ n, aloop (g26X (g26C [1, 0, 1, 0, 0])) (g26k1) n = fun env st => g26b1010 n (env 0) (env 3) st := by
    intro n
    induction n with
    | zero => rfl
    | succ n ih =>
      have h : aloop (g26X (g26C [1, 0, 1, 0, 0])) (g26k1) (n + 1) = g26X (g26C [1, 0, 1, 0, 0]) (kSeq (aloop (g26X (g26C [1, 0, 1, 0, 0])) (g26k1) n) (g26k1)) := rfl
      rw [h, ih]
      refine Eq.trans (g26seq g26n10100 ((g26seq g26nz2x rfl).trans ((g26blk g26nz5u).trans (g26seq g26nzbo (g26eznd (g26b1010 n)))))) ?_
      funext env st
      kernel_rfl
  exact (g26loop g26n1010).trans (key big)
noncomputable def f26 (x0 : V) (st : St) : Res :=
 g26b1010 big x0 (.int .i64 0) st
theorem g26nr : g26C [] = .seq (g26C [0]) (g26C [1]) := by kernel_rfl
theorem g26n1 : g26C [1] = .seq (g26C [1, 0]) (g26C [1, 1]) := by kernel_rfl
theorem g26n10 : g26C [1, 0] = .seq (g26C [1, 0, 0]) (g26C [1, 0, 1]) := by kernel_rfl
theorem g26n101 : g26C [1, 0, 1] = .block 0 (g26C [1, 0, 1, 0]) := by kernel_rfl
theorem g26er (env : Env) (st : St) : g26X (g26C []) g26kr env st = f26 (env 0) st := by
  rw [(g26seq g26nr ((g26seq g26n1 rfl).trans (g26seq g26n10 ((g26blk g26n101).trans (g26e1010)))))]
  kernel_rfl
theorem s26_eq (x0 : V) (st : St) : s26 [x0] st = f26 x0 st := by
  have h : afn Try.prog g26mu g26T big (areg Try.prog g26mu g26T) 26 [x0] st = g26X (g26C []) g26kr (fun t => [x0].getD t (.tup [])) st := by kernel_rfl
  rw [s26, sealF_eq]
  exact h.trans (g26er _ st)
/-! sinew/sinewlaw15.LinkOrder -/
def g4mu : Nat → Bool := fun _ => false
noncomputable def g4T : Tbl := tget [(11, s11), (24, s24), (25, s25), (26, s26)]
theorem g4t : SimT Try.prog g4T := simT_cons sim11 ( simT_cons sim24 ( simT_cons sim25 ( simT_cons sim26 (simT_nil))))
noncomputable def s4 : Fn := sealF (afn Try.prog g4mu g4T big (areg Try.prog g4mu g4T) 4)
theorem sim4 : Sim Try.prog 4 s4 := (afn_sim g4t (fun m => areg_sound g4t hmix m) 4 (by kernel_rfl)).sealed
noncomputable def g4C (p : List Nat) : Code := sub (match Try.f4.body with | some c => c | none => .skip) p
noncomputable def g4X (c : Code) (K : Kon) : Env → St → Res := aexec Try.prog g4mu g4T big 35 (areg Try.prog g4mu g4T 35) c K
noncomputable def g4kr : Kon := aresK Try.prog Try.f4.results.toList
theorem g4reg {c : Code} {K : Kon} {G : Env → St → Res} {id : Nat} {ops : Array Oper} {l1 l2 : List Nat} (hc : c = .region id ops false) (hl : List.range ops.size = l1 ++ l2) (h : (fun env st => aops Try.prog g4mu g4T 35 ops l2 env st (K .normal)) = G) : g4X c K = fun env st => aops Try.prog g4mu g4T 35 ops l1 env st G := reg_cut hc hl h
theorem g4seq {c x y : Code} {K : Kon} {G : Env → St → Res} (hc : c = .seq x y) (hy : g4X y K = G) : g4X c K = g4X x (kSeq G K) := seq_cut hc hy
theorem g4blk {c x : Code} {K : Kon} {i : Nat} (hc : c = .block i x) : g4X c K = g4X x (kBlk i K) := blk_cut hc
theorem g4loop {c x : Code} {K : Kon} (hc : c = .loop x) : g4X c K = aloop (g4X x) K big := loop_cut hc
theorem g4cond {c x y : Code} {K : Kon} {v : Operand} {F G : Env → St → Res} (hc : c = .cond v x y) (hx : g4X x K = F) (hy : g4X y K = G) : g4X c K = condF v F G := cond_cut hc hx hy
noncomputable def g4k0 : Kon := kSeq (g4X (g4C [1, 1, 1, 1]) (g4kr)) (g4kr)
noncomputable def g4k1 : Kon := kBlk 0 (g4k0)
noncomputable def g4k2 (Lz3e : V → V → V → St → Res) : Kon := kSeq (fun env st => Lz3e (env 1) (env 5) (env 6) st) (g4k1)
noncomputable def g4bzdl (Lz3e : V → V → V → St → Res) (x1 : V) (x5 : V) (x6 : V) (st : St) : Res :=
 A.iaddr 1 x1 x6 fun a1 =>
 A.load false 1 a1 st fun a2 z3 =>
 A.bin .and a2 (.int .i64 1048575) fun a4 =>
 A.ret (s25 [x5.er1, a4.er1] z3) fun a5 z6 =>
 A.ret (s26 [x5.er1] z6) fun a7 z8 =>
 A.un .not a7 fun a9 =>
 A.cond a9
 (some (.ret ((.bool false) : V).er1, z8))
 (A.bin .add x6 (.int .i64 1) fun a10 =>
 Lz3e x1 x5 a10 z8)
theorem g4ezdl (Lz3e : V → V → V → St → Res) : g4X (g4C [1, 1, 1, 0, 1, 0, 0, 1]) (g4k2 Lz3e) = fun env st => g4bzdl Lz3e (env 1) (env 5) (env 6) st := by
  refine Eq.trans (Eq.refl (g4X (g4C [1, 1, 1, 0, 1, 0, 0, 1]) (g4k2 Lz3e))) ?_
  funext env st
  kernel_rfl
noncomputable def g4bz3e : Nat → V → V → V → St → Res
| 0, _, _, _, _ => none
| n + 1, x1, x5, x6, st =>
 A.lenL x1 fun a1 =>
 A.bin .lss x6 a1 fun a2 =>
 A.guard a2 true
 (A.bin .lss x6 (.int .i64 250) fun a3 =>
 A.cond a3
 (g4bzdl (g4bz3e n) x1 x5 x6 st)
 (A.ret (s11 [] st) fun a4 z5 =>
 some (.ret a4.er1, z5)))
 (A.ret (s11 [] st) fun a6 z7 =>
 some (.ret a6.er1, z7))
theorem g4nz3e : g4C [1, 1, 1, 0, 1, 0] = .loop (g4C [1, 1, 1, 0, 1, 0, 0]) := by kernel_rfl
theorem g4nz6s : g4C [1, 1, 1, 0, 1, 0, 0] = .seq (g4C [1, 1, 1, 0, 1, 0, 0, 0]) (g4C [1, 1, 1, 0, 1, 0, 0, 1]) := by kernel_rfl
theorem g4ez3e : g4X (g4C [1, 1, 1, 0, 1, 0]) (g4k1) = fun env st => g4bz3e big (env 1) (env 5) (env 6) st := by
  have key : ∀ n, aloop (g4X (g4C [1, 1, 1, 0, 1, 0, 0])) (g4k1) n = fun env st => g4bz3e n (env 1) (env 5) (env 6) st := by
    intro n
    induction n with
    | zero => rfl
    | succ n ih =>
      have h : aloop (g4X (g4C [1, 1, 1, 0, 1, 0, 0])) (g4k1) (n + 1) = g4X (g4C [1, 1, 1, 0, 1, 0, 0]) (kSeq (aloop (g4X (g4C [1, 1, 1, 0, 1, 0, 0])) (g4k1) n) (g4k1)) := rfl
      rw [h, ih]
      refine Eq.trans (g4seq g4nz6s (g4ezdl (g4bz3e n))) ?_
      funext env st
      kernel_rfl
  exact (g4loop g4nz3e).trans (key big)
noncomputable def g4b11101 (x1 : V) (x5 : V) (x6 : V) (st : St) : Res :=
 g4bz3e big x1 x5 x6 st
theorem g4n11101 : g4C [1, 1, 1, 0, 1] = .block 0 (g4C [1, 1, 1, 0, 1, 0]) := by kernel_rfl
theorem g4e11101 : g4X (g4C [1, 1, 1, 0, 1]) (g4k0) = fun env st => g4b11101 (env 1) (env 5) (env 6) st := by
  refine Eq.trans ((g4blk g4n11101).trans (g4ez3e)) ?_
  funext env st
  kernel_rfl
noncomputable def f4 (x0 : V) (x1 : V) (st : St) : Res :=
 A.ret (s24 [x0.er1] st) fun a1 z2 =>
 A.nilc a1 fun a3 =>
 A.faddr 8 a3 fun a4 =>
 A.load false 1 a4 z2 fun a5 z6 =>
 A.un .not a5 fun a7 =>
 A.cond a7
 (some (.ret ((.bool false) : V).er1, z6))
 (g4b11101 x1 a1 (.int .i64 0) z6)
theorem g4nr : g4C [] = .seq (g4C [0]) (g4C [1]) := by kernel_rfl
theorem g4n1 : g4C [1] = .seq (g4C [1, 0]) (g4C [1, 1]) := by kernel_rfl
theorem g4n11 : g4C [1, 1] = .seq (g4C [1, 1, 0]) (g4C [1, 1, 1]) := by kernel_rfl
theorem g4n111 : g4C [1, 1, 1] = .seq (g4C [1, 1, 1, 0]) (g4C [1, 1, 1, 1]) := by kernel_rfl
theorem g4n1110 : g4C [1, 1, 1, 0] = .seq (g4C [1, 1, 1, 0, 0]) (g4C [1, 1, 1, 0, 1]) := by kernel_rfl
theorem g4er (env : Env) (st : St) : g4X (g4C []) g4kr env st = f4 (env 0) (env 1) st := by
  rw [(g4seq g4nr (g4seq g4n1 (g4seq g4n11 ((g4seq g4n111 rfl).trans (g4seq g4n1110 (g4e11101))))))]
  kernel_rfl
theorem s4_eq (x0 : V) (x1 : V) (st : St) : s4 [x0, x1] st = f4 x0 x1 st := by
  have h : afn Try.prog g4mu g4T big (areg Try.prog g4mu g4T) 4 [x0, x1] st = g4X (g4C []) g4kr (fun t => [x0, x1].getD t (.tup [])) st := by kernel_rfl
  rw [s4, sealF_eq]
  exact h.trans (g4er _ st)
/-! sinew/sinewlaw15.LinkAll -/
def g5mu : Nat → Bool := fun _ => false
noncomputable def g5T : Tbl := tget [(11, s11), (16, s16), (22, s22), (24, s24), (25, s25), (26, s26), (27, s27), (28, s28)]
theorem g5t : SimT Try.prog g5T := simT_cons sim11 ( simT_cons sim16 ( simT_cons sim22 ( simT_cons sim24 ( simT_cons sim25 ( simT_cons sim26 ( simT_cons sim27 ( simT_cons sim28 (simT_nil))))))))
noncomputable def s5 : Fn := sealF (afn Try.prog g5mu g5T big (areg Try.prog g5mu g5T) 5)
theorem sim5 : Sim Try.prog 5 s5 := (afn_sim g5t (fun m => areg_sound g5t hmix m) 5 (by kernel_rfl)).sealed
noncomputable def g5C (p : List Nat) : Code := sub (match Try.f5.body with | some c => c | none => .skip) p
noncomputable def g5X (c : Code) (K : Kon) : Env → St → Res := aexec Try.prog g5mu g5T big 170 (areg Try.prog g5mu g5T 170) c K
noncomputable def g5kr : Kon := aresK Try.prog Try.f5.results.toList
theorem g5reg {c : Code} {K : Kon} {G : Env → St → Res} {id : Nat} {ops : Array Oper} {l1 l2 : List Nat} (hc : c = .region id ops false) (hl : List.range ops.size = l1 ++ l2) (h : (fun env st => aops Try.prog g5mu g5T 170 ops l2 env st (K .normal)) = G) : g5X c K = fun env st => aops Try.prog g5mu g5T 170 ops l1 env st G := reg_cut hc hl h
theorem g5regN {c : Code} {K : Kon} {G : Env → St → Res} {id : Nat} {ops : Array Oper} {l1 l2 : List Nat} (hc : c = .region id ops true) (hok : regOk Try.prog g5mu ops (befs ops.toList []) = true) (hq : calm Try.prog g5mu ops (befs ops.toList []) = true) (hl : List.range ops.size = l1 ++ l2) (h : (fun env st => aopsN Try.prog g5mu g5T 170 ops l2 env st (K .normal)) = G) : g5X c K = fun env st => aopsN Try.prog g5mu g5T 170 ops l1 env st G := reg_cutN hc hok hq hl h
theorem g5seq {c x y : Code} {K : Kon} {G : Env → St → Res} (hc : c = .seq x y) (hy : g5X y K = G) : g5X c K = g5X x (kSeq G K) := seq_cut hc hy
theorem g5blk {c x : Code} {K : Kon} {i : Nat} (hc : c = .block i x) : g5X c K = g5X x (kBlk i K) := blk_cut hc
theorem g5loop {c x : Code} {K : Kon} (hc : c = .loop x) : g5X c K = aloop (g5X x) K big := loop_cut hc
theorem g5cond {c x y : Code} {K : Kon} {v : Operand} {F G : Env → St → Res} (hc : c = .cond v x y) (hx : g5X x K = F) (hy : g5X y K = G) : g5X c K = condF v F G := cond_cut hc hx hy
noncomputable def g5k0 : Kon := kSeq (g5X (g5C [1, 1, 1, 1, 1, 1]) (g5kr)) (g5kr)
noncomputable def g5bz3i_51 (x167 : V) (st : St) : Res :=
 A.guard x167 true
 (A.noP (A.ret (s11 [] st) kid) fun a1 z2 =>
 some (.ret a1.er1, z2))
 (some (.ret ((.bool false) : V).er1, st))
theorem g5ez3i_51 : (fun env st => aopsN Try.prog g5mu g5T 170 (rops (g5C [1, 1, 1, 1, 1, 0])) [51, 52, 53] env st ((g5k0) .normal)) = fun env st => g5bz3i_51 (env 167) st := by
  refine Eq.trans (Eq.refl _) ?_
  funext env st
  kernel_rfl
noncomputable def g5bz3i_42 (x7 : V) (x158 : V) (st : St) : Res :=
 A.guard x158 true
 (A.nilc x7 fun a1 =>
 A.faddr 0 a1 fun a2 =>
 A.iaddrA 2 1 a2 (.int .i64 1) fun a3 =>
 A.load false 1 a3 st fun a4 z5 =>
 A.noP (A.ret (s22 [a4.er1] z5) kid) fun a6 z7 =>
 A.eql 2 false a6 (.int .i64 0) fun a8 =>
 g5bz3i_51 a8 z7)
 (g5bz3i_51 (.bool false) st)
theorem g5ez3i_42 : (fun env st => aopsN Try.prog g5mu g5T 170 (rops (g5C [1, 1, 1, 1, 1, 0])) [42, 43, 44, 45, 46, 47, 48, 49, 50, 51, 52, 53] env st ((g5k0) .normal)) = fun env st => g5bz3i_42 (env 7) (env 158) st := by
  refine Eq.trans (opsN_cut (l1 := [42, 43, 44, 45, 46, 47, 48, 49, 50]) (l2 := [51, 52, 53]) (g5ez3i_51)) ?_
  funext env st
  kernel_rfl
noncomputable def g5bz3i_33 (x7 : V) (x149 : V) (st : St) : Res :=
 A.guard x149 true
 (A.nilc x7 fun a1 =>
 A.faddr 0 a1 fun a2 =>
 A.iaddrA 2 1 a2 (.int .i64 0) fun a3 =>
 A.load false 1 a3 st fun a4 z5 =>
 A.noP (A.ret (s22 [a4.er1] z5) kid) fun a6 z7 =>
 A.eql 2 false a6 (.int .i64 0) fun a8 =>
 g5bz3i_42 x7 a8 z7)
 (g5bz3i_42 x7 (.bool false) st)
theorem g5ez3i_33 : (fun env st => aopsN Try.prog g5mu g5T 170 (rops (g5C [1, 1, 1, 1, 1, 0])) [33, 34, 35, 36, 37, 38, 39, 40, 41, 42, 43, 44, 45, 46, 47, 48, 49, 50, 51, 52, 53] env st ((g5k0) .normal)) = fun env st => g5bz3i_33 (env 7) (env 149) st := by
  refine Eq.trans (opsN_cut (l1 := [33, 34, 35, 36, 37, 38, 39, 40, 41]) (l2 := [42, 43, 44, 45, 46, 47, 48, 49, 50, 51, 52, 53]) (g5ez3i_42)) ?_
  funext env st
  kernel_rfl
noncomputable def g5bz3i_18 (x7 : V) (x134 : V) (st : St) : Res :=
 A.guard x134 true
 (A.nilc x7 fun a1 =>
 A.faddr 6 a1 fun a2 =>
 A.iaddrA 2 1 a2 (.int .i64 1) fun a3 =>
 A.load false 1 a3 st fun a4 z5 =>
 A.lenL a4 fun a6 =>
 A.nilc x7 fun a7 =>
 A.faddr 4 a7 fun a8 =>
 A.iaddrA 2 1 a8 (.int .i64 0) fun a9 =>
 A.load false 1 a9 z5 fun a10 z11 =>
 A.lenL a10 fun a12 =>
 A.eql 2 false a6 a12 fun a13 =>
 g5bz3i_33 x7 a13 z11)
 (g5bz3i_33 x7 (.bool false) st)
theorem g5ez3i_18 : (fun env st => aopsN Try.prog g5mu g5T 170 (rops (g5C [1, 1, 1, 1, 1, 0])) [18, 19, 20, 21, 22, 23, 24, 25, 26, 27, 28, 29, 30, 31, 32, 33, 34, 35, 36, 37, 38, 39, 40, 41, 42, 43, 44, 45, 46, 47, 48, 49, 50, 51, 52, 53] env st ((g5k0) .normal)) = fun env st => g5bz3i_18 (env 7) (env 134) st := by
  refine Eq.trans (opsN_cut (l1 := [18, 19, 20, 21, 22, 23, 24, 25, 26, 27, 28, 29, 30, 31, 32]) (l2 := [33, 34, 35, 36, 37, 38, 39, 40, 41, 42, 43, 44, 45, 46, 47, 48, 49, 50, 51, 52, 53]) (g5ez3i_33)) ?_
  funext env st
  kernel_rfl
noncomputable def g5b11111 (x7 : V) (st : St) : Res :=
 A.noP (A.ret (s26 [x7.er1] st) kid) fun a1 z2 =>
 A.guard a1 true
 (A.nilc x7 fun a3 =>
 A.faddr 6 a3 fun a4 =>
 A.iaddrA 2 1 a4 (.int .i64 0) fun a5 =>
 A.load false 1 a5 z2 fun a6 z7 =>
 A.lenL a6 fun a8 =>
 A.nilc x7 fun a9 =>
 A.faddr 4 a9 fun a10 =>
 A.iaddrA 2 1 a10 (.int .i64 1) fun a11 =>
 A.load false 1 a11 z7 fun a12 z13 =>
 A.lenL a12 fun a14 =>
 A.eql 2 false a8 a14 fun a15 =>
 g5bz3i_18 x7 a15 z13)
 (g5bz3i_18 x7 (.bool false) z2)
theorem g5n11111 : g5C [1, 1, 1, 1, 1] = .seq (g5C [1, 1, 1, 1, 1, 0]) (g5C [1, 1, 1, 1, 1, 1]) := by kernel_rfl
theorem g5rgz3i : g5C [1, 1, 1, 1, 1, 0] = .region 24 (rops (g5C [1, 1, 1, 1, 1, 0])) true := by kernel_rfl
theorem g5rg111110o : regOk Try.prog g5mu (rops (g5C [1, 1, 1, 1, 1, 0])) (befs (rops (g5C [1, 1, 1, 1, 1, 0])).toList []) = true := by kernel_rfl
theorem g5rg111110q : calm Try.prog g5mu (rops (g5C [1, 1, 1, 1, 1, 0])) (befs (rops (g5C [1, 1, 1, 1, 1, 0])).toList []) = true := by kernel_rfl
theorem g5rgz3il : List.range (rops (g5C [1, 1, 1, 1, 1, 0])).size = [0, 1, 2, 3, 4, 5, 6, 7, 8, 9, 10, 11, 12, 13, 14, 15, 16, 17] ++ [18, 19, 20, 21, 22, 23, 24, 25, 26, 27, 28, 29, 30, 31, 32, 33, 34, 35, 36, 37, 38, 39, 40, 41, 42, 43, 44, 45, 46, 47, 48, 49, 50, 51, 52, 53] := by kernel_rfl
theorem g5e11111 : g5X (g5C [1, 1, 1, 1, 1]) (g5kr) = fun env st => g5b11111 (env 7) st := by
  refine Eq.trans ((g5seq g5n11111 rfl).trans (g5regN g5rgz3i g5rg111110o g5rg111110q g5rgz3il (g5ez3i_18))) ?_
  funext env st
  kernel_rfl
noncomputable def g5k1 : Kon := kSeq (fun env st => g5b11111 (env 7) st) (g5kr)
noncomputable def g5k2 : Kon := kBlk 2 (g5k1)
noncomputable def g5k3 (Lz6y : V → V → V → St → Res) : Kon := kSeq (fun env st => Lz6y (env 2) (env 7) (env 9) st) (g5k2)
noncomputable def g5k4 (Lz6y : V → V → V → St → Res) : Kon := kSeq (g5X (g5C [1, 1, 1, 1, 0, 1, 0, 0, 1, 1]) (g5k3 Lz6y)) (g5k3 Lz6y)
noncomputable def g5k5 (Lz6y : V → V → V → St → Res) : Kon := kBlk 3 (g5k4 Lz6y)
noncomputable def g5k6 (Lz6y : V → V → V → St → Res) : Kon := kBlk 8 (g5k5 Lz6y)
noncomputable def g5k7 (Lz6y : V → V → V → St → Res) (Lz1dfy : V → V → V → V → St → Res) : Kon := kSeq (fun env st => Lz1dfy (env 2) (env 7) (env 9) (env 12) st) (g5k6 Lz6y)
noncomputable def g5bz5hrt (Lz6y : V → V → V → St → Res) (Lz1dfy : V → V → V → V → St → Res) (x2 : V) (x7 : V) (x9 : V) (x12 : V) (st : St) : Res :=
 A.bin .and x12 (.int .i64 15) fun a1 =>
 A.bin .shr x2 a1 fun a2 =>
 A.ret (s28 [x7.er1, ((.int .i64 0) : V).er1, a2.er1, ((.bool false) : V).er1] st) fun a3 z4 =>
 A.bin .and x12 (.int .i64 7) fun a5 =>
 A.bin .shr x2 a5 fun a6 =>
 A.ret (s28 [x7.er1, ((.int .i64 1) : V).er1, a6.er1, ((.bool false) : V).er1] z4) fun a7 z8 =>
 A.bin .add x12 (.int .i64 1) fun a9 =>
 Lz1dfy x2 x7 x9 a9 z8
theorem g5ez5hrt (Lz6y : V → V → V → St → Res) (Lz1dfy : V → V → V → V → St → Res) : g5X (g5C [1, 1, 1, 1, 0, 1, 0, 0, 1, 0, 0, 1, 1, 1, 0, 0, 1]) (g5k7 Lz6y Lz1dfy) = fun env st => g5bz5hrt Lz6y Lz1dfy (env 2) (env 7) (env 9) (env 12) st := by
  refine Eq.trans (Eq.refl (g5X (g5C [1, 1, 1, 1, 0, 1, 0, 0, 1, 0, 0, 1, 1, 1, 0, 0, 1]) (g5k7 Lz6y Lz1dfy))) ?_
  funext env st
  kernel_rfl
noncomputable def g5bz1dfy (Lz6y : V → V → V → St → Res) : Nat → V → V → V → V → St → Res
| 0, _, _, _, _, _ => none
| n + 1, x2, x7, x9, x12, st =>
 A.bin .lss x12 (.int .i64 400) fun a1 =>
 A.guard a1 true
 (A.nilc x7 fun a2 =>
 A.faddr 2 a2 fun a3 =>
 A.iaddrA 2 1 a3 (.int .i64 0) fun a4 =>
 A.load false 1 a4 st fun a5 _ =>
 A.lenL a5 fun a6 =>
 A.nilc x7 fun a7 =>
 A.faddr 2 a7 fun a8 =>
 A.iaddrA 2 1 a8 (.int .i64 1) fun a9 =>
 A.load false 1 a9 st fun a10 _ =>
 A.lenL a10 fun a11 =>
 A.bin .add a6 a11 fun a12 =>
 A.bin .gtr a12 (.int .i64 0) fun a13 =>
 A.cond a13
 (g5bz5hrt Lz6y (g5bz1dfy Lz6y n) x2 x7 x9 x12 st)
 (A.bin .add x9 (.int .i64 1) fun a14 =>
 Lz6y x2 x7 a14 st))
 (A.bin .add x9 (.int .i64 1) fun a15 =>
 Lz6y x2 x7 a15 st)
theorem g5nz1dfy : g5C [1, 1, 1, 1, 0, 1, 0, 0, 1, 0, 0, 1, 1, 1, 0] = .loop (g5C [1, 1, 1, 1, 0, 1, 0, 0, 1, 0, 0, 1, 1, 1, 0, 0]) := by kernel_rfl
theorem g5nz2qvw : g5C [1, 1, 1, 1, 0, 1, 0, 0, 1, 0, 0, 1, 1, 1, 0, 0] = .seq (g5C [1, 1, 1, 1, 0, 1, 0, 0, 1, 0, 0, 1, 1, 1, 0, 0, 0]) (g5C [1, 1, 1, 1, 0, 1, 0, 0, 1, 0, 0, 1, 1, 1, 0, 0, 1]) := by kernel_rfl
theorem g5ez1dfy (Lz6y : V → V → V → St → Res) : g5X (g5C [1, 1, 1, 1, 0, 1, 0, 0, 1, 0, 0, 1, 1, 1, 0]) (g5k6 Lz6y) = fun env st => g5bz1dfy Lz6y big (env 2) (env 7) (env 9) (env 12) st := by
  have key : ∀ n, aloop (g5X (g5C [1, 1, 1, 1, 0, 1, 0, 0, 1, 0, 0, 1, 1, 1, 0, 0])) (g5k6 Lz6y) n = fun env st => g5bz1dfy Lz6y n (env 2) (env 7) (env 9) (env 12) st := by
    intro n
    induction n with
    | zero => rfl
    | succ n ih =>
      have h : aloop (g5X (g5C [1, 1, 1, 1, 0, 1, 0, 0, 1, 0, 0, 1, 1, 1, 0, 0])) (g5k6 Lz6y) (n + 1) = g5X (g5C [1, 1, 1, 1, 0, 1, 0, 0, 1, 0, 0, 1, 1, 1, 0, 0]) (kSeq (aloop (g5X (g5C [1, 1, 1, 1, 0, 1, 0, 0, 1, 0, 0, 1, 1, 1, 0, 0])) (g5k6 Lz6y) n) (g5k6 Lz6y)) := rfl
      rw [h, ih]
      refine Eq.trans (g5seq g5nz2qvw (g5ez5hrt Lz6y (g5bz1dfy Lz6y n))) ?_
      funext env st
      kernel_rfl
  exact (g5loop g5nz1dfy).trans (key big)
noncomputable def g5bzccz (Lz6y : V → V → V → St → Res) (x2 : V) (x7 : V) (x9 : V) (st : St) : Res :=
 g5bz1dfy Lz6y big x2 x7 x9 (.int .i64 0) st
theorem g5nzccz : g5C [1, 1, 1, 1, 0, 1, 0, 0, 1, 0, 0, 1, 1] = .seq (g5C [1, 1, 1, 1, 0, 1, 0, 0, 1, 0, 0, 1, 1, 0]) (g5C [1, 1, 1, 1, 0, 1, 0, 0, 1, 0, 0, 1, 1, 1]) := by kernel_rfl
theorem g5nzopz : g5C [1, 1, 1, 1, 0, 1, 0, 0, 1, 0, 0, 1, 1, 1] = .block 8 (g5C [1, 1, 1, 1, 0, 1, 0, 0, 1, 0, 0, 1, 1, 1, 0]) := by kernel_rfl
theorem g5ezccz (Lz6y : V → V → V → St → Res) : g5X (g5C [1, 1, 1, 1, 0, 1, 0, 0, 1, 0, 0, 1, 1]) (g5k5 Lz6y) = fun env st => g5bzccz Lz6y (env 2) (env 7) (env 9) st := by
  refine Eq.trans (g5seq g5nzccz ((g5blk g5nzopz).trans (g5ez1dfy Lz6y))) ?_
  funext env st
  kernel_rfl
noncomputable def g5k8 (Lz6y : V → V → V → St → Res) : Kon := kSeq (fun env st => g5bzccz Lz6y (env 2) (env 7) (env 9) st) (g5k5 Lz6y)
noncomputable def g5k9 (Lz6y : V → V → V → St → Res) : Kon := kBlk 6 (g5k8 Lz6y)
noncomputable def g5bz1dfu (Lz6y : V → V → V → St → Res) : Nat → V → V → V → V → St → Res
| 0, _, _, _, _, _ => none
| n + 1, x2, x7, x9, x11, st =>
 A.bin .lss x11 (.int .i64 2) fun a1 =>
 A.cond a1
 (A.bin .sub (.int .i64 1) x11 fun a2 =>
 A.nilc x7 fun a3 =>
 A.faddr 0 a3 fun a4 =>
 A.iaddrA 2 1 a4 x11 fun a5 =>
 A.load false 1 a5 st fun a6 z7 =>
 A.ret (s16 [a6.er1] z7) fun a8 z9 =>
 A.ret (s27 [x7.er1, a2.er1, a8.er1] z9) fun a10 z11 =>
 A.bin .add x11 (.int .i64 1) fun a12 =>
 (g5bz1dfu Lz6y n) x2 x7 x9 a12 z11)
 (g5bzccz Lz6y x2 x7 x9 st)
theorem g5nz1dfu : g5C [1, 1, 1, 1, 0, 1, 0, 0, 1, 0, 0, 1, 0, 1, 0] = .loop (g5C [1, 1, 1, 1, 0, 1, 0, 0, 1, 0, 0, 1, 0, 1, 0, 0]) := by kernel_rfl
noncomputable def g5k10 (Lz6y : V → V → V → St → Res) (Lz1dfu : V → V → V → V → St → Res) : Kon := kSeq (fun env st => Lz1dfu (env 2) (env 7) (env 9) (env 11) st) (g5k9 Lz6y)
theorem g5ez1dfu (Lz6y : V → V → V → St → Res) : g5X (g5C [1, 1, 1, 1, 0, 1, 0, 0, 1, 0, 0, 1, 0, 1, 0]) (g5k9 Lz6y) = fun env st => g5bz1dfu Lz6y big (env 2) (env 7) (env 9) (env 11) st := by
  have key : ∀ n, aloop (g5X (g5C [1, 1, 1, 1, 0, 1, 0, 0, 1, 0, 0, 1, 0, 1, 0, 0])) (g5k9 Lz6y) n = fun env st => g5bz1dfu Lz6y n (env 2) (env 7) (env 9) (env 11) st := by
    intro n
    induction n with
    | zero => rfl
    | succ n ih =>
      have h : aloop (g5X (g5C [1, 1, 1, 1, 0, 1, 0, 0, 1, 0, 0, 1, 0, 1, 0, 0])) (g5k9 Lz6y) (n + 1) = g5X (g5C [1, 1, 1, 1, 0, 1, 0, 0, 1, 0, 0, 1, 0, 1, 0, 0]) (kSeq (aloop (g5X (g5C [1, 1, 1, 1, 0, 1, 0, 0, 1, 0, 0, 1, 0, 1, 0, 0])) (g5k9 Lz6y) n) (g5k9 Lz6y)) := rfl
      rw [h, ih]
      refine Eq.trans (Eq.refl _) ?_
      funext env st
      kernel_rfl
  exact (g5loop g5nz1dfu).trans (key big)
noncomputable def g5bz66h (Lz6y : V → V → V → St → Res) (x2 : V) (x7 : V) (x9 : V) (st : St) : Res :=
 g5bz1dfu Lz6y big x2 x7 x9 (.int .i64 0) st
theorem g5nz66h : g5C [1, 1, 1, 1, 0, 1, 0, 0, 1, 0, 0, 1] = .seq (g5C [1, 1, 1, 1, 0, 1, 0, 0, 1, 0, 0, 1, 0]) (g5C [1, 1, 1, 1, 0, 1, 0, 0, 1, 0, 0, 1, 1]) := by kernel_rfl
theorem g5nzccy : g5C [1, 1, 1, 1, 0, 1, 0, 0, 1, 0, 0, 1, 0] = .seq (g5C [1, 1, 1, 1, 0, 1, 0, 0, 1, 0, 0, 1, 0, 0]) (g5C [1, 1, 1, 1, 0, 1, 0, 0, 1, 0, 0, 1, 0, 1]) := by kernel_rfl
theorem g5nzopx : g5C [1, 1, 1, 1, 0, 1, 0, 0, 1, 0, 0, 1, 0, 1] = .block 6 (g5C [1, 1, 1, 1, 0, 1, 0, 0, 1, 0, 0, 1, 0, 1, 0]) := by kernel_rfl
theorem g5ez66h (Lz6y : V → V → V → St → Res) : g5X (g5C [1, 1, 1, 1, 0, 1, 0, 0, 1, 0, 0, 1]) (g5k5 Lz6y) = fun env st => g5bz66h Lz6y (env 2) (env 7) (env 9) st := by
  refine Eq.trans ((g5seq g5nz66h (g5ezccz Lz6y)).trans (g5seq g5nzccy ((g5blk g5nzopx).trans (g5ez1dfu Lz6y)))) ?_
  funext env st
  kernel_rfl
noncomputable def g5k11 (Lz6y : V → V → V → St → Res) : Kon := kSeq (fun env st => g5bz66h Lz6y (env 2) (env 7) (env 9) st) (g5k5 Lz6y)
noncomputable def g5k12 (Lz6y : V → V → V → St → Res) : Kon := kBlk 4 (g5k11 Lz6y)
noncomputable def g5bzopu (Lz6y : V → V → V → St → Res) : Nat → V → V → V → V → St → Res
| 0, _, _, _, _, _ => none
| n + 1, x2, x7, x9, x10, st =>
 A.bin .lss x10 (.int .i64 2) fun a1 =>
 A.cond a1
 (A.nilc x7 fun a2 =>
 A.faddr 2 a2 fun a3 =>
 A.iaddrA 2 1 a3 x10 fun a4 =>
 A.store 1 a4 (.lst [] 1) st fun z5 =>
 A.bin .add x10 (.int .i64 1) fun a6 =>
 (g5bzopu Lz6y n) x2 x7 x9 a6 z5)
 (g5bz66h Lz6y x2 x7 x9 st)
theorem g5nzopu : g5C [1, 1, 1, 1, 0, 1, 0, 0, 1, 0, 0, 0, 1, 0] = .loop (g5C [1, 1, 1, 1, 0, 1, 0, 0, 1, 0, 0, 0, 1, 0, 0]) := by kernel_rfl
noncomputable def g5k13 (Lz6y : V → V → V → St → Res) (Lzopu : V → V → V → V → St → Res) : Kon := kSeq (fun env st => Lzopu (env 2) (env 7) (env 9) (env 10) st) (g5k12 Lz6y)
theorem g5ezopu (Lz6y : V → V → V → St → Res) : g5X (g5C [1, 1, 1, 1, 0, 1, 0, 0, 1, 0, 0, 0, 1, 0]) (g5k12 Lz6y) = fun env st => g5bzopu Lz6y big (env 2) (env 7) (env 9) (env 10) st := by
  have key : ∀ n, aloop (g5X (g5C [1, 1, 1, 1, 0, 1, 0, 0, 1, 0, 0, 0, 1, 0, 0])) (g5k12 Lz6y) n = fun env st => g5bzopu Lz6y n (env 2) (env 7) (env 9) (env 10) st := by
    intro n
    induction n with
    | zero => rfl
    | succ n ih =>
      have h : aloop (g5X (g5C [1, 1, 1, 1, 0, 1, 0, 0, 1, 0, 0, 0, 1, 0, 0])) (g5k12 Lz6y) (n + 1) = g5X (g5C [1, 1, 1, 1, 0, 1, 0, 0, 1, 0, 0, 0, 1, 0, 0]) (kSeq (aloop (g5X (g5C [1, 1, 1, 1, 0, 1, 0, 0, 1, 0, 0, 0, 1, 0, 0])) (g5k12 Lz6y) n) (g5k12 Lz6y)) := rfl
      rw [h, ih]
      refine Eq.trans (Eq.refl _) ?_
      funext env st
      kernel_rfl
  exact (g5loop g5nzopu).trans (key big)
noncomputable def g5bzrt (Lz6y : V → V → V → St → Res) (x2 : V) (x7 : V) (x9 : V) (st : St) : Res :=
 g5bzopu Lz6y big x2 x7 x9 (.int .i64 0) st
theorem g5nzrt : g5C [1, 1, 1, 1, 0, 1, 0, 0, 1] = .seq (g5C [1, 1, 1, 1, 0, 1, 0, 0, 1, 0]) (g5C [1, 1, 1, 1, 0, 1, 0, 0, 1, 1]) := by kernel_rfl
theorem g5nz1jm : g5C [1, 1, 1, 1, 0, 1, 0, 0, 1, 0] = .block 3 (g5C [1, 1, 1, 1, 0, 1, 0, 0, 1, 0, 0]) := by kernel_rfl
theorem g5nz338 : g5C [1, 1, 1, 1, 0, 1, 0, 0, 1, 0, 0] = .seq (g5C [1, 1, 1, 1, 0, 1, 0, 0, 1, 0, 0, 0]) (g5C [1, 1, 1, 1, 0, 1, 0, 0, 1, 0, 0, 1]) := by kernel_rfl
theorem g5nz66g : g5C [1, 1, 1, 1, 0, 1, 0, 0, 1, 0, 0, 0] = .seq (g5C [1, 1, 1, 1, 0, 1, 0, 0, 1, 0, 0, 0, 0]) (g5C [1, 1, 1, 1, 0, 1, 0, 0, 1, 0, 0, 0, 1]) := by kernel_rfl
theorem g5nzccx : g5C [1, 1, 1, 1, 0, 1, 0, 0, 1, 0, 0, 0, 1] = .block 4 (g5C [1, 1, 1, 1, 0, 1, 0, 0, 1, 0, 0, 0, 1, 0]) := by kernel_rfl
theorem g5ezrt (Lz6y : V → V → V → St → Res) : g5X (g5C [1, 1, 1, 1, 0, 1, 0, 0, 1]) (g5k3 Lz6y) = fun env st => g5bzrt Lz6y (env 2) (env 7) (env 9) st := by
  refine Eq.trans ((g5seq g5nzrt rfl).trans ((g5blk g5nz1jm).trans ((g5seq g5nz338 (g5ez66h Lz6y)).trans (g5seq g5nz66g ((g5blk g5nzccx).trans (g5ezopu Lz6y)))))) ?_
  funext env st
  kernel_rfl
noncomputable def g5bz6y : Nat → V → V → V → St → Res
| 0, _, _, _, _ => none
| n + 1, x2, x7, x9, st =>
 A.bin .lss x9 (.int .i64 200) fun a1 =>
 A.guard a1 true
 (A.bin .lss x9 (.int .i64 2) fun a2 =>
 A.guardT a2 false
 (A.nilc x7 fun a3 =>
 A.faddr 0 a3 fun a4 =>
 A.iaddrA 2 1 a4 (.int .i64 0) fun a5 =>
 A.load false 1 a5 st fun a6 _ =>
 A.noP (A.ret (s22 [a6.er1] st) kid) fun a7 z8 =>
 A.nilc x7 fun a9 =>
 A.faddr 0 a9 fun a10 =>
 A.iaddrA 2 1 a10 (.int .i64 1) fun a11 =>
 A.load false 1 a11 z8 fun a12 _ =>
 A.chk (ldv false 1 a11 st) a12
 (A.noP (A.ret (s22 [a12.er1] z8) kid) fun a13 z14 =>
 A.bin .add a7 a13 fun a15 =>
 A.bin .gtr a15 (.int .i64 0) fun a16 =>
 A.cond a16
 (g5bzrt (g5bz6y n) x2 x7 x9 z14)
 (g5b11111 x7 z14)))
 (g5bzrt (g5bz6y n) x2 x7 x9 st)
 (A.guardT a2 false
 (A.nilc (.tup []) fun a17 =>
 A.faddr 0 a17 fun a18 =>
 A.iaddrA 2 1 a18 (.int .i64 0) fun a19 =>
 A.load false 1 a19 st fun a20 _ =>
 A.noP (A.ret (s22 [a20.er1] st) kid) fun a21 z22 =>
 A.nilc x7 fun a23 =>
 A.faddr 0 a23 fun a24 =>
 A.iaddrA 2 1 a24 (.int .i64 1) fun a25 =>
 A.load false 1 a25 z22 fun a26 _ =>
 A.chk (ldv false 1 a25 st) a26
 (A.noP (A.ret (s22 [a26.er1] z22) kid) fun a27 z28 =>
 A.bin .add a21 a27 fun a29 =>
 A.bin .gtr a29 (.int .i64 0) fun a30 =>
 A.cond a30
 (g5bzrt (g5bz6y n) x2 x7 x9 z28)
 (g5b11111 x7 z28)))
 (g5bzrt (g5bz6y n) x2 x7 x9 st)
 (A.guardT a2 false
 (A.faddr 0 (.tup []) fun a31 =>
 A.iaddrA 2 1 a31 (.int .i64 0) fun a32 =>
 A.load false 1 a32 st fun a33 _ =>
 A.noP (A.ret (s22 [a33.er1] st) kid) fun a34 z35 =>
 A.nilc x7 fun a36 =>
 A.faddr 0 a36 fun a37 =>
 A.iaddrA 2 1 a37 (.int .i64 1) fun a38 =>
 A.load false 1 a38 z35 fun a39 _ =>
 A.chk (ldv false 1 a38 st) a39
 (A.noP (A.ret (s22 [a39.er1] z35) kid) fun a40 z41 =>
 A.bin .add a34 a40 fun a42 =>
 A.bin .gtr a42 (.int .i64 0) fun a43 =>
 A.cond a43
 (g5bzrt (g5bz6y n) x2 x7 x9 z41)
 (g5b11111 x7 z41)))
 (g5bzrt (g5bz6y n) x2 x7 x9 st)
 (A.guardT a2 false
 (A.iaddrA 2 1 (.tup []) (.int .i64 0) fun a44 =>
 A.load false 1 a44 st fun a45 _ =>
 A.noP (A.ret (s22 [a45.er1] st) kid) fun a46 z47 =>
 A.nilc x7 fun a48 =>
 A.faddr 0 a48 fun a49 =>
 A.iaddrA 2 1 a49 (.int .i64 1) fun a50 =>
 A.load false 1 a50 z47 fun a51 _ =>
 A.chk (ldv false 1 a50 st) a51
 (A.noP (A.ret (s22 [a51.er1] z47) kid) fun a52 z53 =>
 A.bin .add a46 a52 fun a54 =>
 A.bin .gtr a54 (.int .i64 0) fun a55 =>
 A.cond a55
 (g5bzrt (g5bz6y n) x2 x7 x9 z53)
 (g5b11111 x7 z53)))
 (g5bzrt (g5bz6y n) x2 x7 x9 st)
 (A.guardT a2 false
 (A.load false 1 (.tup []) st fun a56 _ =>
 A.noP (A.ret (s22 [a56.er1] st) kid) fun a57 z58 =>
 A.nilc x7 fun a59 =>
 A.faddr 0 a59 fun a60 =>
 A.iaddrA 2 1 a60 (.int .i64 1) fun a61 =>
 A.load false 1 a61 z58 fun a62 _ =>
 A.chk (ldv false 1 a61 st) a62
 (A.noP (A.ret (s22 [a62.er1] z58) kid) fun a63 z64 =>
 A.bin .add a57 a63 fun a65 =>
 A.bin .gtr a65 (.int .i64 0) fun a66 =>
 A.cond a66
 (g5bzrt (g5bz6y n) x2 x7 x9 z64)
 (g5b11111 x7 z64)))
 (g5bzrt (g5bz6y n) x2 x7 x9 st)
 (A.guardT a2 false
 (A.noP (A.ret (s22 [((.tup []) : V).er1] st) kid) fun a67 z68 =>
 A.nilc x7 fun a69 =>
 A.faddr 0 a69 fun a70 =>
 A.iaddrA 2 1 a70 (.int .i64 1) fun a71 =>
 A.load false 1 a71 z68 fun a72 _ =>
 A.chk (ldv false 1 a71 st) a72
 (A.noP (A.ret (s22 [a72.er1] z68) kid) fun a73 z74 =>
 A.bin .add a67 a73 fun a75 =>
 A.bin .gtr a75 (.int .i64 0) fun a76 =>
 A.cond a76
 (g5bzrt (g5bz6y n) x2 x7 x9 z74)
 (g5b11111 x7 z74)))
 (g5bzrt (g5bz6y n) x2 x7 x9 st)
 (A.guardT a2 false
 (A.nilc x7 fun a77 =>
 A.faddr 0 a77 fun a78 =>
 A.iaddrA 2 1 a78 (.int .i64 1) fun a79 =>
 A.load false 1 a79 st fun a80 _ =>
 A.noP (A.ret (s22 [a80.er1] st) kid) fun a81 z82 =>
 A.bin .add (.tup []) a81 fun a83 =>
 A.bin .gtr a83 (.int .i64 0) fun a84 =>
 A.cond a84
 (g5bzrt (g5bz6y n) x2 x7 x9 z82)
 (g5b11111 x7 z82))
 (g5bzrt (g5bz6y n) x2 x7 x9 st)
 (A.guardT a2 false
 (A.nilc (.tup []) fun a85 =>
 A.faddr 0 a85 fun a86 =>
 A.iaddrA 2 1 a86 (.int .i64 1) fun a87 =>
 A.load false 1 a87 st fun a88 _ =>
 A.noP (A.ret (s22 [a88.er1] st) kid) fun a89 z90 =>
 A.bin .add (.tup []) a89 fun a91 =>
 A.bin .gtr a91 (.int .i64 0) fun a92 =>
 A.cond a92
 (g5bzrt (g5bz6y n) x2 x7 x9 z90)
 (g5b11111 x7 z90))
 (g5bzrt (g5bz6y n) x2 x7 x9 st)
 (A.guardT a2 false
 (A.faddr 0 (.tup []) fun a93 =>
 A.iaddrA 2 1 a93 (.int .i64 1) fun a94 =>
 A.load false 1 a94 st fun a95 _ =>
 A.noP (A.ret (s22 [a95.er1] st) kid) fun a96 z97 =>
 A.bin .add (.tup []) a96 fun a98 =>
 A.bin .gtr a98 (.int .i64 0) fun a99 =>
 A.cond a99
 (g5bzrt (g5bz6y n) x2 x7 x9 z97)
 (g5b11111 x7 z97))
 (g5bzrt (g5bz6y n) x2 x7 x9 st)
 (A.guardT a2 false
 (A.iaddrA 2 1 (.tup []) (.int .i64 1) fun a100 =>
 A.load false 1 a100 st fun a101 _ =>
 A.noP (A.ret (s22 [a101.er1] st) kid) fun a102 z103 =>
 A.bin .add (.tup []) a102 fun a104 =>
 A.bin .gtr a104 (.int .i64 0) fun a105 =>
 A.cond a105
 (g5bzrt (g5bz6y n) x2 x7 x9 z103)
 (g5b11111 x7 z103))
 (g5bzrt (g5bz6y n) x2 x7 x9 st)
 (A.guardT a2 false
 (A.load false 1 (.tup []) st fun a106 _ =>
 A.noP (A.ret (s22 [a106.er1] st) kid) fun a107 z108 =>
 A.bin .add (.tup []) a107 fun a109 =>
 A.bin .gtr a109 (.int .i64 0) fun a110 =>
 A.cond a110
 (g5bzrt (g5bz6y n) x2 x7 x9 z108)
 (g5b11111 x7 z108))
 (g5bzrt (g5bz6y n) x2 x7 x9 st)
 (A.guardT a2 false
 (A.noP (A.ret (s22 [((.tup []) : V).er1] st) kid) fun a111 z112 =>
 A.bin .add (.tup []) a111 fun a113 =>
 A.bin .gtr a113 (.int .i64 0) fun a114 =>
 A.cond a114
 (g5bzrt (g5bz6y n) x2 x7 x9 z112)
 (g5b11111 x7 z112))
 (g5bzrt (g5bz6y n) x2 x7 x9 st)
 (A.guardT a2 false
 (A.bin .add (.tup []) (.tup []) fun a115 =>
 A.bin .gtr a115 (.int .i64 0) fun a116 =>
 A.cond a116
 (g5bzrt (g5bz6y n) x2 x7 x9 st)
 (g5b11111 x7 st))
 (g5bzrt (g5bz6y n) x2 x7 x9 st)
 (A.guardT a2 false
 (A.bin .gtr (.tup []) (.int .i64 0) fun a117 =>
 A.cond a117
 (g5bzrt (g5bz6y n) x2 x7 x9 st)
 (g5b11111 x7 st))
 (g5bzrt (g5bz6y n) x2 x7 x9 st)
 (A.pick a2 (.bool true) (.tup []) fun a118 =>
 A.cond a118
 (g5bzrt (g5bz6y n) x2 x7 x9 st)
 (g5b11111 x7 st))))))))))))))))
 (g5b11111 x7 st)
theorem g5nz6y : g5C [1, 1, 1, 1, 0, 1, 0] = .loop (g5C [1, 1, 1, 1, 0, 1, 0, 0]) := by kernel_rfl
theorem g5nzdw : g5C [1, 1, 1, 1, 0, 1, 0, 0] = .seq (g5C [1, 1, 1, 1, 0, 1, 0, 0, 0]) (g5C [1, 1, 1, 1, 0, 1, 0, 0, 1]) := by kernel_rfl
theorem g5ez6y : g5X (g5C [1, 1, 1, 1, 0, 1, 0]) (g5k2) = fun env st => g5bz6y big (env 2) (env 7) (env 9) st := by
  have key : ∀ n, aloop (g5X (g5C [1, 1, 1, 1, 0, 1, 0, 0])) (g5k2) n = fun env st => g5bz6y n (env 2) (env 7) (env 9) st := by
    intro n
    induction n with
    | zero => rfl
    | succ n ih =>
      have h : aloop (g5X (g5C [1, 1, 1, 1, 0, 1, 0, 0])) (g5k2) (n + 1) = g5X (g5C [1, 1, 1, 1, 0, 1, 0, 0]) (kSeq (aloop (g5X (g5C [1, 1, 1, 1, 0, 1, 0, 0])) (g5k2) n) (g5k2)) := rfl
      rw [h, ih]
      refine Eq.trans (g5seq g5nzdw (g5ezrt (g5bz6y n))) ?_
      funext env st
      kernel_rfl
  exact (g5loop g5nz6y).trans (key big)
noncomputable def g5b1111 (x2 : V) (x7 : V) (st : St) : Res :=
 g5bz6y big x2 x7 (.int .i64 0) st
theorem g5n1111 : g5C [1, 1, 1, 1] = .seq (g5C [1, 1, 1, 1, 0]) (g5C [1, 1, 1, 1, 1]) := by kernel_rfl
theorem g5n11110 : g5C [1, 1, 1, 1, 0] = .seq (g5C [1, 1, 1, 1, 0, 0]) (g5C [1, 1, 1, 1, 0, 1]) := by kernel_rfl
theorem g5nz3h : g5C [1, 1, 1, 1, 0, 1] = .block 2 (g5C [1, 1, 1, 1, 0, 1, 0]) := by kernel_rfl
theorem g5e1111 : g5X (g5C [1, 1, 1, 1]) (g5kr) = fun env st => g5b1111 (env 2) (env 7) st := by
  refine Eq.trans ((g5seq g5n1111 (g5e11111)).trans (g5seq g5n11110 ((g5blk g5nz3h).trans (g5ez6y)))) ?_
  funext env st
  kernel_rfl
noncomputable def g5k14 : Kon := kSeq (fun env st => g5b1111 (env 2) (env 7) st) (g5kr)
noncomputable def g5k15 : Kon := kBlk 0 (g5k14)
noncomputable def g5k16 (Lz3e : V → V → V → V → St → Res) : Kon := kSeq (fun env st => Lz3e (env 1) (env 2) (env 7) (env 8) st) (g5k15)
noncomputable def g5bzdl (Lz3e : V → V → V → V → St → Res) (x1 : V) (x2 : V) (x7 : V) (x8 : V) (st : St) : Res :=
 A.iaddr 1 x1 x8 fun a1 =>
 A.load false 1 a1 st fun a2 z3 =>
 A.bin .and a2 (.int .i64 1048575) fun a4 =>
 A.ret (s25 [x7.er1, a4.er1] z3) fun a5 z6 =>
 A.bin .add x8 (.int .i64 1) fun a7 =>
 Lz3e x1 x2 x7 a7 z6
theorem g5ezdl (Lz3e : V → V → V → V → St → Res) : g5X (g5C [1, 1, 1, 0, 1, 0, 0, 1]) (g5k16 Lz3e) = fun env st => g5bzdl Lz3e (env 1) (env 2) (env 7) (env 8) st := by
  refine Eq.trans (Eq.refl (g5X (g5C [1, 1, 1, 0, 1, 0, 0, 1]) (g5k16 Lz3e))) ?_
  funext env st
  kernel_rfl
noncomputable def g5bz3e : Nat → V → V → V → V → St → Res
| 0, _, _, _, _, _ => none
| n + 1, x1, x2, x7, x8, st =>
 A.lenL x1 fun a1 =>
 A.bin .lss x8 a1 fun a2 =>
 A.guard a2 true
 (A.bin .lss x8 (.int .i64 150) fun a3 =>
 A.cond a3
 (g5bzdl (g5bz3e n) x1 x2 x7 x8 st)
 (g5b1111 x2 x7 st))
 (g5b1111 x2 x7 st)
theorem g5nz3e : g5C [1, 1, 1, 0, 1, 0] = .loop (g5C [1, 1, 1, 0, 1, 0, 0]) := by kernel_rfl
theorem g5nz6s : g5C [1, 1, 1, 0, 1, 0, 0] = .seq (g5C [1, 1, 1, 0, 1, 0, 0, 0]) (g5C [1, 1, 1, 0, 1, 0, 0, 1]) := by kernel_rfl
theorem g5ez3e : g5X (g5C [1, 1, 1, 0, 1, 0]) (g5k15) = fun env st => g5bz3e big (env 1) (env 2) (env 7) (env 8) st := by
  have key : ∀ n, aloop (g5X (g5C [1, 1, 1, 0, 1, 0, 0])) (g5k15) n = fun env st => g5bz3e n (env 1) (env 2) (env 7) (env 8) st := by
    intro n
    induction n with
    | zero => rfl
    | succ n ih =>
      have h : aloop (g5X (g5C [1, 1, 1, 0, 1, 0, 0])) (g5k15) (n + 1) = g5X (g5C [1, 1, 1, 0, 1, 0, 0]) (kSeq (aloop (g5X (g5C [1, 1, 1, 0, 1, 0, 0])) (g5k15) n) (g5k15)) := rfl
      rw [h, ih]
      refine Eq.trans (g5seq g5nz6s (g5ezdl (g5bz3e n))) ?_
      funext env st
      kernel_rfl
  exact (g5loop g5nz3e).trans (key big)
noncomputable def g5b11101 (x1 : V) (x2 : V) (x7 : V) (x8 : V) (st : St) : Res :=
 g5bz3e big x1 x2 x7 x8 st
theorem g5n11101 : g5C [1, 1, 1, 0, 1] = .block 0 (g5C [1, 1, 1, 0, 1, 0]) := by kernel_rfl
theorem g5e11101 : g5X (g5C [1, 1, 1, 0, 1]) (g5k14) = fun env st => g5b11101 (env 1) (env 2) (env 7) (env 8) st := by
  refine Eq.trans ((g5blk g5n11101).trans (g5ez3e)) ?_
  funext env st
  kernel_rfl
noncomputable def f5 (x0 : V) (x1 : V) (x2 : V) (st : St) : Res :=
 A.ret (s24 [x0.er1] st) fun a1 z2 =>
 A.nilc a1 fun a3 =>
 A.faddr 8 a3 fun a4 =>
 A.load false 1 a4 z2 fun a5 z6 =>
 A.un .not a5 fun a7 =>
 A.cond a7
 (some (.ret ((.bool false) : V).er1, z6))
 (g5b11101 x1 x2 a1 (.int .i64 0) z6)
theorem g5nr : g5C [] = .seq (g5C [0]) (g5C [1]) := by kernel_rfl
theorem g5n1 : g5C [1] = .seq (g5C [1, 0]) (g5C [1, 1]) := by kernel_rfl
theorem g5n11 : g5C [1, 1] = .seq (g5C [1, 1, 0]) (g5C [1, 1, 1]) := by kernel_rfl
theorem g5n111 : g5C [1, 1, 1] = .seq (g5C [1, 1, 1, 0]) (g5C [1, 1, 1, 1]) := by kernel_rfl
theorem g5n1110 : g5C [1, 1, 1, 0] = .seq (g5C [1, 1, 1, 0, 0]) (g5C [1, 1, 1, 0, 1]) := by kernel_rfl
theorem g5er (env : Env) (st : St) : g5X (g5C []) g5kr env st = f5 (env 0) (env 1) (env 2) st := by
  rw [(g5seq g5nr (g5seq g5n1 (g5seq g5n11 ((g5seq g5n111 (g5e1111)).trans (g5seq g5n1110 (g5e11101))))))]
  kernel_rfl
theorem s5_eq (x0 : V) (x1 : V) (x2 : V) (st : St) : s5 [x0, x1, x2] st = f5 x0 x1 x2 st := by
  have h : afn Try.prog g5mu g5T big (areg Try.prog g5mu g5T) 5 [x0, x1, x2] st = g5X (g5C []) g5kr (fun t => [x0, x1, x2].getD t (.tup [])) st := by kernel_rfl
  rw [s5, sealF_eq]
  exact h.trans (g5er _ st)
/-! sinew/sinewlaw15.LinkNobody -/
def g7mu : Nat → Bool := fun _ => false
noncomputable def g7T : Tbl := tget [(11, s11), (13, s13), (16, s16), (19, s19), (22, s22), (23, s23)]
theorem g7t : SimT Try.prog g7T := simT_cons sim11 ( simT_cons sim13 ( simT_cons sim16 ( simT_cons sim19 ( simT_cons sim22 ( simT_cons sim23 (simT_nil))))))
noncomputable def s7 : Fn := sealF (afn Try.prog g7mu g7T big (areg Try.prog g7mu g7T) 7)
theorem sim7 : Sim Try.prog 7 s7 := (afn_sim g7t (fun m => areg_sound g7t hmix m) 7 (by kernel_rfl)).sealed
noncomputable def g7C (p : List Nat) : Code := sub (match Try.f7.body with | some c => c | none => .skip) p
noncomputable def g7X (c : Code) (K : Kon) : Env → St → Res := aexec Try.prog g7mu g7T big 81 (areg Try.prog g7mu g7T 81) c K
noncomputable def g7kr : Kon := aresK Try.prog Try.f7.results.toList
theorem g7reg {c : Code} {K : Kon} {G : Env → St → Res} {id : Nat} {ops : Array Oper} {l1 l2 : List Nat} (hc : c = .region id ops false) (hl : List.range ops.size = l1 ++ l2) (h : (fun env st => aops Try.prog g7mu g7T 81 ops l2 env st (K .normal)) = G) : g7X c K = fun env st => aops Try.prog g7mu g7T 81 ops l1 env st G := reg_cut hc hl h
theorem g7seq {c x y : Code} {K : Kon} {G : Env → St → Res} (hc : c = .seq x y) (hy : g7X y K = G) : g7X c K = g7X x (kSeq G K) := seq_cut hc hy
theorem g7blk {c x : Code} {K : Kon} {i : Nat} (hc : c = .block i x) : g7X c K = g7X x (kBlk i K) := blk_cut hc
theorem g7loop {c x : Code} {K : Kon} (hc : c = .loop x) : g7X c K = aloop (g7X x) K big := loop_cut hc
theorem g7cond {c x y : Code} {K : Kon} {v : Operand} {F G : Env → St → Res} (hc : c = .cond v x y) (hx : g7X x K = F) (hy : g7X y K = G) : g7X c K = condF v F G := cond_cut hc hx hy
noncomputable def g7k0 : Kon := kSeq (g7X (g7C [1, 1, 1]) (g7kr)) (g7kr)
noncomputable def g7k1 : Kon := kBlk 0 (g7k0)
noncomputable def g7k2 (L11010 : V → V → V → V → St → Res) : Kon := kSeq (fun env st => L11010 (env 1) (env 2) (env 5) (env 6) st) (g7k1)
noncomputable def g7k3 (L11010 : V → V → V → V → St → Res) : Kon := kSeq (g7X (g7C [1, 1, 0, 1, 0, 0, 1, 1]) (g7k2 L11010)) (g7k2 L11010)
noncomputable def g7k4 (L11010 : V → V → V → V → St → Res) : Kon := kBlk 1 (g7k3 L11010)
noncomputable def g7k5 (L11010 : V → V → V → V → St → Res) : Kon := kSeq (g7X (g7C [1, 1, 0, 1, 0, 0, 1, 0, 0, 1, 1, 1]) (g7k4 L11010)) (g7k4 L11010)
noncomputable def g7bz5ra_39 (L11010 : V → V → V → V → St → Res) (x1 : V) (x2 : V) (x5 : V) (x6 : V) (x72 : V) (st : St) : Res :=
 A.guard x72 false
 (A.iaddr 1 x5 x6 fun a1 =>
 A.load false 1 a1 st fun a2 z3 =>
 A.ret (s23 [a2.er1] z3) fun a4 z5 =>
 A.eql 2 true a4 (.int .i64 0) fun a6 =>
 A.cond a6
 (some (.ret ((.bool false) : V).er1, z5))
 (A.bin .add x6 (.int .i64 1) fun a7 =>
 L11010 x1 x2 x5 a7 z5))
 (some (.ret ((.bool false) : V).er1, st))
theorem g7ez5ra_39 (L11010 : V → V → V → V → St → Res) : (fun env st => aops Try.prog g7mu g7T 81 (rops (g7C [1, 1, 0, 1, 0, 0, 1, 0, 0, 1, 1, 0])) [39, 40, 41, 42, 43, 44, 45] env st ((g7k5 L11010) .normal)) = fun env st => g7bz5ra_39 L11010 (env 1) (env 2) (env 5) (env 6) (env 72) st := by
  refine Eq.trans (Eq.refl _) ?_
  funext env st
  kernel_rfl
noncomputable def g7bz5ra_27 (L11010 : V → V → V → V → St → Res) (x1 : V) (x2 : V) (x5 : V) (x6 : V) (x9 : V) (x60 : V) (st : St) : Res :=
 A.guard x60 false
 (A.faddr 2 x9 fun a1 =>
 A.load false 1 a1 st fun a2 z3 =>
 A.guard a2 false
 (A.iaddr 1 x5 x6 fun a4 =>
 A.load false 1 a4 z3 fun a5 z6 =>
 A.ret (s22 [a5.er1] z6) fun a7 z8 =>
 A.eql 2 true a7 (.int .i64 0) fun a9 =>
 g7bz5ra_39 L11010 x1 x2 x5 x6 a9 z8)
 (g7bz5ra_39 L11010 x1 x2 x5 x6 (.bool true) z3))
 (g7bz5ra_39 L11010 x1 x2 x5 x6 (.bool true) st)
theorem g7ez5ra_27 (L11010 : V → V → V → V → St → Res) : (fun env st => aops Try.prog g7mu g7T 81 (rops (g7C [1, 1, 0, 1, 0, 0, 1, 0, 0, 1, 1, 0])) [27, 28, 29, 30, 31, 32, 33, 34, 35, 36, 37, 38, 39, 40, 41, 42, 43, 44, 45] env st ((g7k5 L11010) .normal)) = fun env st => g7bz5ra_27 L11010 (env 1) (env 2) (env 5) (env 6) (env 9) (env 60) st := by
  refine Eq.trans (ops_cut (l1 := [27, 28, 29, 30, 31, 32, 33, 34, 35, 36, 37, 38]) (l2 := [39, 40, 41, 42, 43, 44, 45]) (g7ez5ra_39 L11010)) ?_
  funext env st
  kernel_rfl
noncomputable def g7bz5ra_17 (L11010 : V → V → V → V → St → Res) (x1 : V) (x2 : V) (x5 : V) (x6 : V) (x9 : V) (x50 : V) (st : St) : Res :=
 A.guard x50 false
 (A.faddr 0 x9 fun a1 =>
 A.load false 1 a1 st fun a2 z3 =>
 A.lenL a2 fun a4 =>
 A.faddr 1 x9 fun a5 =>
 A.load false 1 a5 z3 fun a6 z7 =>
 A.lenL a6 fun a8 =>
 A.bin .add a4 a8 fun a9 =>
 A.bin .gtr a9 (.int .i64 0) fun a10 =>
 g7bz5ra_27 L11010 x1 x2 x5 x6 x9 a10 z7)
 (g7bz5ra_27 L11010 x1 x2 x5 x6 x9 (.bool true) st)
theorem g7ez5ra_17 (L11010 : V → V → V → V → St → Res) : (fun env st => aops Try.prog g7mu g7T 81 (rops (g7C [1, 1, 0, 1, 0, 0, 1, 0, 0, 1, 1, 0])) [17, 18, 19, 20, 21, 22, 23, 24, 25, 26, 27, 28, 29, 30, 31, 32, 33, 34, 35, 36, 37, 38, 39, 40, 41, 42, 43, 44, 45] env st ((g7k5 L11010) .normal)) = fun env st => g7bz5ra_17 L11010 (env 1) (env 2) (env 5) (env 6) (env 9) (env 50) st := by
  refine Eq.trans (ops_cut (l1 := [17, 18, 19, 20, 21, 22, 23, 24, 25, 26]) (l2 := [27, 28, 29, 30, 31, 32, 33, 34, 35, 36, 37, 38, 39, 40, 41, 42, 43, 44, 45]) (g7ez5ra_27 L11010)) ?_
  funext env st
  kernel_rfl
noncomputable def g7bz5ra_8 (L11010 : V → V → V → V → St → Res) (x1 : V) (x2 : V) (x5 : V) (x6 : V) (x9 : V) (x41 : V) (st : St) : Res :=
 A.guard x41 false
 (A.iaddr 1 x5 x6 fun a1 =>
 A.load false 1 a1 st fun a2 z3 =>
 A.ret (s16 [a2.er1] z3) fun a4 z5 =>
 A.lenL a4 fun a6 =>
 A.bin .gtr a6 (.int .i64 0) fun a7 =>
 g7bz5ra_17 L11010 x1 x2 x5 x6 x9 a7 z5)
 (g7bz5ra_17 L11010 x1 x2 x5 x6 x9 (.bool true) st)
theorem g7ez5ra_8 (L11010 : V → V → V → V → St → Res) : (fun env st => aops Try.prog g7mu g7T 81 (rops (g7C [1, 1, 0, 1, 0, 0, 1, 0, 0, 1, 1, 0])) [8, 9, 10, 11, 12, 13, 14, 15, 16, 17, 18, 19, 20, 21, 22, 23, 24, 25, 26, 27, 28, 29, 30, 31, 32, 33, 34, 35, 36, 37, 38, 39, 40, 41, 42, 43, 44, 45] env st ((g7k5 L11010) .normal)) = fun env st => g7bz5ra_8 L11010 (env 1) (env 2) (env 5) (env 6) (env 9) (env 41) st := by
  refine Eq.trans (ops_cut (l1 := [8, 9, 10, 11, 12, 13, 14, 15, 16]) (l2 := [17, 18, 19, 20, 21, 22, 23, 24, 25, 26, 27, 28, 29, 30, 31, 32, 33, 34, 35, 36, 37, 38, 39, 40, 41, 42, 43, 44, 45]) (g7ez5ra_17 L11010)) ?_
  funext env st
  kernel_rfl
noncomputable def g7bz1ft (L11010 : V → V → V → V → St → Res) (x1 : V) (x2 : V) (x5 : V) (x6 : V) (x7 : V) (x8 : V) (st : St) : Res :=
 A.iaddr 1 x5 x6 fun a1 =>
 A.load false 1 a1 st fun a2 z3 =>
 A.ret (s19 [a2.er1, x1.er1] z3) fun a4 z5 =>
 A.box (.agg [(.lst [] 1), (.lst [] 1), (.bool false)]) z5 fun a6 z7 =>
 A.store 3 a6 a4 z7 fun z8 =>
 A.lenL x7 fun a9 =>
 A.bin .gtr a9 (.int .i64 0) fun a10 =>
 A.guard a10 false
 (A.eql 2 true x8 (.int .i64 1) fun a11 =>
 g7bz5ra_8 L11010 x1 x2 x5 x6 a6 a11 z8)
 (g7bz5ra_8 L11010 x1 x2 x5 x6 a6 (.bool true) z8)
theorem g7nz1ft : g7C [1, 1, 0, 1, 0, 0, 1, 0, 0, 1] = .seq (g7C [1, 1, 0, 1, 0, 0, 1, 0, 0, 1, 0]) (g7C [1, 1, 0, 1, 0, 0, 1, 0, 0, 1, 1]) := by kernel_rfl
theorem g7nz2vn : g7C [1, 1, 0, 1, 0, 0, 1, 0, 0, 1, 1] = .seq (g7C [1, 1, 0, 1, 0, 0, 1, 0, 0, 1, 1, 0]) (g7C [1, 1, 0, 1, 0, 0, 1, 0, 0, 1, 1, 1]) := by kernel_rfl
theorem g7rgz5ra : g7C [1, 1, 0, 1, 0, 0, 1, 0, 0, 1, 1, 0] = .region 7 (rops (g7C [1, 1, 0, 1, 0, 0, 1, 0, 0, 1, 1, 0])) false := by kernel_rfl
theorem g7rgz5ral : List.range (rops (g7C [1, 1, 0, 1, 0, 0, 1, 0, 0, 1, 1, 0])).size = [0, 1, 2, 3, 4, 5, 6, 7] ++ [8, 9, 10, 11, 12, 13, 14, 15, 16, 17, 18, 19, 20, 21, 22, 23, 24, 25, 26, 27, 28, 29, 30, 31, 32, 33, 34, 35, 36, 37, 38, 39, 40, 41, 42, 43, 44, 45] := by kernel_rfl
theorem g7ez1ft (L11010 : V → V → V → V → St → Res) : g7X (g7C [1, 1, 0, 1, 0, 0, 1, 0, 0, 1]) (g7k4 L11010) = fun env st => g7bz1ft L11010 (env 1) (env 2) (env 5) (env 6) (env 7) (env 8) st := by
  refine Eq.trans (g7seq g7nz1ft ((g7seq g7nz2vn rfl).trans (g7reg g7rgz5ra g7rgz5ral (g7ez5ra_8 L11010)))) ?_
  funext env st
  kernel_rfl
noncomputable def g7b11010 : Nat → V → V → V → V → St → Res
| 0, _, _, _, _, _ => none
| n + 1, x1, x2, x5, x6, st =>
 A.lenL x5 fun a1 =>
 A.bin .lss x6 a1 fun a2 =>
 A.cond a2
 (A.iaddr 1 x5 x6 fun a3 =>
 A.load false 1 a3 st fun a4 _ =>
 A.load true 4 x2 st fun a5 _ =>
 A.noP (A.ret (s13 [a4.er1, a5.er1] st) kid) fun a6 z7 =>
 A.ext a6 0 fun a8 =>
 A.ext a6 1 fun a9 =>
 g7bz1ft (g7b11010 n) x1 x2 x5 x6 a8 a9 z7)
 (A.ret (s11 [] st) fun a10 z11 =>
 some (.ret a10.er1, z11))
theorem g7n11010 : g7C [1, 1, 0, 1, 0] = .loop (g7C [1, 1, 0, 1, 0, 0]) := by kernel_rfl
theorem g7nz38 : g7C [1, 1, 0, 1, 0, 0] = .seq (g7C [1, 1, 0, 1, 0, 0, 0]) (g7C [1, 1, 0, 1, 0, 0, 1]) := by kernel_rfl
theorem g7nz6h : g7C [1, 1, 0, 1, 0, 0, 1] = .seq (g7C [1, 1, 0, 1, 0, 0, 1, 0]) (g7C [1, 1, 0, 1, 0, 0, 1, 1]) := by kernel_rfl
theorem g7nzcy : g7C [1, 1, 0, 1, 0, 0, 1, 0] = .block 1 (g7C [1, 1, 0, 1, 0, 0, 1, 0, 0]) := by kernel_rfl
theorem g7nzpw : g7C [1, 1, 0, 1, 0, 0, 1, 0, 0] = .seq (g7C [1, 1, 0, 1, 0, 0, 1, 0, 0, 0]) (g7C [1, 1, 0, 1, 0, 0, 1, 0, 0, 1]) := by kernel_rfl
theorem g7e11010 : g7X (g7C [1, 1, 0, 1, 0]) (g7k1) = fun env st => g7b11010 big (env 1) (env 2) (env 5) (env 6) st := by
  have key : ∀ n, aloop (g7X (g7C [1, 1, 0, 1, 0, 0])) (g7k1) n = fun env st => g7b11010 n (env 1) (env 2) (env 5) (env 6) st := by
    intro n
    induction n with
    | zero => rfl
    | succ n ih =>
      have h : aloop (g7X (g7C [1, 1, 0, 1, 0, 0])) (g7k1) (n + 1) = g7X (g7C [1, 1, 0, 1, 0, 0]) (kSeq (aloop (g7X (g7C [1, 1, 0, 1, 0, 0])) (g7k1) n) (g7k1)) := rfl
      rw [h, ih]
      refine Eq.trans (g7seq g7nz38 ((g7seq g7nz6h rfl).trans ((g7blk g7nzcy).trans (g7seq g7nzpw (g7ez1ft (g7b11010 n)))))) ?_
      funext env st
      kernel_rfl
  exact (g7loop g7n11010).trans (key big)
noncomputable def f7 (x0 : V) (x1 : V) (st : St) : Res :=
 A.box x0 st fun a1 z2 =>
 A.build [(.int .i64 0), (.int .i64 0), (.int .i64 0), (.int .i64 0), (.lst [] 1)] [] fun a3 =>
 A.box a3 z2 fun a4 z5 =>
 A.bslice 1 .ptr0 2 [(0, .ptr0), (1, a4)] fun a6 =>
 g7b11010 big x1 a1 a6 (.int .i64 0) z5
theorem g7nr : g7C [] = .seq (g7C [0]) (g7C [1]) := by kernel_rfl
theorem g7n1 : g7C [1] = .seq (g7C [1, 0]) (g7C [1, 1]) := by kernel_rfl
theorem g7n11 : g7C [1, 1] = .seq (g7C [1, 1, 0]) (g7C [1, 1, 1]) := by kernel_rfl
theorem g7n110 : g7C [1, 1, 0] = .seq (g7C [1, 1, 0, 0]) (g7C [1, 1, 0, 1]) := by kernel_rfl
theorem g7n1101 : g7C [1, 1, 0, 1] = .block 0 (g7C [1, 1, 0, 1, 0]) := by kernel_rfl
theorem g7er (env : Env) (st : St) : g7X (g7C []) g7kr env st = f7 (env 0) (env 1) st := by
  rw [(g7seq g7nr (g7seq g7n1 ((g7seq g7n11 rfl).trans (g7seq g7n110 ((g7blk g7n1101).trans (g7e11010))))))]
  kernel_rfl
theorem s7_eq (x0 : V) (x1 : V) (st : St) : s7 [x0, x1] st = f7 x0 x1 st := by
  have h : afn Try.prog g7mu g7T big (areg Try.prog g7mu g7T) 7 [x0, x1] st = g7X (g7C []) g7kr (fun t => [x0, x1].getD t (.tup [])) st := by kernel_rfl
  rw [s7, sealF_eq]
  exact h.trans (g7er _ st)
end Go.Ab
