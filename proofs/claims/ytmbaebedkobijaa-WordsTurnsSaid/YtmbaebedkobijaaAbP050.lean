import Derived.Test.YtmbaebedkobijaaAbQuiet
import Derived.Test.YtmbaebedkobijaaAbS05merged0
namespace Go.Ab
open Go.Proofs
set_option linter.unusedVariables false
set_option maxRecDepth 100000
theorem hmix : Try.prog.follows .mixedOrders = true := by kernel_rfl
/-! (*sinew/words.Dict).given -/
def g23mu : Nat → Bool := fun _ => false
noncomputable def g23T : Tbl := tget []
theorem g23t : SimT Try.prog g23T := simT_nil
noncomputable def s23 : Fn := sealF (afn Try.prog g23mu g23T big (areg Try.prog g23mu g23T) 23)
theorem sim23 : Sim Try.prog 23 s23 := (afn_sim g23t (fun m => areg_sound g23t hmix m) 23 (by kernel_rfl)).sealed
noncomputable def f23 (x0 : V) (st : St) : Res :=
 A.eql 4 true x0 .ptr0 fun a1 =>
 A.guard a1 true
 (A.nilc x0 fun a2 =>
 A.faddr 0 a2 fun a3 =>
 A.load false 1 a3 st fun a4 z5 =>
 A.eql 6 true a4 .map0 fun a6 =>
 some (.ret a6.er1, z5))
 (some (.ret ((.bool false) : V).er1, st))
theorem s23_eq (x0 : V) (st : St) : s23 [x0] st = f23 x0 st := by
  rw [s23, sealF_eq]
  kernel_rfl
/-! sinew/words.New -/
def g11mu : Nat → Bool := fun _ => false
noncomputable def g11T : Tbl := tget []
theorem g11t : SimT Try.prog g11T := simT_nil
noncomputable def s11 : Fn := sealF (afn Try.prog g11mu g11T big (areg Try.prog g11mu g11T) 11)
theorem sim11 : Sim Try.prog 11 s11 := (afn_sim g11t (fun m => areg_sound g11t hmix m) 11 (by kernel_rfl)).sealed
noncomputable def f11 (st : St) : Res :=
 A.mkmap st fun a1 z2 =>
 A.build [.map0, (.lst [] 1)] [(0, 1, a1)] fun a3 =>
 A.box a3 z2 fun a4 z5 =>
 some (.ret a4.er1, z5)
theorem s11_eq (st : St) : s11 [] st = f11 st := by
  rw [s11, sealF_eq]
  kernel_rfl
/-! (*sinew/words.Dict).Put -/
def g12mu : Nat → Bool := fun _ => false
noncomputable def g12T : Tbl := tget [(9, s9), (23, s23)]
theorem g12t : SimT Try.prog g12T := simT_cons sim9 ( simT_cons sim23 (simT_nil))
noncomputable def s12 : Fn := sealF (afn Try.prog g12mu g12T big (areg Try.prog g12mu g12T) 12)
theorem sim12 : Sim Try.prog 12 s12 := (afn_sim g12t (fun m => areg_sound g12t hmix m) 12 (by kernel_rfl)).sealed
noncomputable def g12C (p : List Nat) : Code := sub (match Try.f12.body with | some c => c | none => .skip) p
noncomputable def g12X (c : Code) (K : Kon) : Env → St → Res := aexec Try.prog g12mu g12T big 49 (areg Try.prog g12mu g12T 49) c K
noncomputable def g12kr : Kon := aresK Try.prog Try.f12.results.toList
theorem g12reg {c : Code} {K : Kon} {G : Env → St → Res} {id : Nat} {ops : Array Oper} {l1 l2 : List Nat} (hc : c = .region id ops false) (hl : List.range ops.size = l1 ++ l2) (h : (fun env st => aops Try.prog g12mu g12T 49 ops l2 env st (K .normal)) = G) : g12X c K = fun env st => aops Try.prog g12mu g12T 49 ops l1 env st G := reg_cut hc hl h
theorem g12seq {c x y : Code} {K : Kon} {G : Env → St → Res} (hc : c = .seq x y) (hy : g12X y K = G) : g12X c K = g12X x (kSeq G K) := seq_cut hc hy
theorem g12blk {c x : Code} {K : Kon} {i : Nat} (hc : c = .block i x) : g12X c K = g12X x (kBlk i K) := blk_cut hc
theorem g12loop {c x : Code} {K : Kon} (hc : c = .loop x) : g12X c K = aloop (g12X x) K big := loop_cut hc
theorem g12cond {c x y : Code} {K : Kon} {v : Operand} {F G : Env → St → Res} (hc : c = .cond v x y) (hx : g12X x K = F) (hy : g12X y K = G) : g12X c K = condF v F G := cond_cut hc hx hy
noncomputable def g12k0 : Kon := kSeq (g12X (g12C [1, 1, 1, 1]) (g12kr)) (g12kr)
noncomputable def g12b11101011 (x0 : V) (x1 : V) (x6 : V) (st : St) : Res :=
 A.nilc x0 fun a1 =>
 A.faddr 1 a1 fun a2 =>
 A.load false 1 a2 st fun a3 z4 =>
 A.bslice 1 (.str []) 1 [(0, x1)] fun a5 =>
 A.app 1 a3 (elemsOf 5 1 a5 z4) z4 fun a6 z7 =>
 A.nilc x0 fun a8 =>
 A.faddr 1 a8 fun a9 =>
 A.store 1 a9 a6 z7 fun z10 =>
 some (.ret (.tup [x6.er1, ((.int .i64 0) : V).er1]), z10)
theorem g12e11101011 : g12X (g12C [1, 1, 1, 0, 1, 0, 1, 1]) (g12k0) = fun env st => g12b11101011 (env 0) (env 1) (env 6) st := by
  refine Eq.trans (Eq.refl (g12X (g12C [1, 1, 1, 0, 1, 0, 1, 1]) (g12k0))) ?_
  funext env st
  kernel_rfl
noncomputable def g12b111 (x0 : V) (x1 : V) (x6 : V) (x7 : V) (st : St) : Res :=
 A.un .not x7 fun a1 =>
 A.cond a1
 (A.nilc x0 fun a2 =>
 A.faddr 1 a2 fun a3 =>
 A.load false 1 a3 st fun a4 z5 =>
 A.lenL a4 fun a6 =>
 A.nilc x0 fun a7 =>
 A.faddr 0 a7 fun a8 =>
 A.load false 1 a8 z5 fun a9 z10 =>
 A.mapUpdK (keyB Try.prog 9 x1) a9 x1 a6 z10 fun z11 =>
 g12b11101011 x0 x1 a6 z11)
 (some (.ret (.tup [x6.er1, ((.int .i64 0) : V).er1]), st))
theorem g12n111 : g12C [1, 1, 1] = .seq (g12C [1, 1, 1, 0]) (g12C [1, 1, 1, 1]) := by kernel_rfl
theorem g12n1110 : g12C [1, 1, 1, 0] = .seq (g12C [1, 1, 1, 0, 0]) (g12C [1, 1, 1, 0, 1]) := by kernel_rfl
theorem g12n11101 : g12C [1, 1, 1, 0, 1] = .cond (.tmp 26) (g12C [1, 1, 1, 0, 1, 0]) (g12C [1, 1, 1, 0, 1, 1]) := by kernel_rfl
theorem g12n111010 : g12C [1, 1, 1, 0, 1, 0] = .seq (g12C [1, 1, 1, 0, 1, 0, 0]) (g12C [1, 1, 1, 0, 1, 0, 1]) := by kernel_rfl
theorem g12n1110101 : g12C [1, 1, 1, 0, 1, 0, 1] = .seq (g12C [1, 1, 1, 0, 1, 0, 1, 0]) (g12C [1, 1, 1, 0, 1, 0, 1, 1]) := by kernel_rfl
theorem g12e111 : g12X (g12C [1, 1, 1]) (g12kr) = fun env st => g12b111 (env 0) (env 1) (env 6) (env 7) st := by
  refine Eq.trans ((g12seq g12n111 rfl).trans (g12seq g12n1110 (g12cond g12n11101 (g12seq g12n111010 (g12seq g12n1110101 (g12e11101011))) rfl))) ?_
  funext env st
  kernel_rfl
noncomputable def g12b11 (x0 : V) (x1 : V) (st : St) : Res :=
 A.nilc x0 fun a1 =>
 A.faddr 0 a1 fun a2 =>
 A.load false 1 a2 st fun a3 z4 =>
 A.lookupK (keyB Try.prog 9 x1) (.int .i64 0) true a3 x1 z4 fun a5 =>
 A.ext a5 0 fun a6 =>
 A.ext a5 1 fun a7 =>
 g12b111 x0 x1 a6 a7 z4
theorem g12n11 : g12C [1, 1] = .seq (g12C [1, 1, 0]) (g12C [1, 1, 1]) := by kernel_rfl
theorem g12e11 : g12X (g12C [1, 1]) (g12kr) = fun env st => g12b11 (env 0) (env 1) st := by
  refine Eq.trans (g12seq g12n11 (g12e111)) ?_
  funext env st
  kernel_rfl
noncomputable def f12 (x0 : V) (x1 : V) (st : St) : Res :=
 A.ret (s23 [x0.er1] st) fun a1 z2 =>
 A.un .not a1 fun a3 =>
 A.guard a3 false
 (A.ret (s9 [x1.er1] z2) fun a4 z5 =>
 A.un .not a4 fun a6 =>
 A.cond a6
 (some (.ret (.tup [((.int .i64 0) : V).er1, ((.int .i64 1) : V).er1]), z5))
 (g12b11 x0 x1 z5))
 (some (.ret (.tup [((.int .i64 0) : V).er1, ((.int .i64 1) : V).er1]), z2))
theorem g12nr : g12C [] = .seq (g12C [0]) (g12C [1]) := by kernel_rfl
theorem g12n1 : g12C [1] = .seq (g12C [1, 0]) (g12C [1, 1]) := by kernel_rfl
theorem g12er (env : Env) (st : St) : g12X (g12C []) g12kr env st = f12 (env 0) (env 1) st := by
  rw [(g12seq g12nr (g12seq g12n1 (g12e11)))]
  kernel_rfl
theorem s12_eq (x0 : V) (x1 : V) (st : St) : s12 [x0, x1] st = f12 x0 x1 st := by
  have h : afn Try.prog g12mu g12T big (areg Try.prog g12mu g12T) 12 [x0, x1] st = g12X (g12C []) g12kr (fun t => [x0, x1].getD t (.tup [])) st := by kernel_rfl
  rw [s12, sealF_eq]
  exact h.trans (g12er _ st)
/-! (*sinew/words.Dict).Id -/
def g17mu : Nat → Bool := fun _ => false
noncomputable def g17T : Tbl := tget [(23, s23)]
theorem g17t : SimT Try.prog g17T := simT_cons sim23 (simT_nil)
noncomputable def s17 : Fn := sealF (afn Try.prog g17mu g17T big (areg Try.prog g17mu g17T) 17)
theorem sim17 : Sim Try.prog 17 s17 := (afn_sim g17t (fun m => areg_sound g17t hmix m) 17 (by kernel_rfl)).sealed
noncomputable def g17C (p : List Nat) : Code := sub (match Try.f17.body with | some c => c | none => .skip) p
noncomputable def g17X (c : Code) (K : Kon) : Env → St → Res := aexec Try.prog g17mu g17T big 23 (areg Try.prog g17mu g17T 23) c K
noncomputable def g17kr : Kon := aresK Try.prog Try.f17.results.toList
theorem g17reg {c : Code} {K : Kon} {G : Env → St → Res} {id : Nat} {ops : Array Oper} {l1 l2 : List Nat} (hc : c = .region id ops false) (hl : List.range ops.size = l1 ++ l2) (h : (fun env st => aops Try.prog g17mu g17T 23 ops l2 env st (K .normal)) = G) : g17X c K = fun env st => aops Try.prog g17mu g17T 23 ops l1 env st G := reg_cut hc hl h
theorem g17seq {c x y : Code} {K : Kon} {G : Env → St → Res} (hc : c = .seq x y) (hy : g17X y K = G) : g17X c K = g17X x (kSeq G K) := seq_cut hc hy
theorem g17blk {c x : Code} {K : Kon} {i : Nat} (hc : c = .block i x) : g17X c K = g17X x (kBlk i K) := blk_cut hc
theorem g17loop {c x : Code} {K : Kon} (hc : c = .loop x) : g17X c K = aloop (g17X x) K big := loop_cut hc
theorem g17cond {c x y : Code} {K : Kon} {v : Operand} {F G : Env → St → Res} (hc : c = .cond v x y) (hx : g17X x K = F) (hy : g17X y K = G) : g17X c K = condF v F G := cond_cut hc hx hy
noncomputable def g17b111 (x6 : V) (x7 : V) (st : St) : Res :=
 A.un .not x7 fun a1 =>
 A.cond a1
 (some (.ret (.tup [((.int .i64 0) : V).er1, ((.int .i64 3) : V).er1]), st))
 (some (.ret (.tup [x6.er1, ((.int .i64 0) : V).er1]), st))
theorem g17e111 : g17X (g17C [1, 1, 1]) (g17kr) = fun env st => g17b111 (env 6) (env 7) st := by
  refine Eq.trans (Eq.refl (g17X (g17C [1, 1, 1]) (g17kr))) ?_
  funext env st
  kernel_rfl
noncomputable def f17 (x0 : V) (x1 : V) (st : St) : Res :=
 A.ret (s23 [x0.er1] st) fun a1 z2 =>
 A.un .not a1 fun a3 =>
 A.cond a3
 (some (.ret (.tup [((.int .i64 0) : V).er1, ((.int .i64 1) : V).er1]), z2))
 (A.nilc x0 fun a4 =>
 A.faddr 0 a4 fun a5 =>
 A.load false 1 a5 z2 fun a6 z7 =>
 A.lookupK (keyB Try.prog 9 x1) (.int .i64 0) true a6 x1 z7 fun a8 =>
 A.ext a8 0 fun a9 =>
 A.ext a8 1 fun a10 =>
 g17b111 a9 a10 z7)
theorem g17nr : g17C [] = .seq (g17C [0]) (g17C [1]) := by kernel_rfl
theorem g17n1 : g17C [1] = .seq (g17C [1, 0]) (g17C [1, 1]) := by kernel_rfl
theorem g17n11 : g17C [1, 1] = .seq (g17C [1, 1, 0]) (g17C [1, 1, 1]) := by kernel_rfl
theorem g17er (env : Env) (st : St) : g17X (g17C []) g17kr env st = f17 (env 0) (env 1) st := by
  rw [(g17seq g17nr (g17seq g17n1 (g17seq g17n11 (g17e111))))]
  kernel_rfl
theorem s17_eq (x0 : V) (x1 : V) (st : St) : s17 [x0, x1] st = f17 x0 x1 st := by
  have h : afn Try.prog g17mu g17T big (areg Try.prog g17mu g17T) 17 [x0, x1] st = g17X (g17C []) g17kr (fun t => [x0, x1].getD t (.tup [])) st := by kernel_rfl
  rw [s17, sealF_eq]
  exact h.trans (g17er _ st)
/-! (*sinew/words.Dict).Word -/
def g14mu : Nat → Bool := fun _ => false
noncomputable def g14T : Tbl := tget [(23, s23)]
theorem g14t : SimT Try.prog g14T := simT_cons sim23 (simT_nil)
noncomputable def s14 : Fn := sealF (afn Try.prog g14mu g14T big (areg Try.prog g14mu g14T) 14)
theorem sim14 : Sim Try.prog 14 s14 := (afn_sim g14t (fun m => areg_sound g14t hmix m) 14 (by kernel_rfl)).sealed
noncomputable def g14C (p : List Nat) : Code := sub (match Try.f14.body with | some c => c | none => .skip) p
noncomputable def g14X (c : Code) (K : Kon) : Env → St → Res := aexec Try.prog g14mu g14T big 27 (areg Try.prog g14mu g14T 27) c K
noncomputable def g14kr : Kon := aresK Try.prog Try.f14.results.toList
theorem g14reg {c : Code} {K : Kon} {G : Env → St → Res} {id : Nat} {ops : Array Oper} {l1 l2 : List Nat} (hc : c = .region id ops false) (hl : List.range ops.size = l1 ++ l2) (h : (fun env st => aops Try.prog g14mu g14T 27 ops l2 env st (K .normal)) = G) : g14X c K = fun env st => aops Try.prog g14mu g14T 27 ops l1 env st G := reg_cut hc hl h
theorem g14seq {c x y : Code} {K : Kon} {G : Env → St → Res} (hc : c = .seq x y) (hy : g14X y K = G) : g14X c K = g14X x (kSeq G K) := seq_cut hc hy
theorem g14blk {c x : Code} {K : Kon} {i : Nat} (hc : c = .block i x) : g14X c K = g14X x (kBlk i K) := blk_cut hc
theorem g14loop {c x : Code} {K : Kon} (hc : c = .loop x) : g14X c K = aloop (g14X x) K big := loop_cut hc
theorem g14cond {c x y : Code} {K : Kon} {v : Operand} {F G : Env → St → Res} (hc : c = .cond v x y) (hx : g14X x K = F) (hy : g14X y K = G) : g14X c K = condF v F G := cond_cut hc hx hy
noncomputable def g14b111 (x0 : V) (x1 : V) (st : St) : Res :=
 A.nilc x0 fun a1 =>
 A.faddr 1 a1 fun a2 =>
 A.load false 1 a2 st fun a3 z4 =>
 A.iaddr 1 a3 x1 fun a5 =>
 A.load false 1 a5 z4 fun a6 z7 =>
 some (.ret (.tup [a6.er1, ((.int .i64 0) : V).er1]), z7)
theorem g14e111 : g14X (g14C [1, 1, 1]) (g14kr) = fun env st => g14b111 (env 0) (env 1) st := by
  refine Eq.trans (Eq.refl (g14X (g14C [1, 1, 1]) (g14kr))) ?_
  funext env st
  kernel_rfl
noncomputable def f14 (x0 : V) (x1 : V) (st : St) : Res :=
 A.ret (s23 [x0.er1] st) fun a1 z2 =>
 A.un .not a1 fun a3 =>
 A.cond a3
 (some (.ret (.tup [((.str []) : V).er1, ((.int .i64 1) : V).er1]), z2))
 (A.bin .lss x1 (.int .i64 0) fun a4 =>
 A.guard a4 false
 (A.nilc x0 fun a5 =>
 A.faddr 1 a5 fun a6 =>
 A.load false 1 a6 z2 fun a7 z8 =>
 A.lenL a7 fun a9 =>
 A.bin .geq x1 a9 fun a10 =>
 A.cond a10
 (some (.ret (.tup [((.str []) : V).er1, ((.int .i64 3) : V).er1]), z8))
 (g14b111 x0 x1 z8))
 (some (.ret (.tup [((.str []) : V).er1, ((.int .i64 3) : V).er1]), z2)))
theorem g14nr : g14C [] = .seq (g14C [0]) (g14C [1]) := by kernel_rfl
theorem g14n1 : g14C [1] = .seq (g14C [1, 0]) (g14C [1, 1]) := by kernel_rfl
theorem g14n11 : g14C [1, 1] = .seq (g14C [1, 1, 0]) (g14C [1, 1, 1]) := by kernel_rfl
theorem g14er (env : Env) (st : St) : g14X (g14C []) g14kr env st = f14 (env 0) (env 1) st := by
  rw [(g14seq g14nr (g14seq g14n1 (g14seq g14n11 (g14e111))))]
  kernel_rfl
theorem s14_eq (x0 : V) (x1 : V) (st : St) : s14 [x0, x1] st = f14 x0 x1 st := by
  have h : afn Try.prog g14mu g14T big (areg Try.prog g14mu g14T) 14 [x0, x1] st = g14X (g14C []) g14kr (fun t => [x0, x1].getD t (.tup [])) st := by kernel_rfl
  rw [s14, sealF_eq]
  exact h.trans (g14er _ st)
/-! (*sinew/words.Dict).Len -/
def g15mu : Nat → Bool := fun _ => false
noncomputable def g15T : Tbl := tget [(23, s23)]
theorem g15t : SimT Try.prog g15T := simT_cons sim23 (simT_nil)
noncomputable def s15 : Fn := sealF (afn Try.prog g15mu g15T big (areg Try.prog g15mu g15T) 15)
theorem sim15 : Sim Try.prog 15 s15 := (afn_sim g15t (fun m => areg_sound g15t hmix m) 15 (by kernel_rfl)).sealed
noncomputable def f15 (x0 : V) (st : St) : Res :=
 A.ret (s23 [x0.er1] st) fun a1 z2 =>
 A.un .not a1 fun a3 =>
 A.cond a3
 (some (.ret ((.int .i64 0) : V).er1, z2))
 (A.nilc x0 fun a4 =>
 A.faddr 1 a4 fun a5 =>
 A.load false 1 a5 z2 fun a6 z7 =>
 A.lenL a6 fun a8 =>
 some (.ret a8.er1, z7))
theorem s15_eq (x0 : V) (st : St) : s15 [x0] st = f15 x0 st := by
  rw [s15, sealF_eq]
  kernel_rfl
/-! (*sinew/words.Dict).Sorted -/
def g13mu : Nat → Bool := fun i => Nat.beq i 19
noncomputable def g13T : Tbl := tget [(23, s23), (24, s24)]
theorem g13t : SimT Try.prog g13T := simT_cons sim23 ( simT_cons sim24 (simT_nil))
noncomputable def s13 : Fn := sealF (afn Try.prog g13mu g13T big (areg Try.prog g13mu g13T) 13)
theorem sim13 : Sim Try.prog 13 s13 := (afn_sim g13t (fun m => areg_sound g13t hmix m) 13 (by kernel_rfl)).sealed
noncomputable def g13C (p : List Nat) : Code := sub (match Try.f13.body with | some c => c | none => .skip) p
noncomputable def g13X (c : Code) (K : Kon) : Env → St → Res := aexec Try.prog g13mu g13T big 25 (areg Try.prog g13mu g13T 25) c K
noncomputable def g13kr : Kon := aresK Try.prog Try.f13.results.toList
theorem g13reg {c : Code} {K : Kon} {G : Env → St → Res} {id : Nat} {ops : Array Oper} {l1 l2 : List Nat} (hc : c = .region id ops false) (hl : List.range ops.size = l1 ++ l2) (h : (fun env st => aops Try.prog g13mu g13T 25 ops l2 env st (K .normal)) = G) : g13X c K = fun env st => aops Try.prog g13mu g13T 25 ops l1 env st G := reg_cut hc hl h
theorem g13seq {c x y : Code} {K : Kon} {G : Env → St → Res} (hc : c = .seq x y) (hy : g13X y K = G) : g13X c K = g13X x (kSeq G K) := seq_cut hc hy
theorem g13blk {c x : Code} {K : Kon} {i : Nat} (hc : c = .block i x) : g13X c K = g13X x (kBlk i K) := blk_cut hc
theorem g13loop {c x : Code} {K : Kon} (hc : c = .loop x) : g13X c K = aloop (g13X x) K big := loop_cut hc
theorem g13cond {c x y : Code} {K : Kon} {v : Operand} {F G : Env → St → Res} (hc : c = .cond v x y) (hx : g13X x K = F) (hy : g13X y K = G) : g13X c K = condF v F G := cond_cut hc hx hy
noncomputable def g13k0 : Kon := kSeq (g13X (g13C [1, 1, 1, 1]) (g13kr)) (g13kr)
noncomputable def g13k1 : Kon := kBlk 0 (g13k0)
noncomputable def g13b111010 : Nat → V → V → V → V → St → Res
| 0, _, _, _, _, _ => none
| n + 1, x1, x3, x12, x13, st =>
 A.bin .lss x13 x12 fun a1 =>
 A.cond a1
 (A.bslice 1 (.int .i64 0) 1 [(0, x13)] fun a2 =>
 A.appM 1 x3 (elemsOf 5 1 a2 st) st fun a3 z4 =>
 A.bin .add x13 (.int .i64 1) fun a5 =>
 (g13b111010 n) x1 a3 x12 a5 z4)
 (A.ret (s24 [x3.er1, ((.fn 25 [] [x1]) : V).er1] st) fun a6 z7 =>
 some (.ret x3.er1, z7))
theorem g13n111010 : g13C [1, 1, 1, 0, 1, 0] = .loop (g13C [1, 1, 1, 0, 1, 0, 0]) := by kernel_rfl
noncomputable def g13k2 (L111010 : V → V → V → V → St → Res) : Kon := kSeq (fun env st => L111010 (env 1) (env 3) (env 12) (env 13) st) (g13k1)
theorem g13e111010 : g13X (g13C [1, 1, 1, 0, 1, 0]) (g13k1) = fun env st => g13b111010 big (env 1) (env 3) (env 12) (env 13) st := by
  have key : ∀ n, aloop (g13X (g13C [1, 1, 1, 0, 1, 0, 0])) (g13k1) n = fun env st => g13b111010 n (env 1) (env 3) (env 12) (env 13) st := by
    intro n
    induction n with
    | zero => rfl
    | succ n ih =>
      have h : aloop (g13X (g13C [1, 1, 1, 0, 1, 0, 0])) (g13k1) (n + 1) = g13X (g13C [1, 1, 1, 0, 1, 0, 0]) (kSeq (aloop (g13X (g13C [1, 1, 1, 0, 1, 0, 0])) (g13k1) n) (g13k1)) := rfl
      rw [h, ih]
      refine Eq.trans (Eq.refl _) ?_
      funext env st
      kernel_rfl
  exact (g13loop g13n111010).trans (key big)
noncomputable def g13b11101 (x1 : V) (x3 : V) (x12 : V) (x13 : V) (st : St) : Res :=
 g13b111010 big x1 x3 x12 x13 st
theorem g13n11101 : g13C [1, 1, 1, 0, 1] = .block 0 (g13C [1, 1, 1, 0, 1, 0]) := by kernel_rfl
theorem g13e11101 : g13X (g13C [1, 1, 1, 0, 1]) (g13k0) = fun env st => g13b11101 (env 1) (env 3) (env 12) (env 13) st := by
  refine Eq.trans ((g13blk g13n11101).trans (g13e111010)) ?_
  funext env st
  kernel_rfl
noncomputable def f13 (x0 : V) (st : St) : Res :=
 A.box x0 st fun a1 z2 =>
 A.load false 1 a1 z2 fun a3 z4 =>
 A.ret (s23 [a3.er1] z4) fun a5 z6 =>
 A.un .not a5 fun a7 =>
 A.cond a7
 (some (.ret ((.lst [] 1) : V).er1, z6))
 (A.load false 1 a1 z6 fun a8 z9 =>
 A.nilc a8 fun a10 =>
 A.faddr 1 a10 fun a11 =>
 A.load false 1 a11 z9 fun a12 z13 =>
 A.lenL a12 fun a14 =>
 g13b11101 a1 (.lst [] 1) a14 (.int .i64 0) z13)
theorem g13nr : g13C [] = .seq (g13C [0]) (g13C [1]) := by kernel_rfl
theorem g13n1 : g13C [1] = .seq (g13C [1, 0]) (g13C [1, 1]) := by kernel_rfl
theorem g13n11 : g13C [1, 1] = .seq (g13C [1, 1, 0]) (g13C [1, 1, 1]) := by kernel_rfl
theorem g13n111 : g13C [1, 1, 1] = .seq (g13C [1, 1, 1, 0]) (g13C [1, 1, 1, 1]) := by kernel_rfl
theorem g13n1110 : g13C [1, 1, 1, 0] = .seq (g13C [1, 1, 1, 0, 0]) (g13C [1, 1, 1, 0, 1]) := by kernel_rfl
theorem g13er (env : Env) (st : St) : g13X (g13C []) g13kr env st = f13 (env 0) st := by
  rw [(g13seq g13nr (g13seq g13n1 (g13seq g13n11 ((g13seq g13n111 rfl).trans (g13seq g13n1110 (g13e11101))))))]
  kernel_rfl
theorem s13_eq (x0 : V) (st : St) : s13 [x0] st = f13 x0 st := by
  have h : afn Try.prog g13mu g13T big (areg Try.prog g13mu g13T) 13 [x0] st = g13X (g13C []) g13kr (fun t => [x0].getD t (.tup [])) st := by kernel_rfl
  rw [s13, sealF_eq]
  exact h.trans (g13er _ st)
/-! sinew/sinewlaw05.awake -/
def g16mu : Nat → Bool := fun _ => false
noncomputable def g16T : Tbl := tget [(11, s11), (12, s12), (13, s13)]
theorem g16t : SimT Try.prog g16T := simT_cons sim11 ( simT_cons sim12 ( simT_cons sim13 (simT_nil)))
noncomputable def s16 : Fn := sealF (afn Try.prog g16mu g16T big (areg Try.prog g16mu g16T) 16)
theorem sim16 : Sim Try.prog 16 s16 := (afn_sim g16t (fun m => areg_sound g16t hmix m) 16 (by kernel_rfl)).sealed
noncomputable def g16C (p : List Nat) : Code := sub (match Try.f16.body with | some c => c | none => .skip) p
noncomputable def g16X (c : Code) (K : Kon) : Env → St → Res := aexec Try.prog g16mu g16T big 53 (areg Try.prog g16mu g16T 53) c K
noncomputable def g16kr : Kon := aresK Try.prog Try.f16.results.toList
theorem g16reg {c : Code} {K : Kon} {G : Env → St → Res} {id : Nat} {ops : Array Oper} {l1 l2 : List Nat} (hc : c = .region id ops false) (hl : List.range ops.size = l1 ++ l2) (h : (fun env st => aops Try.prog g16mu g16T 53 ops l2 env st (K .normal)) = G) : g16X c K = fun env st => aops Try.prog g16mu g16T 53 ops l1 env st G := reg_cut hc hl h
theorem g16seq {c x y : Code} {K : Kon} {G : Env → St → Res} (hc : c = .seq x y) (hy : g16X y K = G) : g16X c K = g16X x (kSeq G K) := seq_cut hc hy
theorem g16blk {c x : Code} {K : Kon} {i : Nat} (hc : c = .block i x) : g16X c K = g16X x (kBlk i K) := blk_cut hc
theorem g16loop {c x : Code} {K : Kon} (hc : c = .loop x) : g16X c K = aloop (g16X x) K big := loop_cut hc
theorem g16cond {c x y : Code} {K : Kon} {v : Operand} {F G : Env → St → Res} (hc : c = .cond v x y) (hx : g16X x K = F) (hy : g16X y K = G) : g16X c K = condF v F G := cond_cut hc hx hy
noncomputable def g16k0 : Kon := kSeq (g16X (g16C [1, 1, 1, 1, 1, 1, 1]) (g16kr)) (g16kr)
noncomputable def g16b1111110_26 (x6 : V) (x47 : V) (st : St) : Res :=
 A.guard x47 true
 (A.iaddr 1 x6 (.int .i64 1) fun a1 =>
 A.load false 1 a1 st fun a2 z3 =>
 A.eql 2 false a2 (.int .i64 0) fun a4 =>
 some (.ret a4.er1, z3))
 (some (.ret ((.bool false) : V).er1, st))
theorem g16e1111110_26 : (fun env st => aops Try.prog g16mu g16T 53 (rops (g16C [1, 1, 1, 1, 1, 1, 0])) [26, 27, 28, 29, 30, 31] env st ((g16k0) .normal)) = fun env st => g16b1111110_26 (env 6) (env 47) st := by
  refine Eq.trans (Eq.refl _) ?_
  funext env st
  kernel_rfl
noncomputable def g16b1111110_15 (x6 : V) (x36 : V) (st : St) : Res :=
 A.guard x36 true
 (A.lenL x6 fun a1 =>
 A.eql 2 false a1 (.int .i64 2) fun a2 =>
 A.guard a2 true
 (A.iaddr 1 x6 (.int .i64 0) fun a3 =>
 A.load false 1 a3 st fun a4 z5 =>
 A.eql 2 false a4 (.int .i64 1) fun a6 =>
 g16b1111110_26 x6 a6 z5)
 (g16b1111110_26 x6 (.bool false) st))
 (g16b1111110_26 x6 (.bool false) st)
theorem g16e1111110_15 : (fun env st => aops Try.prog g16mu g16T 53 (rops (g16C [1, 1, 1, 1, 1, 1, 0])) [15, 16, 17, 18, 19, 20, 21, 22, 23, 24, 25, 26, 27, 28, 29, 30, 31] env st ((g16k0) .normal)) = fun env st => g16b1111110_15 (env 6) (env 36) st := by
  refine Eq.trans (ops_cut (l1 := [15, 16, 17, 18, 19, 20, 21, 22, 23, 24, 25]) (l2 := [26, 27, 28, 29, 30, 31]) (g16e1111110_26)) ?_
  funext env st
  kernel_rfl
noncomputable def g16b1111110_7 (x4 : V) (x5 : V) (x6 : V) (x28 : V) (st : St) : Res :=
 A.guard x28 true
 (A.eql 2 false x4 (.int .i64 1) fun a1 =>
 A.guard a1 true
 (A.eql 2 false x5 (.int .i64 0) fun a2 =>
 g16b1111110_15 x6 a2 st)
 (g16b1111110_15 x6 (.bool false) st))
 (g16b1111110_15 x6 (.bool false) st)
theorem g16e1111110_7 : (fun env st => aops Try.prog g16mu g16T 53 (rops (g16C [1, 1, 1, 1, 1, 1, 0])) [7, 8, 9, 10, 11, 12, 13, 14, 15, 16, 17, 18, 19, 20, 21, 22, 23, 24, 25, 26, 27, 28, 29, 30, 31] env st ((g16k0) .normal)) = fun env st => g16b1111110_7 (env 4) (env 5) (env 6) (env 28) st := by
  refine Eq.trans (ops_cut (l1 := [7, 8, 9, 10, 11, 12, 13, 14]) (l2 := [15, 16, 17, 18, 19, 20, 21, 22, 23, 24, 25, 26, 27, 28, 29, 30, 31]) (g16e1111110_15)) ?_
  funext env st
  kernel_rfl
noncomputable def g16b1111 (x1 : V) (x2 : V) (x3 : V) (st : St) : Res :=
 A.ret (s12 [x1.er1, ((.str [97, 110, 110]) : V).er1] st) fun a1 z2 =>
 A.ext a1 0 fun a3 =>
 A.ext a1 1 fun a4 =>
 A.ret (s13 [x1.er1] z2) fun a5 z6 =>
 A.eql 2 false x2 (.int .i64 0) fun a7 =>
 A.guard a7 true
 (A.eql 2 false x3 (.int .i64 0) fun a8 =>
 g16b1111110_7 a3 a4 a5 a8 z6)
 (g16b1111110_7 a3 a4 a5 (.bool false) z6)
theorem g16n1111 : g16C [1, 1, 1, 1] = .seq (g16C [1, 1, 1, 1, 0]) (g16C [1, 1, 1, 1, 1]) := by kernel_rfl
theorem g16n11111 : g16C [1, 1, 1, 1, 1] = .seq (g16C [1, 1, 1, 1, 1, 0]) (g16C [1, 1, 1, 1, 1, 1]) := by kernel_rfl
theorem g16n111111 : g16C [1, 1, 1, 1, 1, 1] = .seq (g16C [1, 1, 1, 1, 1, 1, 0]) (g16C [1, 1, 1, 1, 1, 1, 1]) := by kernel_rfl
theorem g16rg1111110 : g16C [1, 1, 1, 1, 1, 1, 0] = .region 7 (rops (g16C [1, 1, 1, 1, 1, 1, 0])) false := by kernel_rfl
theorem g16rg1111110l : List.range (rops (g16C [1, 1, 1, 1, 1, 1, 0])).size = [0, 1, 2, 3, 4, 5, 6] ++ [7, 8, 9, 10, 11, 12, 13, 14, 15, 16, 17, 18, 19, 20, 21, 22, 23, 24, 25, 26, 27, 28, 29, 30, 31] := by kernel_rfl
theorem g16e1111 : g16X (g16C [1, 1, 1, 1]) (g16kr) = fun env st => g16b1111 (env 1) (env 2) (env 3) st := by
  refine Eq.trans (g16seq g16n1111 (g16seq g16n11111 ((g16seq g16n111111 rfl).trans (g16reg g16rg1111110 g16rg1111110l (g16e1111110_7))))) ?_
  funext env st
  kernel_rfl
noncomputable def f16 (st : St) : Res :=
 A.ret (s11 [] st) fun a1 z2 =>
 A.eql 4 false a1 .ptr0 fun a3 =>
 A.cond a3
 (some (.ret ((.bool false) : V).er1, z2))
 (A.ret (s12 [a1.er1, ((.str [98, 111, 98]) : V).er1] z2) fun a4 z5 =>
 A.ext a4 0 fun a6 =>
 A.ext a4 1 fun a7 =>
 g16b1111 a1 a6 a7 z5)
theorem g16nr : g16C [] = .seq (g16C [0]) (g16C [1]) := by kernel_rfl
theorem g16n1 : g16C [1] = .seq (g16C [1, 0]) (g16C [1, 1]) := by kernel_rfl
theorem g16n11 : g16C [1, 1] = .seq (g16C [1, 1, 0]) (g16C [1, 1, 1]) := by kernel_rfl
theorem g16n111 : g16C [1, 1, 1] = .seq (g16C [1, 1, 1, 0]) (g16C [1, 1, 1, 1]) := by kernel_rfl
theorem g16er (env : Env) (st : St) : g16X (g16C []) g16kr env st = f16 st := by
  rw [(g16seq g16nr (g16seq g16n1 (g16seq g16n11 (g16seq g16n111 (g16e1111)))))]
  kernel_rfl
theorem s16_eq (st : St) : s16 [] st = f16 st := by
  have h : afn Try.prog g16mu g16T big (areg Try.prog g16mu g16T) 16 [] st = g16X (g16C []) g16kr (fun t => [].getD t (.tup [])) st := by kernel_rfl
  rw [s16, sealF_eq]
  exact h.trans (g16er _ st)
/-! sinew/sinewref05.Is -/
def g10mu : Nat → Bool := fun _ => false
noncomputable def g10T : Tbl := tget []
theorem g10t : SimT Try.prog g10T := simT_nil
noncomputable def s10 : Fn := sealF (afn Try.prog g10mu g10T big (areg Try.prog g10mu g10T) 10)
theorem sim10 : Sim Try.prog 10 s10 := (afn_sim g10t (fun m => areg_sound g10t hmix m) 10 (by kernel_rfl)).sealed
noncomputable def g10C (p : List Nat) : Code := sub (match Try.f10.body with | some c => c | none => .skip) p
noncomputable def g10X (c : Code) (K : Kon) : Env → St → Res := aexec Try.prog g10mu g10T big 52 (areg Try.prog g10mu g10T 52) c K
noncomputable def g10kr : Kon := aresK Try.prog Try.f10.results.toList
theorem g10reg {c : Code} {K : Kon} {G : Env → St → Res} {id : Nat} {ops : Array Oper} {l1 l2 : List Nat} (hc : c = .region id ops false) (hl : List.range ops.size = l1 ++ l2) (h : (fun env st => aops Try.prog g10mu g10T 52 ops l2 env st (K .normal)) = G) : g10X c K = fun env st => aops Try.prog g10mu g10T 52 ops l1 env st G := reg_cut hc hl h
theorem g10seq {c x y : Code} {K : Kon} {G : Env → St → Res} (hc : c = .seq x y) (hy : g10X y K = G) : g10X c K = g10X x (kSeq G K) := seq_cut hc hy
theorem g10blk {c x : Code} {K : Kon} {i : Nat} (hc : c = .block i x) : g10X c K = g10X x (kBlk i K) := blk_cut hc
theorem g10loop {c x : Code} {K : Kon} (hc : c = .loop x) : g10X c K = aloop (g10X x) K big := loop_cut hc
theorem g10cond {c x y : Code} {K : Kon} {v : Operand} {F G : Env → St → Res} (hc : c = .cond v x y) (hx : g10X x K = F) (hy : g10X y K = G) : g10X c K = condF v F G := cond_cut hc hx hy
noncomputable def g10k0 : Kon := kSeq (g10X (g10C [1, 1]) (g10kr)) (g10kr)
noncomputable def g10k1 : Kon := kBlk 0 (g10k0)
noncomputable def g10k2 (L1010 : V → V → St → Res) : Kon := kSeq (fun env st => L1010 (env 0) (env 3) st) (g10k1)
noncomputable def g10k3 (L1010 : V → V → St → Res) : Kon := kSeq (g10X (g10C [1, 0, 1, 0, 0, 1, 1]) (g10k2 L1010)) (g10k2 L1010)
noncomputable def g10k4 (L1010 : V → V → St → Res) : Kon := kBlk 1 (g10k3 L1010)
noncomputable def g10k5 (L1010 : V → V → St → Res) : Kon := kSeq (g10X (g10C [1, 0, 1, 0, 0, 1, 0, 0, 1]) (g10k4 L1010)) (g10k4 L1010)
noncomputable def g10b101001000_29 (L1010 : V → V → St → Res) (x0 : V) (x3 : V) (x38 : V) (st : St) : Res :=
 A.guard x38 true
 (A.idxS x0 x3 fun a1 =>
 A.eql 2 true a1 (.int .u8 58) fun a2 =>
 A.cond a2
 (some (.ret ((.bool false) : V).er1, st))
 (A.bin .add x3 (.int .i64 1) fun a3 =>
 L1010 x0 a3 st))
 (A.bin .add x3 (.int .i64 1) fun a4 =>
 L1010 x0 a4 st)
theorem g10e101001000_29 (L1010 : V → V → St → Res) : (fun env st => aops Try.prog g10mu g10T 52 (rops (g10C [1, 0, 1, 0, 0, 1, 0, 0, 0])) [29, 30, 31, 32, 33] env st ((g10k5 L1010) .normal)) = fun env st => g10b101001000_29 L1010 (env 0) (env 3) (env 38) st := by
  refine Eq.trans (Eq.refl _) ?_
  funext env st
  kernel_rfl
noncomputable def g10b101001000_23 (L1010 : V → V → St → Res) (x0 : V) (x3 : V) (x32 : V) (st : St) : Res :=
 A.guard x32 true
 (A.idxS x0 x3 fun a1 =>
 A.eql 2 true a1 (.int .u8 45) fun a2 =>
 g10b101001000_29 L1010 x0 x3 a2 st)
 (g10b101001000_29 L1010 x0 x3 (.bool false) st)
theorem g10e101001000_23 (L1010 : V → V → St → Res) : (fun env st => aops Try.prog g10mu g10T 52 (rops (g10C [1, 0, 1, 0, 0, 1, 0, 0, 0])) [23, 24, 25, 26, 27, 28, 29, 30, 31, 32, 33] env st ((g10k5 L1010) .normal)) = fun env st => g10b101001000_23 L1010 (env 0) (env 3) (env 32) st := by
  refine Eq.trans (ops_cut (l1 := [23, 24, 25, 26, 27, 28]) (l2 := [29, 30, 31, 32, 33]) (g10e101001000_29 L1010)) ?_
  funext env st
  kernel_rfl
noncomputable def g10b101001000_11 (L1010 : V → V → St → Res) (x0 : V) (x3 : V) (x20 : V) (st : St) : Res :=
 A.guard x20 true
 (A.idxS x0 x3 fun a1 =>
 A.bin .lss a1 (.int .u8 48) fun a2 =>
 A.guardT a2 false
 (A.idxS x0 x3 fun a3 =>
 A.bin .gtr a3 (.int .u8 57) fun a4 =>
 g10b101001000_23 L1010 x0 x3 a4 st)
 (g10b101001000_23 L1010 x0 x3 (.bool true) st)
 (A.guardT a2 false
 (A.idxS (.tup []) x3 fun a5 =>
 A.bin .gtr a5 (.int .u8 57) fun a6 =>
 g10b101001000_23 L1010 x0 x3 a6 st)
 (g10b101001000_23 L1010 x0 x3 (.bool true) st)
 (A.guardT a2 false
 (A.idxS (.tup []) (.tup []) fun a7 =>
 A.bin .gtr a7 (.int .u8 57) fun a8 =>
 g10b101001000_23 L1010 x0 x3 a8 st)
 (g10b101001000_23 L1010 x0 x3 (.bool true) st)
 (A.guardT a2 false
 (A.bin .gtr (.tup []) (.int .u8 57) fun a9 =>
 g10b101001000_23 L1010 x0 x3 a9 st)
 (g10b101001000_23 L1010 x0 x3 (.bool true) st)
 (A.pick a2 (.bool true) (.tup []) fun a10 =>
 g10b101001000_23 L1010 x0 x3 a10 st)))))
 (g10b101001000_23 L1010 x0 x3 (.bool false) st)
theorem g10e101001000_11 (L1010 : V → V → St → Res) : (fun env st => aops Try.prog g10mu g10T 52 (rops (g10C [1, 0, 1, 0, 0, 1, 0, 0, 0])) [11, 12, 13, 14, 15, 16, 17, 18, 19, 20, 21, 22, 23, 24, 25, 26, 27, 28, 29, 30, 31, 32, 33] env st ((g10k5 L1010) .normal)) = fun env st => g10b101001000_11 L1010 (env 0) (env 3) (env 20) st := by
  refine Eq.trans (ops_cut (l1 := [11, 12, 13, 14, 15, 16, 17, 18, 19, 20, 21, 22]) (l2 := [23, 24, 25, 26, 27, 28, 29, 30, 31, 32, 33]) (g10e101001000_23 L1010)) ?_
  funext env st
  kernel_rfl
noncomputable def g10b1010 : Nat → V → V → St → Res
| 0, _, _, _ => none
| n + 1, x0, x3, st =>
 A.lenS x0 fun a1 =>
 A.bin .lss x3 a1 fun a2 =>
 A.cond a2
 (A.idxS x0 x3 fun a3 =>
 A.bin .lss a3 (.int .u8 97) fun a4 =>
 A.guard a4 false
 (A.idxS x0 x3 fun a5 =>
 A.bin .gtr a5 (.int .u8 122) fun a6 =>
 g10b101001000_11 (g10b1010 n) x0 x3 a6 st)
 (g10b101001000_11 (g10b1010 n) x0 x3 (.bool true) st))
 (A.lenS x0 fun a7 =>
 A.bin .geq a7 (.int .i64 1) fun a8 =>
 A.guard a8 true
 (A.lenS x0 fun a9 =>
 A.bin .leq a9 (.int .i64 16) fun a10 =>
 some (.ret a10.er1, st))
 (some (.ret ((.bool false) : V).er1, st)))
theorem g10n1010 : g10C [1, 0, 1, 0] = .loop (g10C [1, 0, 1, 0, 0]) := by kernel_rfl
theorem g10n10100 : g10C [1, 0, 1, 0, 0] = .seq (g10C [1, 0, 1, 0, 0, 0]) (g10C [1, 0, 1, 0, 0, 1]) := by kernel_rfl
theorem g10n101001 : g10C [1, 0, 1, 0, 0, 1] = .seq (g10C [1, 0, 1, 0, 0, 1, 0]) (g10C [1, 0, 1, 0, 0, 1, 1]) := by kernel_rfl
theorem g10n1010010 : g10C [1, 0, 1, 0, 0, 1, 0] = .block 1 (g10C [1, 0, 1, 0, 0, 1, 0, 0]) := by kernel_rfl
theorem g10n10100100 : g10C [1, 0, 1, 0, 0, 1, 0, 0] = .seq (g10C [1, 0, 1, 0, 0, 1, 0, 0, 0]) (g10C [1, 0, 1, 0, 0, 1, 0, 0, 1]) := by kernel_rfl
theorem g10rg101001000 : g10C [1, 0, 1, 0, 0, 1, 0, 0, 0] = .region 4 (rops (g10C [1, 0, 1, 0, 0, 1, 0, 0, 0])) false := by kernel_rfl
theorem g10rg101001000l : List.range (rops (g10C [1, 0, 1, 0, 0, 1, 0, 0, 0])).size = [0, 1, 2, 3, 4, 5, 6, 7, 8, 9, 10] ++ [11, 12, 13, 14, 15, 16, 17, 18, 19, 20, 21, 22, 23, 24, 25, 26, 27, 28, 29, 30, 31, 32, 33] := by kernel_rfl
theorem g10e1010 : g10X (g10C [1, 0, 1, 0]) (g10k1) = fun env st => g10b1010 big (env 0) (env 3) st := by
  have key : ∀ n, aloop (g10X (g10C [1, 0, 1, 0, 0])) (g10k1) n = fun env st => g10b1010 n (env 0) (env 3) st := by
    intro n
    induction n with
    | zero => rfl
    | succ n ih =>
      have h : aloop (g10X (g10C [1, 0, 1, 0, 0])) (g10k1) (n + 1) = g10X (g10C [1, 0, 1, 0, 0]) (kSeq (aloop (g10X (g10C [1, 0, 1, 0, 0])) (g10k1) n) (g10k1)) := rfl
      rw [h, ih]
      refine Eq.trans (g10seq g10n10100 ((g10seq g10n101001 rfl).trans ((g10blk g10n1010010).trans ((g10seq g10n10100100 rfl).trans (g10reg g10rg101001000 g10rg101001000l (g10e101001000_11 (g10b1010 n))))))) ?_
      funext env st
      kernel_rfl
  exact (g10loop g10n1010).trans (key big)
noncomputable def f10 (x0 : V) (st : St) : Res :=
 g10b1010 big x0 (.int .i64 0) st
theorem g10nr : g10C [] = .seq (g10C [0]) (g10C [1]) := by kernel_rfl
theorem g10n1 : g10C [1] = .seq (g10C [1, 0]) (g10C [1, 1]) := by kernel_rfl
theorem g10n10 : g10C [1, 0] = .seq (g10C [1, 0, 0]) (g10C [1, 0, 1]) := by kernel_rfl
theorem g10n101 : g10C [1, 0, 1] = .block 0 (g10C [1, 0, 1, 0]) := by kernel_rfl
theorem g10er (env : Env) (st : St) : g10X (g10C []) g10kr env st = f10 (env 0) st := by
  rw [(g10seq g10nr ((g10seq g10n1 rfl).trans (g10seq g10n10 ((g10blk g10n101).trans (g10e1010)))))]
  kernel_rfl
theorem s10_eq (x0 : V) (st : St) : s10 [x0] st = f10 x0 st := by
  have h : afn Try.prog g10mu g10T big (areg Try.prog g10mu g10T) 10 [x0] st = g10X (g10C []) g10kr (fun t => [x0].getD t (.tup [])) st := by kernel_rfl
  rw [s10, sealF_eq]
  exact h.trans (g10er _ st)
/-! sinew/sinewref05.Id -/
def g18mu : Nat → Bool := fun _ => false
noncomputable def g18T : Tbl := tget []
theorem g18t : SimT Try.prog g18T := simT_nil
noncomputable def s18 : Fn := sealF (afn Try.prog g18mu g18T big (areg Try.prog g18mu g18T) 18)
theorem sim18 : Sim Try.prog 18 s18 := (afn_sim g18t (fun m => areg_sound g18t hmix m) 18 (by kernel_rfl)).sealed
noncomputable def g18C (p : List Nat) : Code := sub (match Try.f18.body with | some c => c | none => .skip) p
noncomputable def g18X (c : Code) (K : Kon) : Env → St → Res := aexec Try.prog g18mu g18T big 20 (areg Try.prog g18mu g18T 20) c K
noncomputable def g18kr : Kon := aresK Try.prog Try.f18.results.toList
theorem g18reg {c : Code} {K : Kon} {G : Env → St → Res} {id : Nat} {ops : Array Oper} {l1 l2 : List Nat} (hc : c = .region id ops false) (hl : List.range ops.size = l1 ++ l2) (h : (fun env st => aops Try.prog g18mu g18T 20 ops l2 env st (K .normal)) = G) : g18X c K = fun env st => aops Try.prog g18mu g18T 20 ops l1 env st G := reg_cut hc hl h
theorem g18seq {c x y : Code} {K : Kon} {G : Env → St → Res} (hc : c = .seq x y) (hy : g18X y K = G) : g18X c K = g18X x (kSeq G K) := seq_cut hc hy
theorem g18blk {c x : Code} {K : Kon} {i : Nat} (hc : c = .block i x) : g18X c K = g18X x (kBlk i K) := blk_cut hc
theorem g18loop {c x : Code} {K : Kon} (hc : c = .loop x) : g18X c K = aloop (g18X x) K big := loop_cut hc
theorem g18cond {c x y : Code} {K : Kon} {v : Operand} {F G : Env → St → Res} (hc : c = .cond v x y) (hx : g18X x K = F) (hy : g18X y K = G) : g18X c K = condF v F G := cond_cut hc hx hy
noncomputable def g18k0 : Kon := kSeq (g18X (g18C [1, 1]) (g18kr)) (g18kr)
noncomputable def g18k1 : Kon := kBlk 0 (g18k0)
noncomputable def g18b1010 : Nat → V → V → V → St → Res
| 0, _, _, _, _ => none
| n + 1, x0, x1, x6, st =>
 A.lenL x0 fun a1 =>
 A.bin .lss x6 a1 fun a2 =>
 A.cond a2
 (A.iaddr 1 x0 x6 fun a3 =>
 A.load false 1 a3 st fun a4 z5 =>
 A.eql 3 false a4 x1 fun a6 =>
 A.cond a6
 (some (.ret (.tup [x6.er1, ((.int .i64 0) : V).er1]), z5))
 (A.bin .add x6 (.int .i64 1) fun a7 =>
 (g18b1010 n) x0 x1 a7 z5))
 (some (.ret (.tup [((.int .i64 0) : V).er1, ((.int .i64 3) : V).er1]), st))
theorem g18n1010 : g18C [1, 0, 1, 0] = .loop (g18C [1, 0, 1, 0, 0]) := by kernel_rfl
noncomputable def g18k2 (L1010 : V → V → V → St → Res) : Kon := kSeq (fun env st => L1010 (env 0) (env 1) (env 6) st) (g18k1)
theorem g18e1010 : g18X (g18C [1, 0, 1, 0]) (g18k1) = fun env st => g18b1010 big (env 0) (env 1) (env 6) st := by
  have key : ∀ n, aloop (g18X (g18C [1, 0, 1, 0, 0])) (g18k1) n = fun env st => g18b1010 n (env 0) (env 1) (env 6) st := by
    intro n
    induction n with
    | zero => rfl
    | succ n ih =>
      have h : aloop (g18X (g18C [1, 0, 1, 0, 0])) (g18k1) (n + 1) = g18X (g18C [1, 0, 1, 0, 0]) (kSeq (aloop (g18X (g18C [1, 0, 1, 0, 0])) (g18k1) n) (g18k1)) := rfl
      rw [h, ih]
      refine Eq.trans (Eq.refl _) ?_
      funext env st
      kernel_rfl
  exact (g18loop g18n1010).trans (key big)
noncomputable def f18 (x0 : V) (x1 : V) (st : St) : Res :=
 g18b1010 big x0 x1 (.int .i64 0) st
theorem g18nr : g18C [] = .seq (g18C [0]) (g18C [1]) := by kernel_rfl
theorem g18n1 : g18C [1] = .seq (g18C [1, 0]) (g18C [1, 1]) := by kernel_rfl
theorem g18n10 : g18C [1, 0] = .seq (g18C [1, 0, 0]) (g18C [1, 0, 1]) := by kernel_rfl
theorem g18n101 : g18C [1, 0, 1] = .block 0 (g18C [1, 0, 1, 0]) := by kernel_rfl
theorem g18er (env : Env) (st : St) : g18X (g18C []) g18kr env st = f18 (env 0) (env 1) st := by
  rw [(g18seq g18nr ((g18seq g18n1 rfl).trans (g18seq g18n10 ((g18blk g18n101).trans (g18e1010)))))]
  kernel_rfl
theorem s18_eq (x0 : V) (x1 : V) (st : St) : s18 [x0, x1] st = f18 x0 x1 st := by
  have h : afn Try.prog g18mu g18T big (areg Try.prog g18mu g18T) 18 [x0, x1] st = g18X (g18C []) g18kr (fun t => [x0, x1].getD t (.tup [])) st := by kernel_rfl
  rw [s18, sealF_eq]
  exact h.trans (g18er _ st)
/-! sinew/sinewref05.Put -/
def g19mu : Nat → Bool := fun _ => false
noncomputable def g19T : Tbl := tget [(10, s10), (18, s18)]
theorem g19t : SimT Try.prog g19T := simT_cons sim10 ( simT_cons sim18 (simT_nil))
noncomputable def s19 : Fn := sealF (afn Try.prog g19mu g19T big (areg Try.prog g19mu g19T) 19)
theorem sim19 : Sim Try.prog 19 s19 := (afn_sim g19t (fun m => areg_sound g19t hmix m) 19 (by kernel_rfl)).sealed
noncomputable def g19C (p : List Nat) : Code := sub (match Try.f19.body with | some c => c | none => .skip) p
noncomputable def g19X (c : Code) (K : Kon) : Env → St → Res := aexec Try.prog g19mu g19T big 33 (areg Try.prog g19mu g19T 33) c K
noncomputable def g19kr : Kon := aresK Try.prog Try.f19.results.toList
theorem g19reg {c : Code} {K : Kon} {G : Env → St → Res} {id : Nat} {ops : Array Oper} {l1 l2 : List Nat} (hc : c = .region id ops false) (hl : List.range ops.size = l1 ++ l2) (h : (fun env st => aops Try.prog g19mu g19T 33 ops l2 env st (K .normal)) = G) : g19X c K = fun env st => aops Try.prog g19mu g19T 33 ops l1 env st G := reg_cut hc hl h
theorem g19seq {c x y : Code} {K : Kon} {G : Env → St → Res} (hc : c = .seq x y) (hy : g19X y K = G) : g19X c K = g19X x (kSeq G K) := seq_cut hc hy
theorem g19blk {c x : Code} {K : Kon} {i : Nat} (hc : c = .block i x) : g19X c K = g19X x (kBlk i K) := blk_cut hc
theorem g19loop {c x : Code} {K : Kon} (hc : c = .loop x) : g19X c K = aloop (g19X x) K big := loop_cut hc
theorem g19cond {c x y : Code} {K : Kon} {v : Operand} {F G : Env → St → Res} (hc : c = .cond v x y) (hx : g19X x K = F) (hy : g19X y K = G) : g19X c K = condF v F G := cond_cut hc hx hy
noncomputable def g19b11111 (x0 : V) (x1 : V) (x9 : V) (st : St) : Res :=
 A.bslice 1 (.str []) 1 [(0, x1)] fun a1 =>
 A.app 1 x9 (elemsOf 5 1 a1 st) st fun a2 z3 =>
 A.lenL x0 fun a4 =>
 some (.ret (.tup [a2.er1, a4.er1, ((.int .i64 0) : V).er1]), z3)
theorem g19e11111 : g19X (g19C [1, 1, 1, 1, 1]) (g19kr) = fun env st => g19b11111 (env 0) (env 1) (env 9) st := by
  refine Eq.trans (Eq.refl (g19X (g19C [1, 1, 1, 1, 1]) (g19kr))) ?_
  funext env st
  kernel_rfl
noncomputable def g19b111 (x0 : V) (x1 : V) (st : St) : Res :=
 A.app 1 (.lst [] 1) (elemsOf 5 1 x0 st) st fun a1 z2 =>
 g19b11111 x0 x1 a1 z2
theorem g19n111 : g19C [1, 1, 1] = .seq (g19C [1, 1, 1, 0]) (g19C [1, 1, 1, 1]) := by kernel_rfl
theorem g19n1111 : g19C [1, 1, 1, 1] = .seq (g19C [1, 1, 1, 1, 0]) (g19C [1, 1, 1, 1, 1]) := by kernel_rfl
theorem g19e111 : g19X (g19C [1, 1, 1]) (g19kr) = fun env st => g19b111 (env 0) (env 1) st := by
  refine Eq.trans (g19seq g19n111 (g19seq g19n1111 (g19e11111))) ?_
  funext env st
  kernel_rfl
noncomputable def g19k0 : Kon := kSeq (fun env st => g19b111 (env 0) (env 1) st) (g19kr)
noncomputable def g19b1101 (x0 : V) (x1 : V) (x7 : V) (x8 : V) (st : St) : Res :=
 A.eql 2 false x8 (.int .i64 0) fun a1 =>
 A.cond a1
 (some (.ret (.tup [x0.er1, x7.er1, ((.int .i64 0) : V).er1]), st))
 (g19b111 x0 x1 st)
theorem g19e1101 : g19X (g19C [1, 1, 0, 1]) (g19k0) = fun env st => g19b1101 (env 0) (env 1) (env 7) (env 8) st := by
  refine Eq.trans (Eq.refl (g19X (g19C [1, 1, 0, 1]) (g19k0))) ?_
  funext env st
  kernel_rfl
noncomputable def f19 (x0 : V) (x1 : V) (st : St) : Res :=
 A.ret (s10 [x1.er1] st) fun a1 z2 =>
 A.un .not a1 fun a3 =>
 A.cond a3
 (some (.ret (.tup [x0.er1, ((.int .i64 0) : V).er1, ((.int .i64 1) : V).er1]), z2))
 (A.ret (s18 [x0.er1, x1.er1] z2) fun a4 z5 =>
 A.ext a4 0 fun a6 =>
 A.ext a4 1 fun a7 =>
 g19b1101 x0 x1 a6 a7 z5)
theorem g19nr : g19C [] = .seq (g19C [0]) (g19C [1]) := by kernel_rfl
theorem g19n1 : g19C [1] = .seq (g19C [1, 0]) (g19C [1, 1]) := by kernel_rfl
theorem g19n11 : g19C [1, 1] = .seq (g19C [1, 1, 0]) (g19C [1, 1, 1]) := by kernel_rfl
theorem g19n110 : g19C [1, 1, 0] = .seq (g19C [1, 1, 0, 0]) (g19C [1, 1, 0, 1]) := by kernel_rfl
theorem g19er (env : Env) (st : St) : g19X (g19C []) g19kr env st = f19 (env 0) (env 1) st := by
  rw [(g19seq g19nr (g19seq g19n1 ((g19seq g19n11 (g19e111)).trans (g19seq g19n110 (g19e1101)))))]
  kernel_rfl
theorem s19_eq (x0 : V) (x1 : V) (st : St) : s19 [x0, x1] st = f19 x0 x1 st := by
  have h : afn Try.prog g19mu g19T big (areg Try.prog g19mu g19T) 19 [x0, x1] st = g19X (g19C []) g19kr (fun t => [x0, x1].getD t (.tup [])) st := by kernel_rfl
  rw [s19, sealF_eq]
  exact h.trans (g19er _ st)
/-! sinew/sinewref05.Sorted -/
def g20mu : Nat → Bool := fun _ => false
noncomputable def g20T : Tbl := tget []
theorem g20t : SimT Try.prog g20T := simT_nil
noncomputable def s20 : Fn := sealF (afn Try.prog g20mu g20T big (areg Try.prog g20mu g20T) 20)
theorem sim20 : Sim Try.prog 20 s20 := (afn_sim g20t (fun m => areg_sound g20t hmix m) 20 (by kernel_rfl)).sealed
noncomputable def g20C (p : List Nat) : Code := sub (match Try.f20.body with | some c => c | none => .skip) p
noncomputable def g20X (c : Code) (K : Kon) : Env → St → Res := aexec Try.prog g20mu g20T big 48 (areg Try.prog g20mu g20T 48) c K
noncomputable def g20kr : Kon := aresK Try.prog Try.f20.results.toList
theorem g20reg {c : Code} {K : Kon} {G : Env → St → Res} {id : Nat} {ops : Array Oper} {l1 l2 : List Nat} (hc : c = .region id ops false) (hl : List.range ops.size = l1 ++ l2) (h : (fun env st => aops Try.prog g20mu g20T 48 ops l2 env st (K .normal)) = G) : g20X c K = fun env st => aops Try.prog g20mu g20T 48 ops l1 env st G := reg_cut hc hl h
theorem g20seq {c x y : Code} {K : Kon} {G : Env → St → Res} (hc : c = .seq x y) (hy : g20X y K = G) : g20X c K = g20X x (kSeq G K) := seq_cut hc hy
theorem g20blk {c x : Code} {K : Kon} {i : Nat} (hc : c = .block i x) : g20X c K = g20X x (kBlk i K) := blk_cut hc
theorem g20loop {c x : Code} {K : Kon} (hc : c = .loop x) : g20X c K = aloop (g20X x) K big := loop_cut hc
theorem g20cond {c x y : Code} {K : Kon} {v : Operand} {F G : Env → St → Res} (hc : c = .cond v x y) (hx : g20X x K = F) (hy : g20X y K = G) : g20X c K = condF v F G := cond_cut hc hx hy
noncomputable def g20k0 : Kon := kSeq (g20X (g20C [1, 1, 1]) (g20kr)) (g20kr)
noncomputable def g20k1 : Kon := kBlk 0 (g20k0)
noncomputable def g20k2 (L11010 : V → V → V → St → Res) : Kon := kSeq (fun env st => L11010 (env 0) (env 3) (env 4) st) (g20k1)
noncomputable def g20k3 (L11010 : V → V → V → St → Res) : Kon := kSeq (g20X (g20C [1, 1, 0, 1, 0, 0, 1, 1]) (g20k2 L11010)) (g20k2 L11010)
noncomputable def g20k4 (L11010 : V → V → V → St → Res) : Kon := kBlk 1 (g20k3 L11010)
noncomputable def g20b11010010011111 (L11010 : V → V → V → St → Res) (x0 : V) (x3 : V) (x4 : V) (x5 : V) (x6 : V) (st : St) : Res :=
 A.slice 1 x3 (some x5) none none fun a1 =>
 A.app 1 x6 (elemsOf 5 1 a1 st) st fun a2 z3 =>
 A.bin .add x4 (.int .i64 1) fun a4 =>
 L11010 x0 a2 a4 z3
theorem g20e11010010011111 (L11010 : V → V → V → St → Res) : g20X (g20C [1, 1, 0, 1, 0, 0, 1, 0, 0, 1, 1, 1, 1, 1]) (g20k4 L11010) = fun env st => g20b11010010011111 L11010 (env 0) (env 3) (env 4) (env 5) (env 6) st := by
  refine Eq.trans (Eq.refl (g20X (g20C [1, 1, 0, 1, 0, 0, 1, 0, 0, 1, 1, 1, 1, 1]) (g20k4 L11010))) ?_
  funext env st
  kernel_rfl
noncomputable def g20b11010010011 (L11010 : V → V → V → St → Res) (x0 : V) (x3 : V) (x4 : V) (x5 : V) (st : St) : Res :=
 A.slice 1 x3 none (some x5) none fun a1 =>
 A.app 1 (.lst [] 1) (elemsOf 5 1 a1 st) st fun a2 z3 =>
 A.bslice 1 (.int .i64 0) 1 [(0, x4)] fun a4 =>
 A.app 1 a2 (elemsOf 5 1 a4 z3) z3 fun a5 z6 =>
 g20b11010010011111 L11010 x0 x3 x4 x5 a5 z6
theorem g20n11010010011 : g20C [1, 1, 0, 1, 0, 0, 1, 0, 0, 1, 1] = .seq (g20C [1, 1, 0, 1, 0, 0, 1, 0, 0, 1, 1, 0]) (g20C [1, 1, 0, 1, 0, 0, 1, 0, 0, 1, 1, 1]) := by kernel_rfl
theorem g20n110100100111 : g20C [1, 1, 0, 1, 0, 0, 1, 0, 0, 1, 1, 1] = .seq (g20C [1, 1, 0, 1, 0, 0, 1, 0, 0, 1, 1, 1, 0]) (g20C [1, 1, 0, 1, 0, 0, 1, 0, 0, 1, 1, 1, 1]) := by kernel_rfl
theorem g20n1101001001111 : g20C [1, 1, 0, 1, 0, 0, 1, 0, 0, 1, 1, 1, 1] = .seq (g20C [1, 1, 0, 1, 0, 0, 1, 0, 0, 1, 1, 1, 1, 0]) (g20C [1, 1, 0, 1, 0, 0, 1, 0, 0, 1, 1, 1, 1, 1]) := by kernel_rfl
theorem g20e11010010011 (L11010 : V → V → V → St → Res) : g20X (g20C [1, 1, 0, 1, 0, 0, 1, 0, 0, 1, 1]) (g20k4 L11010) = fun env st => g20b11010010011 L11010 (env 0) (env 3) (env 4) (env 5) st := by
  refine Eq.trans (g20seq g20n11010010011 (g20seq g20n110100100111 (g20seq g20n1101001001111 (g20e11010010011111 L11010)))) ?_
  funext env st
  kernel_rfl
noncomputable def g20k5 (L11010 : V → V → V → St → Res) : Kon := kSeq (fun env st => g20b11010010011 L11010 (env 0) (env 3) (env 4) (env 5) st) (g20k4 L11010)
noncomputable def g20k6 (L11010 : V → V → V → St → Res) : Kon := kBlk 2 (g20k5 L11010)
noncomputable def g20b110100100100 (L11010 : V → V → V → St → Res) : Nat → V → V → V → V → St → Res
| 0, _, _, _, _, _ => none
| n + 1, x0, x3, x4, x5, st =>
 A.lenL x3 fun a1 =>
 A.bin .lss x5 a1 fun a2 =>
 A.guard a2 true
 (A.iaddr 1 x3 x5 fun a3 =>
 A.load false 1 a3 st fun a4 _ =>
 A.iaddr 1 x0 a4 fun a5 =>
 A.load false 1 a5 st fun a6 _ =>
 A.iaddr 1 x0 x4 fun a7 =>
 A.load false 1 a7 st fun a8 _ =>
 A.bin .lss a6 a8 fun a9 =>
 A.cond a9
 (A.bin .add x5 (.int .i64 1) fun a10 =>
 (g20b110100100100 L11010 n) x0 x3 x4 a10 st)
 (g20b11010010011 L11010 x0 x3 x4 x5 st))
 (g20b11010010011 L11010 x0 x3 x4 x5 st)
theorem g20n110100100100 : g20C [1, 1, 0, 1, 0, 0, 1, 0, 0, 1, 0, 0] = .loop (g20C [1, 1, 0, 1, 0, 0, 1, 0, 0, 1, 0, 0, 0]) := by kernel_rfl
noncomputable def g20k7 (L11010 : V → V → V → St → Res) (L110100100100 : V → V → V → V → St → Res) : Kon := kSeq (fun env st => L110100100100 (env 0) (env 3) (env 4) (env 5) st) (g20k6 L11010)
theorem g20e110100100100 (L11010 : V → V → V → St → Res) : g20X (g20C [1, 1, 0, 1, 0, 0, 1, 0, 0, 1, 0, 0]) (g20k6 L11010) = fun env st => g20b110100100100 L11010 big (env 0) (env 3) (env 4) (env 5) st := by
  have key : ∀ n, aloop (g20X (g20C [1, 1, 0, 1, 0, 0, 1, 0, 0, 1, 0, 0, 0])) (g20k6 L11010) n = fun env st => g20b110100100100 L11010 n (env 0) (env 3) (env 4) (env 5) st := by
    intro n
    induction n with
    | zero => rfl
    | succ n ih =>
      have h : aloop (g20X (g20C [1, 1, 0, 1, 0, 0, 1, 0, 0, 1, 0, 0, 0])) (g20k6 L11010) (n + 1) = g20X (g20C [1, 1, 0, 1, 0, 0, 1, 0, 0, 1, 0, 0, 0]) (kSeq (aloop (g20X (g20C [1, 1, 0, 1, 0, 0, 1, 0, 0, 1, 0, 0, 0])) (g20k6 L11010) n) (g20k6 L11010)) := rfl
      rw [h, ih]
      refine Eq.trans (Eq.refl _) ?_
      funext env st
      kernel_rfl
  exact (g20loop g20n110100100100).trans (key big)
noncomputable def g20b11010 : Nat → V → V → V → St → Res
| 0, _, _, _, _ => none
| n + 1, x0, x3, x4, st =>
 A.lenL x0 fun a1 =>
 A.bin .lss x4 a1 fun a2 =>
 A.cond a2
 (g20b110100100100 (g20b11010 n) big x0 x3 x4 (.int .i64 0) st)
 (some (.ret x3.er1, st))
theorem g20n11010 : g20C [1, 1, 0, 1, 0] = .loop (g20C [1, 1, 0, 1, 0, 0]) := by kernel_rfl
theorem g20n110100 : g20C [1, 1, 0, 1, 0, 0] = .seq (g20C [1, 1, 0, 1, 0, 0, 0]) (g20C [1, 1, 0, 1, 0, 0, 1]) := by kernel_rfl
theorem g20n1101001 : g20C [1, 1, 0, 1, 0, 0, 1] = .seq (g20C [1, 1, 0, 1, 0, 0, 1, 0]) (g20C [1, 1, 0, 1, 0, 0, 1, 1]) := by kernel_rfl
theorem g20n11010010 : g20C [1, 1, 0, 1, 0, 0, 1, 0] = .block 1 (g20C [1, 1, 0, 1, 0, 0, 1, 0, 0]) := by kernel_rfl
theorem g20n110100100 : g20C [1, 1, 0, 1, 0, 0, 1, 0, 0] = .seq (g20C [1, 1, 0, 1, 0, 0, 1, 0, 0, 0]) (g20C [1, 1, 0, 1, 0, 0, 1, 0, 0, 1]) := by kernel_rfl
theorem g20n1101001001 : g20C [1, 1, 0, 1, 0, 0, 1, 0, 0, 1] = .seq (g20C [1, 1, 0, 1, 0, 0, 1, 0, 0, 1, 0]) (g20C [1, 1, 0, 1, 0, 0, 1, 0, 0, 1, 1]) := by kernel_rfl
theorem g20n11010010010 : g20C [1, 1, 0, 1, 0, 0, 1, 0, 0, 1, 0] = .block 2 (g20C [1, 1, 0, 1, 0, 0, 1, 0, 0, 1, 0, 0]) := by kernel_rfl
theorem g20e11010 : g20X (g20C [1, 1, 0, 1, 0]) (g20k1) = fun env st => g20b11010 big (env 0) (env 3) (env 4) st := by
  have key : ∀ n, aloop (g20X (g20C [1, 1, 0, 1, 0, 0])) (g20k1) n = fun env st => g20b11010 n (env 0) (env 3) (env 4) st := by
    intro n
    induction n with
    | zero => rfl
    | succ n ih =>
      have h : aloop (g20X (g20C [1, 1, 0, 1, 0, 0])) (g20k1) (n + 1) = g20X (g20C [1, 1, 0, 1, 0, 0]) (kSeq (aloop (g20X (g20C [1, 1, 0, 1, 0, 0])) (g20k1) n) (g20k1)) := rfl
      rw [h, ih]
      refine Eq.trans (g20seq g20n110100 ((g20seq g20n1101001 rfl).trans ((g20blk g20n11010010).trans (g20seq g20n110100100 ((g20seq g20n1101001001 (g20e11010010011 (g20b11010 n))).trans ((g20blk g20n11010010010).trans (g20e110100100100 (g20b11010 n)))))))) ?_
      funext env st
      kernel_rfl
  exact (g20loop g20n11010).trans (key big)
noncomputable def f20 (x0 : V) (st : St) : Res :=
 g20b11010 big x0 (.lst [] 1) (.int .i64 0) st
theorem g20nr : g20C [] = .seq (g20C [0]) (g20C [1]) := by kernel_rfl
theorem g20n1 : g20C [1] = .seq (g20C [1, 0]) (g20C [1, 1]) := by kernel_rfl
theorem g20n11 : g20C [1, 1] = .seq (g20C [1, 1, 0]) (g20C [1, 1, 1]) := by kernel_rfl
theorem g20n110 : g20C [1, 1, 0] = .seq (g20C [1, 1, 0, 0]) (g20C [1, 1, 0, 1]) := by kernel_rfl
theorem g20n1101 : g20C [1, 1, 0, 1] = .block 0 (g20C [1, 1, 0, 1, 0]) := by kernel_rfl
theorem g20er (env : Env) (st : St) : g20X (g20C []) g20kr env st = f20 (env 0) st := by
  rw [(g20seq g20nr (g20seq g20n1 ((g20seq g20n11 rfl).trans (g20seq g20n110 ((g20blk g20n1101).trans (g20e11010))))))]
  kernel_rfl
theorem s20_eq (x0 : V) (st : St) : s20 [x0] st = f20 x0 st := by
  have h : afn Try.prog g20mu g20T big (areg Try.prog g20mu g20T) 20 [x0] st = g20X (g20C []) g20kr (fun t => [x0].getD t (.tup [])) st := by kernel_rfl
  rw [s20, sealF_eq]
  exact h.trans (g20er _ st)
/-! sinew/sinewlaw05.WordsNobody -/
def g8mu : Nat → Bool := fun _ => false
noncomputable def g8T : Tbl := tget [(12, s12), (13, s13), (14, s14), (15, s15), (16, s16), (17, s17)]
theorem g8t : SimT Try.prog g8T := simT_cons sim12 ( simT_cons sim13 ( simT_cons sim14 ( simT_cons sim15 ( simT_cons sim16 ( simT_cons sim17 (simT_nil))))))
noncomputable def s8 : Fn := sealF (afn Try.prog g8mu g8T big (areg Try.prog g8mu g8T) 8)
theorem sim8 : Sim Try.prog 8 s8 := (afn_sim g8t (fun m => areg_sound g8t hmix m) 8 (by kernel_rfl)).sealed
noncomputable def g8C (p : List Nat) : Code := sub (match Try.f8.body with | some c => c | none => .skip) p
noncomputable def g8X (c : Code) (K : Kon) : Env → St → Res := aexec Try.prog g8mu g8T big 89 (areg Try.prog g8mu g8T 89) c K
noncomputable def g8kr : Kon := aresK Try.prog Try.f8.results.toList
theorem g8reg {c : Code} {K : Kon} {G : Env → St → Res} {id : Nat} {ops : Array Oper} {l1 l2 : List Nat} (hc : c = .region id ops false) (hl : List.range ops.size = l1 ++ l2) (h : (fun env st => aops Try.prog g8mu g8T 89 ops l2 env st (K .normal)) = G) : g8X c K = fun env st => aops Try.prog g8mu g8T 89 ops l1 env st G := reg_cut hc hl h
theorem g8seq {c x y : Code} {K : Kon} {G : Env → St → Res} (hc : c = .seq x y) (hy : g8X y K = G) : g8X c K = g8X x (kSeq G K) := seq_cut hc hy
theorem g8blk {c x : Code} {K : Kon} {i : Nat} (hc : c = .block i x) : g8X c K = g8X x (kBlk i K) := blk_cut hc
theorem g8loop {c x : Code} {K : Kon} (hc : c = .loop x) : g8X c K = aloop (g8X x) K big := loop_cut hc
theorem g8cond {c x y : Code} {K : Kon} {v : Operand} {F G : Env → St → Res} (hc : c = .cond v x y) (hx : g8X x K = F) (hy : g8X y K = G) : g8X c K = condF v F G := cond_cut hc hx hy
noncomputable def g8k0 : Kon := kSeq (g8X (g8C [1, 1, 1]) (g8kr)) (g8kr)
noncomputable def g8k1 : Kon := kBlk 0 (g8k0)
noncomputable def g8k2 (L11010 : V → V → V → V → St → Res) : Kon := kSeq (fun env st => L11010 (env 0) (env 1) (env 5) (env 6) st) (g8k1)
noncomputable def g8k3 (L11010 : V → V → V → V → St → Res) : Kon := kSeq (g8X (g8C [1, 1, 0, 1, 0, 0, 1, 1]) (g8k2 L11010)) (g8k2 L11010)
noncomputable def g8k4 (L11010 : V → V → V → V → St → Res) : Kon := kBlk 1 (g8k3 L11010)
noncomputable def g8k5 (L11010 : V → V → V → V → St → Res) : Kon := kSeq (g8X (g8C [1, 1, 0, 1, 0, 0, 1, 0, 0, 1, 1, 1, 1]) (g8k4 L11010)) (g8k4 L11010)
noncomputable def g8b1101001001110_31 (L11010 : V → V → V → V → St → Res) (x0 : V) (x1 : V) (x5 : V) (x6 : V) (x79 : V) (st : St) : Res :=
 A.guard x79 false
 (A.iaddr 1 x5 x6 fun a1 =>
 A.load false 1 a1 st fun a2 z3 =>
 A.ret (s13 [a2.er1] z3) fun a4 z5 =>
 A.lenL a4 fun a6 =>
 A.bin .gtr a6 (.int .i64 0) fun a7 =>
 A.cond a7
 (some (.ret ((.bool false) : V).er1, z5))
 (A.bin .add x6 (.int .i64 1) fun a8 =>
 L11010 x0 x1 x5 a8 z5))
 (some (.ret ((.bool false) : V).er1, st))
theorem g8e1101001001110_31 (L11010 : V → V → V → V → St → Res) : (fun env st => aops Try.prog g8mu g8T 89 (rops (g8C [1, 1, 0, 1, 0, 0, 1, 0, 0, 1, 1, 1, 0])) [31, 32, 33, 34, 35, 36, 37, 38] env st ((g8k5 L11010) .normal)) = fun env st => g8b1101001001110_31 L11010 (env 0) (env 1) (env 5) (env 6) (env 79) st := by
  refine Eq.trans (Eq.refl _) ?_
  funext env st
  kernel_rfl
noncomputable def g8b1101001001110_23 (L11010 : V → V → V → V → St → Res) (x0 : V) (x1 : V) (x5 : V) (x6 : V) (x71 : V) (st : St) : Res :=
 A.guard x71 false
 (A.iaddr 1 x5 x6 fun a1 =>
 A.load false 1 a1 st fun a2 z3 =>
 A.ret (s15 [a2.er1] z3) fun a4 z5 =>
 A.eql 2 true a4 (.int .i64 0) fun a6 =>
 g8b1101001001110_31 L11010 x0 x1 x5 x6 a6 z5)
 (g8b1101001001110_31 L11010 x0 x1 x5 x6 (.bool true) st)
theorem g8e1101001001110_23 (L11010 : V → V → V → V → St → Res) : (fun env st => aops Try.prog g8mu g8T 89 (rops (g8C [1, 1, 0, 1, 0, 0, 1, 0, 0, 1, 1, 1, 0])) [23, 24, 25, 26, 27, 28, 29, 30, 31, 32, 33, 34, 35, 36, 37, 38] env st ((g8k5 L11010) .normal)) = fun env st => g8b1101001001110_23 L11010 (env 0) (env 1) (env 5) (env 6) (env 71) st := by
  refine Eq.trans (ops_cut (l1 := [23, 24, 25, 26, 27, 28, 29, 30]) (l2 := [31, 32, 33, 34, 35, 36, 37, 38]) (g8e1101001001110_31 L11010)) ?_
  funext env st
  kernel_rfl
noncomputable def g8b1101001001110_15 (L11010 : V → V → V → V → St → Res) (x0 : V) (x1 : V) (x5 : V) (x6 : V) (x11 : V) (x12 : V) (x63 : V) (st : St) : Res :=
 A.guard x63 false
 (A.eql 3 true x11 (.str []) fun a1 =>
 A.guard a1 false
 (A.eql 2 true x12 (.int .i64 1) fun a2 =>
 g8b1101001001110_23 L11010 x0 x1 x5 x6 a2 st)
 (g8b1101001001110_23 L11010 x0 x1 x5 x6 (.bool true) st))
 (g8b1101001001110_23 L11010 x0 x1 x5 x6 (.bool true) st)
theorem g8e1101001001110_15 (L11010 : V → V → V → V → St → Res) : (fun env st => aops Try.prog g8mu g8T 89 (rops (g8C [1, 1, 0, 1, 0, 0, 1, 0, 0, 1, 1, 1, 0])) [15, 16, 17, 18, 19, 20, 21, 22, 23, 24, 25, 26, 27, 28, 29, 30, 31, 32, 33, 34, 35, 36, 37, 38] env st ((g8k5 L11010) .normal)) = fun env st => g8b1101001001110_15 L11010 (env 0) (env 1) (env 5) (env 6) (env 11) (env 12) (env 63) st := by
  refine Eq.trans (ops_cut (l1 := [15, 16, 17, 18, 19, 20, 21, 22]) (l2 := [23, 24, 25, 26, 27, 28, 29, 30, 31, 32, 33, 34, 35, 36, 37, 38]) (g8e1101001001110_23 L11010)) ?_
  funext env st
  kernel_rfl
noncomputable def g8b1101001001110_7 (L11010 : V → V → V → V → St → Res) (x0 : V) (x1 : V) (x5 : V) (x6 : V) (x9 : V) (x10 : V) (x11 : V) (x12 : V) (x55 : V) (st : St) : Res :=
 A.guard x55 false
 (A.eql 2 true x9 (.int .i64 0) fun a1 =>
 A.guard a1 false
 (A.eql 2 true x10 (.int .i64 1) fun a2 =>
 g8b1101001001110_15 L11010 x0 x1 x5 x6 x11 x12 a2 st)
 (g8b1101001001110_15 L11010 x0 x1 x5 x6 x11 x12 (.bool true) st))
 (g8b1101001001110_15 L11010 x0 x1 x5 x6 x11 x12 (.bool true) st)
theorem g8e1101001001110_7 (L11010 : V → V → V → V → St → Res) : (fun env st => aops Try.prog g8mu g8T 89 (rops (g8C [1, 1, 0, 1, 0, 0, 1, 0, 0, 1, 1, 1, 0])) [7, 8, 9, 10, 11, 12, 13, 14, 15, 16, 17, 18, 19, 20, 21, 22, 23, 24, 25, 26, 27, 28, 29, 30, 31, 32, 33, 34, 35, 36, 37, 38] env st ((g8k5 L11010) .normal)) = fun env st => g8b1101001001110_7 L11010 (env 0) (env 1) (env 5) (env 6) (env 9) (env 10) (env 11) (env 12) (env 55) st := by
  refine Eq.trans (ops_cut (l1 := [7, 8, 9, 10, 11, 12, 13, 14]) (l2 := [15, 16, 17, 18, 19, 20, 21, 22, 23, 24, 25, 26, 27, 28, 29, 30, 31, 32, 33, 34, 35, 36, 37, 38]) (g8e1101001001110_15 L11010)) ?_
  funext env st
  kernel_rfl
noncomputable def g8b110100100111 (L11010 : V → V → V → V → St → Res) (x0 : V) (x1 : V) (x5 : V) (x6 : V) (x7 : V) (x8 : V) (x9 : V) (x10 : V) (x11 : V) (x12 : V) (st : St) : Res :=
 A.eql 2 true x7 (.int .i64 0) fun a1 =>
 A.guard a1 false
 (A.eql 2 true x8 (.int .i64 1) fun a2 =>
 g8b1101001001110_7 L11010 x0 x1 x5 x6 x9 x10 x11 x12 a2 st)
 (g8b1101001001110_7 L11010 x0 x1 x5 x6 x9 x10 x11 x12 (.bool true) st)
theorem g8n110100100111 : g8C [1, 1, 0, 1, 0, 0, 1, 0, 0, 1, 1, 1] = .seq (g8C [1, 1, 0, 1, 0, 0, 1, 0, 0, 1, 1, 1, 0]) (g8C [1, 1, 0, 1, 0, 0, 1, 0, 0, 1, 1, 1, 1]) := by kernel_rfl
theorem g8rg1101001001110 : g8C [1, 1, 0, 1, 0, 0, 1, 0, 0, 1, 1, 1, 0] = .region 8 (rops (g8C [1, 1, 0, 1, 0, 0, 1, 0, 0, 1, 1, 1, 0])) false := by kernel_rfl
theorem g8rg1101001001110l : List.range (rops (g8C [1, 1, 0, 1, 0, 0, 1, 0, 0, 1, 1, 1, 0])).size = [0, 1, 2, 3, 4, 5, 6] ++ [7, 8, 9, 10, 11, 12, 13, 14, 15, 16, 17, 18, 19, 20, 21, 22, 23, 24, 25, 26, 27, 28, 29, 30, 31, 32, 33, 34, 35, 36, 37, 38] := by kernel_rfl
theorem g8e110100100111 (L11010 : V → V → V → V → St → Res) : g8X (g8C [1, 1, 0, 1, 0, 0, 1, 0, 0, 1, 1, 1]) (g8k4 L11010) = fun env st => g8b110100100111 L11010 (env 0) (env 1) (env 5) (env 6) (env 7) (env 8) (env 9) (env 10) (env 11) (env 12) st := by
  refine Eq.trans ((g8seq g8n110100100111 rfl).trans (g8reg g8rg1101001001110 g8rg1101001001110l (g8e1101001001110_7 L11010))) ?_
  funext env st
  kernel_rfl
noncomputable def g8b11010010011 (L11010 : V → V → V → V → St → Res) (x0 : V) (x1 : V) (x5 : V) (x6 : V) (x7 : V) (x8 : V) (x9 : V) (x10 : V) (st : St) : Res :=
 A.iaddr 1 x5 x6 fun a1 =>
 A.load false 1 a1 st fun a2 z3 =>
 A.ret (s14 [a2.er1, x1.er1] z3) fun a4 z5 =>
 A.ext a4 0 fun a6 =>
 A.ext a4 1 fun a7 =>
 g8b110100100111 L11010 x0 x1 x5 x6 x7 x8 x9 x10 a6 a7 z5
theorem g8n11010010011 : g8C [1, 1, 0, 1, 0, 0, 1, 0, 0, 1, 1] = .seq (g8C [1, 1, 0, 1, 0, 0, 1, 0, 0, 1, 1, 0]) (g8C [1, 1, 0, 1, 0, 0, 1, 0, 0, 1, 1, 1]) := by kernel_rfl
theorem g8e11010010011 (L11010 : V → V → V → V → St → Res) : g8X (g8C [1, 1, 0, 1, 0, 0, 1, 0, 0, 1, 1]) (g8k4 L11010) = fun env st => g8b11010010011 L11010 (env 0) (env 1) (env 5) (env 6) (env 7) (env 8) (env 9) (env 10) st := by
  refine Eq.trans (g8seq g8n11010010011 (g8e110100100111 L11010)) ?_
  funext env st
  kernel_rfl
noncomputable def g8b1101001001 (L11010 : V → V → V → V → St → Res) (x0 : V) (x1 : V) (x5 : V) (x6 : V) (x7 : V) (x8 : V) (st : St) : Res :=
 A.iaddr 1 x5 x6 fun a1 =>
 A.load false 1 a1 st fun a2 z3 =>
 A.ret (s17 [a2.er1, x0.er1] z3) fun a4 z5 =>
 A.ext a4 0 fun a6 =>
 A.ext a4 1 fun a7 =>
 g8b11010010011 L11010 x0 x1 x5 x6 x7 x8 a6 a7 z5
theorem g8n1101001001 : g8C [1, 1, 0, 1, 0, 0, 1, 0, 0, 1] = .seq (g8C [1, 1, 0, 1, 0, 0, 1, 0, 0, 1, 0]) (g8C [1, 1, 0, 1, 0, 0, 1, 0, 0, 1, 1]) := by kernel_rfl
theorem g8e1101001001 (L11010 : V → V → V → V → St → Res) : g8X (g8C [1, 1, 0, 1, 0, 0, 1, 0, 0, 1]) (g8k4 L11010) = fun env st => g8b1101001001 L11010 (env 0) (env 1) (env 5) (env 6) (env 7) (env 8) st := by
  refine Eq.trans (g8seq g8n1101001001 (g8e11010010011 L11010)) ?_
  funext env st
  kernel_rfl
noncomputable def g8b11010 : Nat → V → V → V → V → St → Res
| 0, _, _, _, _, _ => none
| n + 1, x0, x1, x5, x6, st =>
 A.lenL x5 fun a1 =>
 A.bin .lss x6 a1 fun a2 =>
 A.cond a2
 (A.iaddr 1 x5 x6 fun a3 =>
 A.load false 1 a3 st fun a4 z5 =>
 A.ret (s12 [a4.er1, x0.er1] z5) fun a6 z7 =>
 A.ext a6 0 fun a8 =>
 A.ext a6 1 fun a9 =>
 g8b1101001001 (g8b11010 n) x0 x1 x5 x6 a8 a9 z7)
 (A.ret (s16 [] st) fun a10 z11 =>
 some (.ret a10.er1, z11))
theorem g8n11010 : g8C [1, 1, 0, 1, 0] = .loop (g8C [1, 1, 0, 1, 0, 0]) := by kernel_rfl
theorem g8n110100 : g8C [1, 1, 0, 1, 0, 0] = .seq (g8C [1, 1, 0, 1, 0, 0, 0]) (g8C [1, 1, 0, 1, 0, 0, 1]) := by kernel_rfl
theorem g8n1101001 : g8C [1, 1, 0, 1, 0, 0, 1] = .seq (g8C [1, 1, 0, 1, 0, 0, 1, 0]) (g8C [1, 1, 0, 1, 0, 0, 1, 1]) := by kernel_rfl
theorem g8n11010010 : g8C [1, 1, 0, 1, 0, 0, 1, 0] = .block 1 (g8C [1, 1, 0, 1, 0, 0, 1, 0, 0]) := by kernel_rfl
theorem g8n110100100 : g8C [1, 1, 0, 1, 0, 0, 1, 0, 0] = .seq (g8C [1, 1, 0, 1, 0, 0, 1, 0, 0, 0]) (g8C [1, 1, 0, 1, 0, 0, 1, 0, 0, 1]) := by kernel_rfl
theorem g8e11010 : g8X (g8C [1, 1, 0, 1, 0]) (g8k1) = fun env st => g8b11010 big (env 0) (env 1) (env 5) (env 6) st := by
  have key : ∀ n, aloop (g8X (g8C [1, 1, 0, 1, 0, 0])) (g8k1) n = fun env st => g8b11010 n (env 0) (env 1) (env 5) (env 6) st := by
    intro n
    induction n with
    | zero => rfl
    | succ n ih =>
      have h : aloop (g8X (g8C [1, 1, 0, 1, 0, 0])) (g8k1) (n + 1) = g8X (g8C [1, 1, 0, 1, 0, 0]) (kSeq (aloop (g8X (g8C [1, 1, 0, 1, 0, 0])) (g8k1) n) (g8k1)) := rfl
      rw [h, ih]
      refine Eq.trans (g8seq g8n110100 ((g8seq g8n1101001 rfl).trans ((g8blk g8n11010010).trans (g8seq g8n110100100 (g8e1101001001 (g8b11010 n)))))) ?_
      funext env st
      kernel_rfl
  exact (g8loop g8n11010).trans (key big)
noncomputable def f8 (x0 : V) (x1 : V) (st : St) : Res :=
 A.build [.map0, (.lst [] 1)] [] fun a1 =>
 A.box a1 st fun a2 z3 =>
 A.bslice 1 .ptr0 2 [(0, .ptr0), (1, a2)] fun a4 =>
 g8b11010 big x0 x1 a4 (.int .i64 0) z3
theorem g8nr : g8C [] = .seq (g8C [0]) (g8C [1]) := by kernel_rfl
theorem g8n1 : g8C [1] = .seq (g8C [1, 0]) (g8C [1, 1]) := by kernel_rfl
theorem g8n11 : g8C [1, 1] = .seq (g8C [1, 1, 0]) (g8C [1, 1, 1]) := by kernel_rfl
theorem g8n110 : g8C [1, 1, 0] = .seq (g8C [1, 1, 0, 0]) (g8C [1, 1, 0, 1]) := by kernel_rfl
theorem g8n1101 : g8C [1, 1, 0, 1] = .block 0 (g8C [1, 1, 0, 1, 0]) := by kernel_rfl
theorem g8er (env : Env) (st : St) : g8X (g8C []) g8kr env st = f8 (env 0) (env 1) st := by
  rw [(g8seq g8nr (g8seq g8n1 ((g8seq g8n11 rfl).trans (g8seq g8n110 ((g8blk g8n1101).trans (g8e11010))))))]
  kernel_rfl
theorem s8_eq (x0 : V) (x1 : V) (st : St) : s8 [x0, x1] st = f8 x0 x1 st := by
  have h : afn Try.prog g8mu g8T big (areg Try.prog g8mu g8T) 8 [x0, x1] st = g8X (g8C []) g8kr (fun t => [x0, x1].getD t (.tup [])) st := by kernel_rfl
  rw [s8, sealF_eq]
  exact h.trans (g8er _ st)
/-! sinew/sinewlaw05.WordsKeep -/
def g7mu : Nat → Bool := fun _ => false
noncomputable def g7T : Tbl := tget [(11, s11), (12, s12), (14, s14), (15, s15), (16, s16), (17, s17)]
theorem g7t : SimT Try.prog g7T := simT_cons sim11 ( simT_cons sim12 ( simT_cons sim14 ( simT_cons sim15 ( simT_cons sim16 ( simT_cons sim17 (simT_nil))))))
noncomputable def s7 : Fn := sealF (afn Try.prog g7mu g7T big (areg Try.prog g7mu g7T) 7)
theorem sim7 : Sim Try.prog 7 s7 := (afn_sim g7t (fun m => areg_sound g7t hmix m) 7 (by kernel_rfl)).sealed
noncomputable def g7C (p : List Nat) : Code := sub (match Try.f7.body with | some c => c | none => .skip) p
noncomputable def g7X (c : Code) (K : Kon) : Env → St → Res := aexec Try.prog g7mu g7T big 139 (areg Try.prog g7mu g7T 139) c K
noncomputable def g7kr : Kon := aresK Try.prog Try.f7.results.toList
theorem g7reg {c : Code} {K : Kon} {G : Env → St → Res} {id : Nat} {ops : Array Oper} {l1 l2 : List Nat} (hc : c = .region id ops false) (hl : List.range ops.size = l1 ++ l2) (h : (fun env st => aops Try.prog g7mu g7T 139 ops l2 env st (K .normal)) = G) : g7X c K = fun env st => aops Try.prog g7mu g7T 139 ops l1 env st G := reg_cut hc hl h
theorem g7regD {c : Code} {K : Kon} {G : Env → St → Res} {id : Nat} {ops : Array Oper} {l1 l2 : List Nat} (hc : c = .region id ops true) (hok : regOk Try.prog g7mu ops (befs ops.toList []) = true) (hq : quiet Try.prog g7mu ops = true) (hl : List.range ops.size = l1 ++ l2) (h : (fun env st => aops Try.prog g7mu g7T 139 ops l2 env st (K .normal)) = G) : g7X c K = fun env st => aops Try.prog g7mu g7T 139 ops l1 env st G := reg_cutD hc hok hq hl h
theorem g7seq {c x y : Code} {K : Kon} {G : Env → St → Res} (hc : c = .seq x y) (hy : g7X y K = G) : g7X c K = g7X x (kSeq G K) := seq_cut hc hy
theorem g7blk {c x : Code} {K : Kon} {i : Nat} (hc : c = .block i x) : g7X c K = g7X x (kBlk i K) := blk_cut hc
theorem g7loop {c x : Code} {K : Kon} (hc : c = .loop x) : g7X c K = aloop (g7X x) K big := loop_cut hc
theorem g7cond {c x y : Code} {K : Kon} {v : Operand} {F G : Env → St → Res} (hc : c = .cond v x y) (hx : g7X x K = F) (hy : g7X y K = G) : g7X c K = condF v F G := cond_cut hc hx hy
noncomputable def g7k0 : Kon := kSeq (g7X (g7C [1, 1, 1, 1, 1, 1, 1]) (g7kr)) (g7kr)
noncomputable def g7k1 : Kon := kBlk 2 (g7k0)
noncomputable def g7k2 (L111111010 : V → V → V → V → V → St → Res) : Kon := kSeq (fun env st => L111111010 (env 0) (env 3) (env 4) (env 5) (env 9) st) (g7k1)
noncomputable def g7k3 (L111111010 : V → V → V → V → V → St → Res) : Kon := kSeq (g7X (g7C [1, 1, 1, 1, 1, 1, 0, 1, 0, 0, 1, 1]) (g7k2 L111111010)) (g7k2 L111111010)
noncomputable def g7k4 (L111111010 : V → V → V → V → V → St → Res) : Kon := kBlk 3 (g7k3 L111111010)
noncomputable def g7b11111101001001111 (L111111010 : V → V → V → V → V → St → Res) (x0 : V) (x3 : V) (x4 : V) (x5 : V) (x9 : V) (x11 : V) (x12 : V) (x13 : V) (x14 : V) (st : St) : Res :=
 A.iaddr 1 x0 x9 fun a1 =>
 A.load false 1 a1 st fun a2 _ =>
 A.eql 3 true x11 a2 fun a3 =>
 A.guard a3 false
 (A.eql 2 true x12 (.int .i64 0) fun a4 =>
 A.guard a4 false
 (A.iaddr 1 x5 x9 fun a5 =>
 A.load false 1 a5 st fun a6 _ =>
 A.eql 2 true x13 a6 fun a7 =>
 A.guard a7 false
 (A.eql 2 true x14 (.int .i64 0) fun a8 =>
 A.guard a8 false
 (A.iaddr 1 x5 x9 fun a9 =>
 A.load false 1 a9 st fun a10 _ =>
 A.noP (A.ret (s15 [x3.er1] st) kid) fun a11 z12 =>
 A.chk (ldv false 1 a9 z12) a10
 (A.bin .geq a10 a11 fun a13 =>
 A.cond a13
 (some (.ret ((.bool false) : V).er1, z12))
 (A.bin .add x9 (.int .i64 1) fun a14 =>
 L111111010 x0 x3 x4 x5 a14 z12)))
 (some (.ret ((.bool false) : V).er1, st)))
 (some (.ret ((.bool false) : V).er1, st)))
 (some (.ret ((.bool false) : V).er1, st)))
 (some (.ret ((.bool false) : V).er1, st))
theorem g7e11111101001001111 (L111111010 : V → V → V → V → V → St → Res) : g7X (g7C [1, 1, 1, 1, 1, 1, 0, 1, 0, 0, 1, 0, 0, 1, 1, 1, 1]) (g7k4 L111111010) = fun env st => g7b11111101001001111 L111111010 (env 0) (env 3) (env 4) (env 5) (env 9) (env 11) (env 12) (env 13) (env 14) st := by
  refine Eq.trans (Eq.refl (g7X (g7C [1, 1, 1, 1, 1, 1, 0, 1, 0, 0, 1, 0, 0, 1, 1, 1, 1]) (g7k4 L111111010))) ?_
  funext env st
  kernel_rfl
noncomputable def g7b1111110100100111 (L111111010 : V → V → V → V → V → St → Res) (x0 : V) (x3 : V) (x4 : V) (x5 : V) (x9 : V) (x11 : V) (x12 : V) (st : St) : Res :=
 A.iaddr 1 x0 x9 fun a1 =>
 A.load false 1 a1 st fun a2 z3 =>
 A.ret (s17 [x3.er1, a2.er1] z3) fun a4 z5 =>
 A.ext a4 0 fun a6 =>
 A.ext a4 1 fun a7 =>
 g7b11111101001001111 L111111010 x0 x3 x4 x5 x9 x11 x12 a6 a7 z5
theorem g7n1111110100100111 : g7C [1, 1, 1, 1, 1, 1, 0, 1, 0, 0, 1, 0, 0, 1, 1, 1] = .seq (g7C [1, 1, 1, 1, 1, 1, 0, 1, 0, 0, 1, 0, 0, 1, 1, 1, 0]) (g7C [1, 1, 1, 1, 1, 1, 0, 1, 0, 0, 1, 0, 0, 1, 1, 1, 1]) := by kernel_rfl
theorem g7e1111110100100111 (L111111010 : V → V → V → V → V → St → Res) : g7X (g7C [1, 1, 1, 1, 1, 1, 0, 1, 0, 0, 1, 0, 0, 1, 1, 1]) (g7k4 L111111010) = fun env st => g7b1111110100100111 L111111010 (env 0) (env 3) (env 4) (env 5) (env 9) (env 11) (env 12) st := by
  refine Eq.trans (g7seq g7n1111110100100111 (g7e11111101001001111 L111111010)) ?_
  funext env st
  kernel_rfl
noncomputable def g7b11111101001001 (L111111010 : V → V → V → V → V → St → Res) (x0 : V) (x3 : V) (x4 : V) (x5 : V) (x9 : V) (st : St) : Res :=
 A.iaddr 1 x5 x9 fun a1 =>
 A.load false 1 a1 st fun a2 z3 =>
 A.bin .lss a2 (.int .i64 0) fun a4 =>
 A.cond a4
 (A.bin .add x9 (.int .i64 1) fun a5 =>
 L111111010 x0 x3 x4 x5 a5 z3)
 (A.iaddr 1 x5 x9 fun a6 =>
 A.load false 1 a6 z3 fun a7 z8 =>
 A.ret (s14 [x3.er1, a7.er1] z8) fun a9 z10 =>
 A.ext a9 0 fun a11 =>
 A.ext a9 1 fun a12 =>
 g7b1111110100100111 L111111010 x0 x3 x4 x5 x9 a11 a12 z10)
theorem g7n11111101001001 : g7C [1, 1, 1, 1, 1, 1, 0, 1, 0, 0, 1, 0, 0, 1] = .seq (g7C [1, 1, 1, 1, 1, 1, 0, 1, 0, 0, 1, 0, 0, 1, 0]) (g7C [1, 1, 1, 1, 1, 1, 0, 1, 0, 0, 1, 0, 0, 1, 1]) := by kernel_rfl
theorem g7n111111010010011 : g7C [1, 1, 1, 1, 1, 1, 0, 1, 0, 0, 1, 0, 0, 1, 1] = .seq (g7C [1, 1, 1, 1, 1, 1, 0, 1, 0, 0, 1, 0, 0, 1, 1, 0]) (g7C [1, 1, 1, 1, 1, 1, 0, 1, 0, 0, 1, 0, 0, 1, 1, 1]) := by kernel_rfl
theorem g7e11111101001001 (L111111010 : V → V → V → V → V → St → Res) : g7X (g7C [1, 1, 1, 1, 1, 1, 0, 1, 0, 0, 1, 0, 0, 1]) (g7k4 L111111010) = fun env st => g7b11111101001001 L111111010 (env 0) (env 3) (env 4) (env 5) (env 9) st := by
  refine Eq.trans (g7seq g7n11111101001001 (g7seq g7n111111010010011 (g7e1111110100100111 L111111010))) ?_
  funext env st
  kernel_rfl
noncomputable def g7k5 (L111111010 : V → V → V → V → V → St → Res) : Kon := kSeq (fun env st => g7b11111101001001 L111111010 (env 0) (env 3) (env 4) (env 5) (env 9) st) (g7k4 L111111010)
noncomputable def g7k6 (L111111010 : V → V → V → V → V → St → Res) : Kon := kBlk 4 (g7k5 L111111010)
noncomputable def g7k7 (L111111010 : V → V → V → V → V → St → Res) (L1111110100100010 : V → V → V → V → V → V → St → Res) : Kon := kSeq (fun env st => L1111110100100010 (env 0) (env 3) (env 4) (env 5) (env 9) (env 10) st) (g7k6 L111111010)
noncomputable def g7k8 (L111111010 : V → V → V → V → V → St → Res) (L1111110100100010 : V → V → V → V → V → V → St → Res) : Kon := kSeq (g7X (g7C [1, 1, 1, 1, 1, 1, 0, 1, 0, 0, 1, 0, 0, 0, 1, 0, 0, 1, 1]) (g7k7 L111111010 L1111110100100010)) (g7k7 L111111010 L1111110100100010)
noncomputable def g7k9 (L111111010 : V → V → V → V → V → St → Res) (L1111110100100010 : V → V → V → V → V → V → St → Res) : Kon := kBlk 5 (g7k8 L111111010 L1111110100100010)
noncomputable def g7k10 (L111111010 : V → V → V → V → V → St → Res) (L1111110100100010 : V → V → V → V → V → V → St → Res) : Kon := kSeq (g7X (g7C [1, 1, 1, 1, 1, 1, 0, 1, 0, 0, 1, 0, 0, 0, 1, 0, 0, 1, 0, 0, 1]) (g7k9 L111111010 L1111110100100010)) (g7k9 L111111010 L1111110100100010)
noncomputable def g7b111111010010001001000_13 (L111111010 : V → V → V → V → V → St → Res) (L1111110100100010 : V → V → V → V → V → V → St → Res) (x0 : V) (x3 : V) (x4 : V) (x5 : V) (x9 : V) (x10 : V) (x63 : V) (st : St) : Res :=
 A.guard x63 true
 (A.iaddr 1 x5 x9 fun a1 =>
 A.load false 1 a1 st fun a2 z3 =>
 A.iaddr 1 x5 x10 fun a4 =>
 A.load false 1 a4 z3 fun a5 z6 =>
 A.eql 2 false a2 a5 fun a7 =>
 A.iaddr 1 x0 x9 fun a8 =>
 A.load false 1 a8 z6 fun a9 z10 =>
 A.iaddr 1 x0 x10 fun a11 =>
 A.load false 1 a11 z10 fun a12 z13 =>
 A.eql 3 false a9 a12 fun a14 =>
 A.eql 1 true a7 a14 fun a15 =>
 A.cond a15
 (some (.ret ((.bool false) : V).er1, z13))
 (A.bin .add x10 (.int .i64 1) fun a16 =>
 L1111110100100010 x0 x3 x4 x5 x9 a16 z13))
 (A.bin .add x10 (.int .i64 1) fun a17 =>
 L1111110100100010 x0 x3 x4 x5 x9 a17 st)
theorem g7e111111010010001001000_13 (L111111010 : V → V → V → V → V → St → Res) (L1111110100100010 : V → V → V → V → V → V → St → Res) : (fun env st => aops Try.prog g7mu g7T 139 (rops (g7C [1, 1, 1, 1, 1, 1, 0, 1, 0, 0, 1, 0, 0, 0, 1, 0, 0, 1, 0, 0, 0])) [13, 14, 15, 16, 17, 18, 19, 20, 21, 22, 23, 24, 25, 26, 27, 28, 29, 30, 31, 32] env st ((g7k10 L111111010 L1111110100100010) .normal)) = fun env st => g7b111111010010001001000_13 L111111010 L1111110100100010 (env 0) (env 3) (env 4) (env 5) (env 9) (env 10) (env 63) st := by
  refine Eq.trans (Eq.refl _) ?_
  funext env st
  kernel_rfl
noncomputable def g7b111111010010001001000_6 (L111111010 : V → V → V → V → V → St → Res) (L1111110100100010 : V → V → V → V → V → V → St → Res) (x0 : V) (x3 : V) (x4 : V) (x5 : V) (x9 : V) (x10 : V) (x56 : V) (st : St) : Res :=
 A.guard x56 true
 (A.iaddr 1 x5 x10 fun a1 =>
 A.load false 1 a1 st fun a2 z3 =>
 A.bin .geq a2 (.int .i64 0) fun a4 =>
 g7b111111010010001001000_13 L111111010 L1111110100100010 x0 x3 x4 x5 x9 x10 a4 z3)
 (g7b111111010010001001000_13 L111111010 L1111110100100010 x0 x3 x4 x5 x9 x10 (.bool false) st)
theorem g7e111111010010001001000_6 (L111111010 : V → V → V → V → V → St → Res) (L1111110100100010 : V → V → V → V → V → V → St → Res) : (fun env st => aops Try.prog g7mu g7T 139 (rops (g7C [1, 1, 1, 1, 1, 1, 0, 1, 0, 0, 1, 0, 0, 0, 1, 0, 0, 1, 0, 0, 0])) [6, 7, 8, 9, 10, 11, 12, 13, 14, 15, 16, 17, 18, 19, 20, 21, 22, 23, 24, 25, 26, 27, 28, 29, 30, 31, 32] env st ((g7k10 L111111010 L1111110100100010) .normal)) = fun env st => g7b111111010010001001000_6 L111111010 L1111110100100010 (env 0) (env 3) (env 4) (env 5) (env 9) (env 10) (env 56) st := by
  refine Eq.trans (ops_cut (l1 := [6, 7, 8, 9, 10, 11, 12]) (l2 := [13, 14, 15, 16, 17, 18, 19, 20, 21, 22, 23, 24, 25, 26, 27, 28, 29, 30, 31, 32]) (g7e111111010010001001000_13 L111111010 L1111110100100010)) ?_
  funext env st
  kernel_rfl
noncomputable def g7b1111110100100010 (L111111010 : V → V → V → V → V → St → Res) : Nat → V → V → V → V → V → V → St → Res
| 0, _, _, _, _, _, _, _ => none
| n + 1, x0, x3, x4, x5, x9, x10, st =>
 A.bin .lss x10 x9 fun a1 =>
 A.cond a1
 (A.iaddr 1 x5 x9 fun a2 =>
 A.load false 1 a2 st fun a3 z4 =>
 A.bin .geq a3 (.int .i64 0) fun a5 =>
 g7b111111010010001001000_6 L111111010 (g7b1111110100100010 L111111010 n) x0 x3 x4 x5 x9 x10 a5 z4)
 (g7b11111101001001 L111111010 x0 x3 x4 x5 x9 st)
theorem g7n1111110100100010 : g7C [1, 1, 1, 1, 1, 1, 0, 1, 0, 0, 1, 0, 0, 0, 1, 0] = .loop (g7C [1, 1, 1, 1, 1, 1, 0, 1, 0, 0, 1, 0, 0, 0, 1, 0, 0]) := by kernel_rfl
theorem g7n11111101001000100 : g7C [1, 1, 1, 1, 1, 1, 0, 1, 0, 0, 1, 0, 0, 0, 1, 0, 0] = .seq (g7C [1, 1, 1, 1, 1, 1, 0, 1, 0, 0, 1, 0, 0, 0, 1, 0, 0, 0]) (g7C [1, 1, 1, 1, 1, 1, 0, 1, 0, 0, 1, 0, 0, 0, 1, 0, 0, 1]) := by kernel_rfl
theorem g7n111111010010001001 : g7C [1, 1, 1, 1, 1, 1, 0, 1, 0, 0, 1, 0, 0, 0, 1, 0, 0, 1] = .seq (g7C [1, 1, 1, 1, 1, 1, 0, 1, 0, 0, 1, 0, 0, 0, 1, 0, 0, 1, 0]) (g7C [1, 1, 1, 1, 1, 1, 0, 1, 0, 0, 1, 0, 0, 0, 1, 0, 0, 1, 1]) := by kernel_rfl
theorem g7n1111110100100010010 : g7C [1, 1, 1, 1, 1, 1, 0, 1, 0, 0, 1, 0, 0, 0, 1, 0, 0, 1, 0] = .block 5 (g7C [1, 1, 1, 1, 1, 1, 0, 1, 0, 0, 1, 0, 0, 0, 1, 0, 0, 1, 0, 0]) := by kernel_rfl
theorem g7n11111101001000100100 : g7C [1, 1, 1, 1, 1, 1, 0, 1, 0, 0, 1, 0, 0, 0, 1, 0, 0, 1, 0, 0] = .seq (g7C [1, 1, 1, 1, 1, 1, 0, 1, 0, 0, 1, 0, 0, 0, 1, 0, 0, 1, 0, 0, 0]) (g7C [1, 1, 1, 1, 1, 1, 0, 1, 0, 0, 1, 0, 0, 0, 1, 0, 0, 1, 0, 0, 1]) := by kernel_rfl
theorem g7rg111111010010001001000 : g7C [1, 1, 1, 1, 1, 1, 0, 1, 0, 0, 1, 0, 0, 0, 1, 0, 0, 1, 0, 0, 0] = .region 19 (rops (g7C [1, 1, 1, 1, 1, 1, 0, 1, 0, 0, 1, 0, 0, 0, 1, 0, 0, 1, 0, 0, 0])) true := by kernel_rfl
theorem g7rg111111010010001001000o : regOk Try.prog g7mu (rops (g7C [1, 1, 1, 1, 1, 1, 0, 1, 0, 0, 1, 0, 0, 0, 1, 0, 0, 1, 0, 0, 0])) (befs (rops (g7C [1, 1, 1, 1, 1, 1, 0, 1, 0, 0, 1, 0, 0, 0, 1, 0, 0, 1, 0, 0, 0])).toList []) = true := by kernel_rfl
theorem g7rg111111010010001001000q : quiet Try.prog g7mu (rops (g7C [1, 1, 1, 1, 1, 1, 0, 1, 0, 0, 1, 0, 0, 0, 1, 0, 0, 1, 0, 0, 0])) = true := by kernel_rfl
theorem g7rg111111010010001001000l : List.range (rops (g7C [1, 1, 1, 1, 1, 1, 0, 1, 0, 0, 1, 0, 0, 0, 1, 0, 0, 1, 0, 0, 0])).size = [0, 1, 2, 3, 4, 5] ++ [6, 7, 8, 9, 10, 11, 12, 13, 14, 15, 16, 17, 18, 19, 20, 21, 22, 23, 24, 25, 26, 27, 28, 29, 30, 31, 32] := by kernel_rfl
theorem g7e1111110100100010 (L111111010 : V → V → V → V → V → St → Res) : g7X (g7C [1, 1, 1, 1, 1, 1, 0, 1, 0, 0, 1, 0, 0, 0, 1, 0]) (g7k6 L111111010) = fun env st => g7b1111110100100010 L111111010 big (env 0) (env 3) (env 4) (env 5) (env 9) (env 10) st := by
  have key : ∀ n, aloop (g7X (g7C [1, 1, 1, 1, 1, 1, 0, 1, 0, 0, 1, 0, 0, 0, 1, 0, 0])) (g7k6 L111111010) n = fun env st => g7b1111110100100010 L111111010 n (env 0) (env 3) (env 4) (env 5) (env 9) (env 10) st := by
    intro n
    induction n with
    | zero => rfl
    | succ n ih =>
      have h : aloop (g7X (g7C [1, 1, 1, 1, 1, 1, 0, 1, 0, 0, 1, 0, 0, 0, 1, 0, 0])) (g7k6 L111111010) (n + 1) = g7X (g7C [1, 1, 1, 1, 1, 1, 0, 1, 0, 0, 1, 0, 0, 0, 1, 0, 0]) (kSeq (aloop (g7X (g7C [1, 1, 1, 1, 1, 1, 0, 1, 0, 0, 1, 0, 0, 0, 1, 0, 0])) (g7k6 L111111010) n) (g7k6 L111111010)) := rfl
      rw [h, ih]
      refine Eq.trans (g7seq g7n11111101001000100 ((g7seq g7n111111010010001001 rfl).trans ((g7blk g7n1111110100100010010).trans ((g7seq g7n11111101001000100100 rfl).trans (g7regD g7rg111111010010001001000 g7rg111111010010001001000o g7rg111111010010001001000q g7rg111111010010001001000l (g7e111111010010001001000_6 L111111010 (g7b1111110100100010 L111111010 n))))))) ?_
      funext env st
      kernel_rfl
  exact (g7loop g7n1111110100100010).trans (key big)
noncomputable def g7b111111010 : Nat → V → V → V → V → V → St → Res
| 0, _, _, _, _, _, _ => none
| n + 1, x0, x3, x4, x5, x9, st =>
 A.bin .lss x9 x4 fun a1 =>
 A.cond a1
 (g7b1111110100100010 (g7b111111010 n) big x0 x3 x4 x5 x9 (.int .i64 0) st)
 (A.ret (s16 [] st) fun a2 z3 =>
 some (.ret a2.er1, z3))
theorem g7n111111010 : g7C [1, 1, 1, 1, 1, 1, 0, 1, 0] = .loop (g7C [1, 1, 1, 1, 1, 1, 0, 1, 0, 0]) := by kernel_rfl
theorem g7n1111110100 : g7C [1, 1, 1, 1, 1, 1, 0, 1, 0, 0] = .seq (g7C [1, 1, 1, 1, 1, 1, 0, 1, 0, 0, 0]) (g7C [1, 1, 1, 1, 1, 1, 0, 1, 0, 0, 1]) := by kernel_rfl
theorem g7n11111101001 : g7C [1, 1, 1, 1, 1, 1, 0, 1, 0, 0, 1] = .seq (g7C [1, 1, 1, 1, 1, 1, 0, 1, 0, 0, 1, 0]) (g7C [1, 1, 1, 1, 1, 1, 0, 1, 0, 0, 1, 1]) := by kernel_rfl
theorem g7n111111010010 : g7C [1, 1, 1, 1, 1, 1, 0, 1, 0, 0, 1, 0] = .block 3 (g7C [1, 1, 1, 1, 1, 1, 0, 1, 0, 0, 1, 0, 0]) := by kernel_rfl
theorem g7n1111110100100 : g7C [1, 1, 1, 1, 1, 1, 0, 1, 0, 0, 1, 0, 0] = .seq (g7C [1, 1, 1, 1, 1, 1, 0, 1, 0, 0, 1, 0, 0, 0]) (g7C [1, 1, 1, 1, 1, 1, 0, 1, 0, 0, 1, 0, 0, 1]) := by kernel_rfl
theorem g7n11111101001000 : g7C [1, 1, 1, 1, 1, 1, 0, 1, 0, 0, 1, 0, 0, 0] = .seq (g7C [1, 1, 1, 1, 1, 1, 0, 1, 0, 0, 1, 0, 0, 0, 0]) (g7C [1, 1, 1, 1, 1, 1, 0, 1, 0, 0, 1, 0, 0, 0, 1]) := by kernel_rfl
theorem g7n111111010010001 : g7C [1, 1, 1, 1, 1, 1, 0, 1, 0, 0, 1, 0, 0, 0, 1] = .block 4 (g7C [1, 1, 1, 1, 1, 1, 0, 1, 0, 0, 1, 0, 0, 0, 1, 0]) := by kernel_rfl
theorem g7e111111010 : g7X (g7C [1, 1, 1, 1, 1, 1, 0, 1, 0]) (g7k1) = fun env st => g7b111111010 big (env 0) (env 3) (env 4) (env 5) (env 9) st := by
  have key : ∀ n, aloop (g7X (g7C [1, 1, 1, 1, 1, 1, 0, 1, 0, 0])) (g7k1) n = fun env st => g7b111111010 n (env 0) (env 3) (env 4) (env 5) (env 9) st := by
    intro n
    induction n with
    | zero => rfl
    | succ n ih =>
      have h : aloop (g7X (g7C [1, 1, 1, 1, 1, 1, 0, 1, 0, 0])) (g7k1) (n + 1) = g7X (g7C [1, 1, 1, 1, 1, 1, 0, 1, 0, 0]) (kSeq (aloop (g7X (g7C [1, 1, 1, 1, 1, 1, 0, 1, 0, 0])) (g7k1) n) (g7k1)) := rfl
      rw [h, ih]
      refine Eq.trans (g7seq g7n1111110100 ((g7seq g7n11111101001 rfl).trans ((g7blk g7n111111010010).trans ((g7seq g7n1111110100100 (g7e11111101001001 (g7b111111010 n))).trans (g7seq g7n11111101001000 ((g7blk g7n111111010010001).trans (g7e1111110100100010 (g7b111111010 n)))))))) ?_
      funext env st
      kernel_rfl
  exact (g7loop g7n111111010).trans (key big)
noncomputable def g7b111111 (x0 : V) (x3 : V) (x4 : V) (x5 : V) (st : St) : Res :=
 g7b111111010 big x0 x3 x4 x5 (.int .i64 0) st
theorem g7n111111 : g7C [1, 1, 1, 1, 1, 1] = .seq (g7C [1, 1, 1, 1, 1, 1, 0]) (g7C [1, 1, 1, 1, 1, 1, 1]) := by kernel_rfl
theorem g7n1111110 : g7C [1, 1, 1, 1, 1, 1, 0] = .seq (g7C [1, 1, 1, 1, 1, 1, 0, 0]) (g7C [1, 1, 1, 1, 1, 1, 0, 1]) := by kernel_rfl
theorem g7n11111101 : g7C [1, 1, 1, 1, 1, 1, 0, 1] = .block 2 (g7C [1, 1, 1, 1, 1, 1, 0, 1, 0]) := by kernel_rfl
theorem g7e111111 : g7X (g7C [1, 1, 1, 1, 1, 1]) (g7kr) = fun env st => g7b111111 (env 0) (env 3) (env 4) (env 5) st := by
  refine Eq.trans ((g7seq g7n111111 rfl).trans (g7seq g7n1111110 ((g7blk g7n11111101).trans (g7e111111010)))) ?_
  funext env st
  kernel_rfl
noncomputable def g7k11 : Kon := kSeq (fun env st => g7b111111 (env 0) (env 3) (env 4) (env 5) st) (g7kr)
noncomputable def g7k12 : Kon := kBlk 0 (g7k11)
noncomputable def g7k13 (L11111010 : V → V → V → V → V → St → Res) : Kon := kSeq (fun env st => L11111010 (env 0) (env 3) (env 4) (env 5) (env 6) st) (g7k12)
noncomputable def g7k14 (L11111010 : V → V → V → V → V → St → Res) : Kon := kSeq (g7X (g7C [1, 1, 1, 1, 1, 0, 1, 0, 0, 1, 1]) (g7k13 L11111010)) (g7k13 L11111010)
noncomputable def g7k15 (L11111010 : V → V → V → V → V → St → Res) : Kon := kBlk 1 (g7k14 L11111010)
noncomputable def g7b11111010010011 (L11111010 : V → V → V → V → V → St → Res) (x0 : V) (x3 : V) (x4 : V) (x5 : V) (x6 : V) (x7 : V) (st : St) : Res :=
 A.bslice 1 (.int .i64 0) 1 [(0, x7)] fun a1 =>
 A.app 1 x5 (elemsOf 5 1 a1 st) st fun a2 z3 =>
 A.bin .add x6 (.int .i64 1) fun a4 =>
 L11111010 x0 x3 x4 a2 a4 z3
theorem g7e11111010010011 (L11111010 : V → V → V → V → V → St → Res) : g7X (g7C [1, 1, 1, 1, 1, 0, 1, 0, 0, 1, 0, 0, 1, 1]) (g7k15 L11111010) = fun env st => g7b11111010010011 L11111010 (env 0) (env 3) (env 4) (env 5) (env 6) (env 7) st := by
  refine Eq.trans (Eq.refl (g7X (g7C [1, 1, 1, 1, 1, 0, 1, 0, 0, 1, 0, 0, 1, 1]) (g7k15 L11111010))) ?_
  funext env st
  kernel_rfl
noncomputable def g7b1111101001001 (L11111010 : V → V → V → V → V → St → Res) (x0 : V) (x3 : V) (x4 : V) (x5 : V) (x6 : V) (x7 : V) (x8 : V) (st : St) : Res :=
 A.eql 2 true x8 (.int .i64 0) fun a1 =>
 A.cond a1
 (g7b11111010010011 L11111010 x0 x3 x4 x5 x6 (.int .i64 (-1)) st)
 (g7b11111010010011 L11111010 x0 x3 x4 x5 x6 x7 st)
theorem g7n1111101001001 : g7C [1, 1, 1, 1, 1, 0, 1, 0, 0, 1, 0, 0, 1] = .seq (g7C [1, 1, 1, 1, 1, 0, 1, 0, 0, 1, 0, 0, 1, 0]) (g7C [1, 1, 1, 1, 1, 0, 1, 0, 0, 1, 0, 0, 1, 1]) := by kernel_rfl
theorem g7e1111101001001 (L11111010 : V → V → V → V → V → St → Res) : g7X (g7C [1, 1, 1, 1, 1, 0, 1, 0, 0, 1, 0, 0, 1]) (g7k15 L11111010) = fun env st => g7b1111101001001 L11111010 (env 0) (env 3) (env 4) (env 5) (env 6) (env 7) (env 8) st := by
  refine Eq.trans (g7seq g7n1111101001001 (g7e11111010010011 L11111010)) ?_
  funext env st
  kernel_rfl
noncomputable def g7b11111010 : Nat → V → V → V → V → V → St → Res
| 0, _, _, _, _, _, _ => none
| n + 1, x0, x3, x4, x5, x6, st =>
 A.bin .lss x6 x4 fun a1 =>
 A.cond a1
 (A.iaddr 1 x0 x6 fun a2 =>
 A.load false 1 a2 st fun a3 z4 =>
 A.ret (s12 [x3.er1, a3.er1] z4) fun a5 z6 =>
 A.ext a5 0 fun a7 =>
 A.ext a5 1 fun a8 =>
 g7b1111101001001 (g7b11111010 n) x0 x3 x4 x5 x6 a7 a8 z6)
 (g7b111111 x0 x3 x4 x5 st)
theorem g7n11111010 : g7C [1, 1, 1, 1, 1, 0, 1, 0] = .loop (g7C [1, 1, 1, 1, 1, 0, 1, 0, 0]) := by kernel_rfl
theorem g7n111110100 : g7C [1, 1, 1, 1, 1, 0, 1, 0, 0] = .seq (g7C [1, 1, 1, 1, 1, 0, 1, 0, 0, 0]) (g7C [1, 1, 1, 1, 1, 0, 1, 0, 0, 1]) := by kernel_rfl
theorem g7n1111101001 : g7C [1, 1, 1, 1, 1, 0, 1, 0, 0, 1] = .seq (g7C [1, 1, 1, 1, 1, 0, 1, 0, 0, 1, 0]) (g7C [1, 1, 1, 1, 1, 0, 1, 0, 0, 1, 1]) := by kernel_rfl
theorem g7n11111010010 : g7C [1, 1, 1, 1, 1, 0, 1, 0, 0, 1, 0] = .block 1 (g7C [1, 1, 1, 1, 1, 0, 1, 0, 0, 1, 0, 0]) := by kernel_rfl
theorem g7n111110100100 : g7C [1, 1, 1, 1, 1, 0, 1, 0, 0, 1, 0, 0] = .seq (g7C [1, 1, 1, 1, 1, 0, 1, 0, 0, 1, 0, 0, 0]) (g7C [1, 1, 1, 1, 1, 0, 1, 0, 0, 1, 0, 0, 1]) := by kernel_rfl
theorem g7e11111010 : g7X (g7C [1, 1, 1, 1, 1, 0, 1, 0]) (g7k12) = fun env st => g7b11111010 big (env 0) (env 3) (env 4) (env 5) (env 6) st := by
  have key : ∀ n, aloop (g7X (g7C [1, 1, 1, 1, 1, 0, 1, 0, 0])) (g7k12) n = fun env st => g7b11111010 n (env 0) (env 3) (env 4) (env 5) (env 6) st := by
    intro n
    induction n with
    | zero => rfl
    | succ n ih =>
      have h : aloop (g7X (g7C [1, 1, 1, 1, 1, 0, 1, 0, 0])) (g7k12) (n + 1) = g7X (g7C [1, 1, 1, 1, 1, 0, 1, 0, 0]) (kSeq (aloop (g7X (g7C [1, 1, 1, 1, 1, 0, 1, 0, 0])) (g7k12) n) (g7k12)) := rfl
      rw [h, ih]
      refine Eq.trans (g7seq g7n111110100 ((g7seq g7n1111101001 rfl).trans ((g7blk g7n11111010010).trans (g7seq g7n111110100100 (g7e1111101001001 (g7b11111010 n)))))) ?_
      funext env st
      kernel_rfl
  exact (g7loop g7n11111010).trans (key big)
noncomputable def g7b11111 (x0 : V) (x3 : V) (x4 : V) (x5 : V) (st : St) : Res :=
 g7b11111010 big x0 x3 x4 x5 (.int .i64 0) st
theorem g7n11111 : g7C [1, 1, 1, 1, 1] = .seq (g7C [1, 1, 1, 1, 1, 0]) (g7C [1, 1, 1, 1, 1, 1]) := by kernel_rfl
theorem g7n111110 : g7C [1, 1, 1, 1, 1, 0] = .seq (g7C [1, 1, 1, 1, 1, 0, 0]) (g7C [1, 1, 1, 1, 1, 0, 1]) := by kernel_rfl
theorem g7n1111101 : g7C [1, 1, 1, 1, 1, 0, 1] = .block 0 (g7C [1, 1, 1, 1, 1, 0, 1, 0]) := by kernel_rfl
theorem g7e11111 : g7X (g7C [1, 1, 1, 1, 1]) (g7kr) = fun env st => g7b11111 (env 0) (env 3) (env 4) (env 5) st := by
  refine Eq.trans ((g7seq g7n11111 (g7e111111)).trans (g7seq g7n111110 ((g7blk g7n1111101).trans (g7e11111010)))) ?_
  funext env st
  kernel_rfl
noncomputable def f7 (x0 : V) (st : St) : Res :=
 A.ret (s11 [] st) fun a1 z2 =>
 A.eql 4 false a1 .ptr0 fun a3 =>
 A.cond a3
 (some (.ret ((.bool false) : V).er1, z2))
 (A.lenL x0 fun a4 =>
 A.min a4 (.int .i64 200) fun a5 =>
 g7b11111 x0 a1 a5 (.lst [] 1) z2)
theorem g7nr : g7C [] = .seq (g7C [0]) (g7C [1]) := by kernel_rfl
theorem g7n1 : g7C [1] = .seq (g7C [1, 0]) (g7C [1, 1]) := by kernel_rfl
theorem g7n11 : g7C [1, 1] = .seq (g7C [1, 1, 0]) (g7C [1, 1, 1]) := by kernel_rfl
theorem g7n111 : g7C [1, 1, 1] = .seq (g7C [1, 1, 1, 0]) (g7C [1, 1, 1, 1]) := by kernel_rfl
theorem g7n1111 : g7C [1, 1, 1, 1] = .seq (g7C [1, 1, 1, 1, 0]) (g7C [1, 1, 1, 1, 1]) := by kernel_rfl
theorem g7er (env : Env) (st : St) : g7X (g7C []) g7kr env st = f7 (env 0) st := by
  rw [(g7seq g7nr (g7seq g7n1 (g7seq g7n11 (g7seq g7n111 (g7seq g7n1111 (g7e11111))))))]
  kernel_rfl
theorem s7_eq (x0 : V) (st : St) : s7 [x0] st = f7 x0 st := by
  have h : afn Try.prog g7mu g7T big (areg Try.prog g7mu g7T) 7 [x0] st = g7X (g7C []) g7kr (fun t => [x0].getD t (.tup [])) st := by kernel_rfl
  rw [s7, sealF_eq]
  exact h.trans (g7er _ st)
/-! sinew/sinewlaw05.WordsSort -/
def g4mu : Nat → Bool := fun _ => false
noncomputable def g4T : Tbl := tget [(11, s11), (12, s12), (13, s13), (14, s14), (15, s15), (16, s16)]
theorem g4t : SimT Try.prog g4T := simT_cons sim11 ( simT_cons sim12 ( simT_cons sim13 ( simT_cons sim14 ( simT_cons sim15 ( simT_cons sim16 (simT_nil))))))
noncomputable def s4 : Fn := sealF (afn Try.prog g4mu g4T big (areg Try.prog g4mu g4T) 4)
theorem sim4 : Sim Try.prog 4 s4 := (afn_sim g4t (fun m => areg_sound g4t hmix m) 4 (by kernel_rfl)).sealed
noncomputable def g4C (p : List Nat) : Code := sub (match Try.f4.body with | some c => c | none => .skip) p
noncomputable def g4X (c : Code) (K : Kon) : Env → St → Res := aexec Try.prog g4mu g4T big 76 (areg Try.prog g4mu g4T 76) c K
noncomputable def g4kr : Kon := aresK Try.prog Try.f4.results.toList
theorem g4reg {c : Code} {K : Kon} {G : Env → St → Res} {id : Nat} {ops : Array Oper} {l1 l2 : List Nat} (hc : c = .region id ops false) (hl : List.range ops.size = l1 ++ l2) (h : (fun env st => aops Try.prog g4mu g4T 76 ops l2 env st (K .normal)) = G) : g4X c K = fun env st => aops Try.prog g4mu g4T 76 ops l1 env st G := reg_cut hc hl h
theorem g4seq {c x y : Code} {K : Kon} {G : Env → St → Res} (hc : c = .seq x y) (hy : g4X y K = G) : g4X c K = g4X x (kSeq G K) := seq_cut hc hy
theorem g4blk {c x : Code} {K : Kon} {i : Nat} (hc : c = .block i x) : g4X c K = g4X x (kBlk i K) := blk_cut hc
theorem g4loop {c x : Code} {K : Kon} (hc : c = .loop x) : g4X c K = aloop (g4X x) K big := loop_cut hc
theorem g4cond {c x y : Code} {K : Kon} {v : Operand} {F G : Env → St → Res} (hc : c = .cond v x y) (hx : g4X x K = F) (hy : g4X y K = G) : g4X c K = condF v F G := cond_cut hc hx hy
noncomputable def g4k0 : Kon := kSeq (g4X (g4C [1, 1, 1, 1, 1, 1]) (g4kr)) (g4kr)
noncomputable def g4k1 : Kon := kBlk 2 (g4k0)
noncomputable def g4k2 (L11111010 : V → V → V → St → Res) : Kon := kSeq (fun env st => L11111010 (env 3) (env 5) (env 6) st) (g4k1)
noncomputable def g4k3 (L11111010 : V → V → V → St → Res) : Kon := kSeq (g4X (g4C [1, 1, 1, 1, 1, 0, 1, 0, 0, 1, 1]) (g4k2 L11111010)) (g4k2 L11111010)
noncomputable def g4k4 (L11111010 : V → V → V → St → Res) : Kon := kBlk 3 (g4k3 L11111010)
noncomputable def g4b11111010010011101 (L11111010 : V → V → V → St → Res) (x3 : V) (x5 : V) (x6 : V) (x7 : V) (x9 : V) (x10 : V) (st : St) : Res :=
 A.eql 2 true x10 (.int .i64 0) fun a1 =>
 A.guard a1 false
 (A.bin .geq x9 x7 fun a2 =>
 A.cond a2
 (some (.ret ((.bool false) : V).er1, st))
 (A.bin .add x6 (.int .i64 1) fun a3 =>
 L11111010 x3 x5 a3 st))
 (some (.ret ((.bool false) : V).er1, st))
theorem g4e11111010010011101 (L11111010 : V → V → V → St → Res) : g4X (g4C [1, 1, 1, 1, 1, 0, 1, 0, 0, 1, 0, 0, 1, 1, 1, 0, 1]) (g4k4 L11111010) = fun env st => g4b11111010010011101 L11111010 (env 3) (env 5) (env 6) (env 7) (env 9) (env 10) st := by
  refine Eq.trans (Eq.refl (g4X (g4C [1, 1, 1, 1, 1, 0, 1, 0, 0, 1, 0, 0, 1, 1, 1, 0, 1]) (g4k4 L11111010))) ?_
  funext env st
  kernel_rfl
noncomputable def g4b1111101001001 (L11111010 : V → V → V → St → Res) (x3 : V) (x5 : V) (x6 : V) (x7 : V) (x8 : V) (st : St) : Res :=
 A.eql 2 true x8 (.int .i64 0) fun a1 =>
 A.cond a1
 (some (.ret ((.bool false) : V).er1, st))
 (A.bin .gtr x6 (.int .i64 0) fun a2 =>
 A.cond a2
 (A.bin .sub x6 (.int .i64 1) fun a3 =>
 A.iaddr 1 x5 a3 fun a4 =>
 A.load false 1 a4 st fun a5 z6 =>
 A.ret (s14 [x3.er1, a5.er1] z6) fun a7 z8 =>
 A.ext a7 0 fun a9 =>
 A.ext a7 1 fun a10 =>
 g4b11111010010011101 L11111010 x3 x5 x6 x7 a9 a10 z8)
 (A.bin .add x6 (.int .i64 1) fun a11 =>
 L11111010 x3 x5 a11 st))
theorem g4n1111101001001 : g4C [1, 1, 1, 1, 1, 0, 1, 0, 0, 1, 0, 0, 1] = .seq (g4C [1, 1, 1, 1, 1, 0, 1, 0, 0, 1, 0, 0, 1, 0]) (g4C [1, 1, 1, 1, 1, 0, 1, 0, 0, 1, 0, 0, 1, 1]) := by kernel_rfl
theorem g4n11111010010011 : g4C [1, 1, 1, 1, 1, 0, 1, 0, 0, 1, 0, 0, 1, 1] = .seq (g4C [1, 1, 1, 1, 1, 0, 1, 0, 0, 1, 0, 0, 1, 1, 0]) (g4C [1, 1, 1, 1, 1, 0, 1, 0, 0, 1, 0, 0, 1, 1, 1]) := by kernel_rfl
theorem g4n111110100100111 : g4C [1, 1, 1, 1, 1, 0, 1, 0, 0, 1, 0, 0, 1, 1, 1] = .cond (.tmp 50) (g4C [1, 1, 1, 1, 1, 0, 1, 0, 0, 1, 0, 0, 1, 1, 1, 0]) (g4C [1, 1, 1, 1, 1, 0, 1, 0, 0, 1, 0, 0, 1, 1, 1, 1]) := by kernel_rfl
theorem g4n1111101001001110 : g4C [1, 1, 1, 1, 1, 0, 1, 0, 0, 1, 0, 0, 1, 1, 1, 0] = .seq (g4C [1, 1, 1, 1, 1, 0, 1, 0, 0, 1, 0, 0, 1, 1, 1, 0, 0]) (g4C [1, 1, 1, 1, 1, 0, 1, 0, 0, 1, 0, 0, 1, 1, 1, 0, 1]) := by kernel_rfl
theorem g4e1111101001001 (L11111010 : V → V → V → St → Res) : g4X (g4C [1, 1, 1, 1, 1, 0, 1, 0, 0, 1, 0, 0, 1]) (g4k4 L11111010) = fun env st => g4b1111101001001 L11111010 (env 3) (env 5) (env 6) (env 7) (env 8) st := by
  refine Eq.trans (g4seq g4n1111101001001 (g4seq g4n11111010010011 (g4cond g4n111110100100111 (g4seq g4n1111101001001110 (g4e11111010010011101 L11111010)) rfl))) ?_
  funext env st
  kernel_rfl
noncomputable def g4b11111010 : Nat → V → V → V → St → Res
| 0, _, _, _, _ => none
| n + 1, x3, x5, x6, st =>
 A.lenL x5 fun a1 =>
 A.bin .lss x6 a1 fun a2 =>
 A.cond a2
 (A.iaddr 1 x5 x6 fun a3 =>
 A.load false 1 a3 st fun a4 z5 =>
 A.ret (s14 [x3.er1, a4.er1] z5) fun a6 z7 =>
 A.ext a6 0 fun a8 =>
 A.ext a6 1 fun a9 =>
 g4b1111101001001 (g4b11111010 n) x3 x5 x6 a8 a9 z7)
 (A.lenL x5 fun a10 =>
 A.ret (s15 [x3.er1] st) fun a11 z12 =>
 A.eql 2 false a10 a11 fun a13 =>
 A.guard a13 true
 (A.ret (s16 [] z12) fun a14 z15 =>
 some (.ret a14.er1, z15))
 (some (.ret ((.bool false) : V).er1, z12)))
theorem g4n11111010 : g4C [1, 1, 1, 1, 1, 0, 1, 0] = .loop (g4C [1, 1, 1, 1, 1, 0, 1, 0, 0]) := by kernel_rfl
theorem g4n111110100 : g4C [1, 1, 1, 1, 1, 0, 1, 0, 0] = .seq (g4C [1, 1, 1, 1, 1, 0, 1, 0, 0, 0]) (g4C [1, 1, 1, 1, 1, 0, 1, 0, 0, 1]) := by kernel_rfl
theorem g4n1111101001 : g4C [1, 1, 1, 1, 1, 0, 1, 0, 0, 1] = .seq (g4C [1, 1, 1, 1, 1, 0, 1, 0, 0, 1, 0]) (g4C [1, 1, 1, 1, 1, 0, 1, 0, 0, 1, 1]) := by kernel_rfl
theorem g4n11111010010 : g4C [1, 1, 1, 1, 1, 0, 1, 0, 0, 1, 0] = .block 3 (g4C [1, 1, 1, 1, 1, 0, 1, 0, 0, 1, 0, 0]) := by kernel_rfl
theorem g4n111110100100 : g4C [1, 1, 1, 1, 1, 0, 1, 0, 0, 1, 0, 0] = .seq (g4C [1, 1, 1, 1, 1, 0, 1, 0, 0, 1, 0, 0, 0]) (g4C [1, 1, 1, 1, 1, 0, 1, 0, 0, 1, 0, 0, 1]) := by kernel_rfl
theorem g4e11111010 : g4X (g4C [1, 1, 1, 1, 1, 0, 1, 0]) (g4k1) = fun env st => g4b11111010 big (env 3) (env 5) (env 6) st := by
  have key : ∀ n, aloop (g4X (g4C [1, 1, 1, 1, 1, 0, 1, 0, 0])) (g4k1) n = fun env st => g4b11111010 n (env 3) (env 5) (env 6) st := by
    intro n
    induction n with
    | zero => rfl
    | succ n ih =>
      have h : aloop (g4X (g4C [1, 1, 1, 1, 1, 0, 1, 0, 0])) (g4k1) (n + 1) = g4X (g4C [1, 1, 1, 1, 1, 0, 1, 0, 0]) (kSeq (aloop (g4X (g4C [1, 1, 1, 1, 1, 0, 1, 0, 0])) (g4k1) n) (g4k1)) := rfl
      rw [h, ih]
      refine Eq.trans (g4seq g4n111110100 ((g4seq g4n1111101001 rfl).trans ((g4blk g4n11111010010).trans (g4seq g4n111110100100 (g4e1111101001001 (g4b11111010 n)))))) ?_
      funext env st
      kernel_rfl
  exact (g4loop g4n11111010).trans (key big)
noncomputable def g4b1111 (x3 : V) (st : St) : Res :=
 A.ret (s13 [x3.er1] st) fun a1 z2 =>
 g4b11111010 big x3 a1 (.int .i64 0) z2
theorem g4n1111 : g4C [1, 1, 1, 1] = .seq (g4C [1, 1, 1, 1, 0]) (g4C [1, 1, 1, 1, 1]) := by kernel_rfl
theorem g4n11111 : g4C [1, 1, 1, 1, 1] = .seq (g4C [1, 1, 1, 1, 1, 0]) (g4C [1, 1, 1, 1, 1, 1]) := by kernel_rfl
theorem g4n111110 : g4C [1, 1, 1, 1, 1, 0] = .seq (g4C [1, 1, 1, 1, 1, 0, 0]) (g4C [1, 1, 1, 1, 1, 0, 1]) := by kernel_rfl
theorem g4n1111101 : g4C [1, 1, 1, 1, 1, 0, 1] = .block 2 (g4C [1, 1, 1, 1, 1, 0, 1, 0]) := by kernel_rfl
theorem g4e1111 : g4X (g4C [1, 1, 1, 1]) (g4kr) = fun env st => g4b1111 (env 3) st := by
  refine Eq.trans (g4seq g4n1111 ((g4seq g4n11111 rfl).trans (g4seq g4n111110 ((g4blk g4n1111101).trans (g4e11111010))))) ?_
  funext env st
  kernel_rfl
noncomputable def g4k5 : Kon := kSeq (fun env st => g4b1111 (env 3) st) (g4kr)
noncomputable def g4k6 : Kon := kBlk 0 (g4k5)
noncomputable def g4k7 (L111010 : V → V → V → St → Res) : Kon := kSeq (fun env st => L111010 (env 0) (env 3) (env 4) st) (g4k6)
noncomputable def g4b11101001 (L111010 : V → V → V → St → Res) (x0 : V) (x3 : V) (x4 : V) (st : St) : Res :=
 A.iaddr 1 x0 x4 fun a1 =>
 A.load false 1 a1 st fun a2 z3 =>
 A.ret (s12 [x3.er1, a2.er1] z3) fun a4 z5 =>
 A.bin .add x4 (.int .i64 1) fun a6 =>
 L111010 x0 x3 a6 z5
theorem g4e11101001 (L111010 : V → V → V → St → Res) : g4X (g4C [1, 1, 1, 0, 1, 0, 0, 1]) (g4k7 L111010) = fun env st => g4b11101001 L111010 (env 0) (env 3) (env 4) st := by
  refine Eq.trans (Eq.refl (g4X (g4C [1, 1, 1, 0, 1, 0, 0, 1]) (g4k7 L111010))) ?_
  funext env st
  kernel_rfl
noncomputable def g4b111010 : Nat → V → V → V → St → Res
| 0, _, _, _, _ => none
| n + 1, x0, x3, x4, st =>
 A.lenL x0 fun a1 =>
 A.bin .lss x4 a1 fun a2 =>
 A.guard a2 true
 (A.bin .lss x4 (.int .i64 200) fun a3 =>
 A.cond a3
 (g4b11101001 (g4b111010 n) x0 x3 x4 st)
 (g4b1111 x3 st))
 (g4b1111 x3 st)
theorem g4n111010 : g4C [1, 1, 1, 0, 1, 0] = .loop (g4C [1, 1, 1, 0, 1, 0, 0]) := by kernel_rfl
theorem g4n1110100 : g4C [1, 1, 1, 0, 1, 0, 0] = .seq (g4C [1, 1, 1, 0, 1, 0, 0, 0]) (g4C [1, 1, 1, 0, 1, 0, 0, 1]) := by kernel_rfl
theorem g4e111010 : g4X (g4C [1, 1, 1, 0, 1, 0]) (g4k6) = fun env st => g4b111010 big (env 0) (env 3) (env 4) st := by
  have key : ∀ n, aloop (g4X (g4C [1, 1, 1, 0, 1, 0, 0])) (g4k6) n = fun env st => g4b111010 n (env 0) (env 3) (env 4) st := by
    intro n
    induction n with
    | zero => rfl
    | succ n ih =>
      have h : aloop (g4X (g4C [1, 1, 1, 0, 1, 0, 0])) (g4k6) (n + 1) = g4X (g4C [1, 1, 1, 0, 1, 0, 0]) (kSeq (aloop (g4X (g4C [1, 1, 1, 0, 1, 0, 0])) (g4k6) n) (g4k6)) := rfl
      rw [h, ih]
      refine Eq.trans (g4seq g4n1110100 (g4e11101001 (g4b111010 n))) ?_
      funext env st
      kernel_rfl
  exact (g4loop g4n111010).trans (key big)
noncomputable def f4 (x0 : V) (st : St) : Res :=
 A.ret (s11 [] st) fun a1 z2 =>
 A.eql 4 false a1 .ptr0 fun a3 =>
 A.cond a3
 (some (.ret ((.bool false) : V).er1, z2))
 (g4b111010 big x0 a1 (.int .i64 0) z2)
theorem g4nr : g4C [] = .seq (g4C [0]) (g4C [1]) := by kernel_rfl
theorem g4n1 : g4C [1] = .seq (g4C [1, 0]) (g4C [1, 1]) := by kernel_rfl
theorem g4n11 : g4C [1, 1] = .seq (g4C [1, 1, 0]) (g4C [1, 1, 1]) := by kernel_rfl
theorem g4n111 : g4C [1, 1, 1] = .seq (g4C [1, 1, 1, 0]) (g4C [1, 1, 1, 1]) := by kernel_rfl
theorem g4n1110 : g4C [1, 1, 1, 0] = .seq (g4C [1, 1, 1, 0, 0]) (g4C [1, 1, 1, 0, 1]) := by kernel_rfl
theorem g4n11101 : g4C [1, 1, 1, 0, 1] = .block 0 (g4C [1, 1, 1, 0, 1, 0]) := by kernel_rfl
theorem g4er (env : Env) (st : St) : g4X (g4C []) g4kr env st = f4 (env 0) st := by
  rw [(g4seq g4nr (g4seq g4n1 (g4seq g4n11 ((g4seq g4n111 (g4e1111)).trans (g4seq g4n1110 ((g4blk g4n11101).trans (g4e111010)))))))]
  kernel_rfl
theorem s4_eq (x0 : V) (st : St) : s4 [x0] st = f4 x0 st := by
  have h : afn Try.prog g4mu g4T big (areg Try.prog g4mu g4T) 4 [x0] st = g4X (g4C []) g4kr (fun t => [x0].getD t (.tup [])) st := by kernel_rfl
  rw [s4, sealF_eq]
  exact h.trans (g4er _ st)
/-! sinew/sinewlaw05.WordsTurns -/
def g5mu : Nat → Bool := fun _ => false
noncomputable def g5T : Tbl := tget [(11, s11), (12, s12), (13, s13), (14, s14), (15, s15), (16, s16)]
theorem g5t : SimT Try.prog g5T := simT_cons sim11 ( simT_cons sim12 ( simT_cons sim13 ( simT_cons sim14 ( simT_cons sim15 ( simT_cons sim16 (simT_nil))))))
noncomputable def s5 : Fn := sealF (afn Try.prog g5mu g5T big (areg Try.prog g5mu g5T) 5)
theorem sim5 : Sim Try.prog 5 s5 := (afn_sim g5t (fun m => areg_sound g5t hmix m) 5 (by kernel_rfl)).sealed
noncomputable def g5C (p : List Nat) : Code := sub (match Try.f5.body with | some c => c | none => .skip) p
noncomputable def g5X (c : Code) (K : Kon) : Env → St → Res := aexec Try.prog g5mu g5T big 101 (areg Try.prog g5mu g5T 101) c K
noncomputable def g5kr : Kon := aresK Try.prog Try.f5.results.toList
theorem g5reg {c : Code} {K : Kon} {G : Env → St → Res} {id : Nat} {ops : Array Oper} {l1 l2 : List Nat} (hc : c = .region id ops false) (hl : List.range ops.size = l1 ++ l2) (h : (fun env st => aops Try.prog g5mu g5T 101 ops l2 env st (K .normal)) = G) : g5X c K = fun env st => aops Try.prog g5mu g5T 101 ops l1 env st G := reg_cut hc hl h
theorem g5seq {c x y : Code} {K : Kon} {G : Env → St → Res} (hc : c = .seq x y) (hy : g5X y K = G) : g5X c K = g5X x (kSeq G K) := seq_cut hc hy
theorem g5blk {c x : Code} {K : Kon} {i : Nat} (hc : c = .block i x) : g5X c K = g5X x (kBlk i K) := blk_cut hc
theorem g5loop {c x : Code} {K : Kon} (hc : c = .loop x) : g5X c K = aloop (g5X x) K big := loop_cut hc
theorem g5cond {c x y : Code} {K : Kon} {v : Operand} {F G : Env → St → Res} (hc : c = .cond v x y) (hx : g5X x K = F) (hy : g5X y K = G) : g5X c K = condF v F G := cond_cut hc hx hy
noncomputable def g5k0 : Kon := kSeq (g5X (g5C [1, 1, 1, 1, 1, 1, 1, 1]) (g5kr)) (g5kr)
noncomputable def g5k1 : Kon := kBlk 2 (g5k0)
noncomputable def g5k2 (L1111111010 : V → V → V → V → V → St → Res) : Kon := kSeq (fun env st => L1111111010 (env 5) (env 6) (env 9) (env 10) (env 11) st) (g5k1)
noncomputable def g5k3 (L1111111010 : V → V → V → V → V → St → Res) : Kon := kSeq (g5X (g5C [1, 1, 1, 1, 1, 1, 1, 0, 1, 0, 0, 1, 1]) (g5k2 L1111111010)) (g5k2 L1111111010)
noncomputable def g5k4 (L1111111010 : V → V → V → V → V → St → Res) : Kon := kBlk 3 (g5k3 L1111111010)
noncomputable def g5b1111111010010011 (L1111111010 : V → V → V → V → V → St → Res) (x5 : V) (x6 : V) (x9 : V) (x10 : V) (x11 : V) (x12 : V) (x13 : V) (x14 : V) (x15 : V) (st : St) : Res :=
 A.eql 3 true x12 x14 fun a1 =>
 A.guard a1 false
 (A.eql 2 true x13 (.int .i64 0) fun a2 =>
 A.guard a2 false
 (A.eql 2 true x15 (.int .i64 0) fun a3 =>
 A.cond a3
 (some (.ret ((.bool false) : V).er1, st))
 (A.bin .add x11 (.int .i64 1) fun a4 =>
 L1111111010 x5 x6 x9 x10 a4 st))
 (some (.ret ((.bool false) : V).er1, st)))
 (some (.ret ((.bool false) : V).er1, st))
theorem g5e1111111010010011 (L1111111010 : V → V → V → V → V → St → Res) : g5X (g5C [1, 1, 1, 1, 1, 1, 1, 0, 1, 0, 0, 1, 0, 0, 1, 1]) (g5k4 L1111111010) = fun env st => g5b1111111010010011 L1111111010 (env 5) (env 6) (env 9) (env 10) (env 11) (env 12) (env 13) (env 14) (env 15) st := by
  refine Eq.trans (Eq.refl (g5X (g5C [1, 1, 1, 1, 1, 1, 1, 0, 1, 0, 0, 1, 0, 0, 1, 1]) (g5k4 L1111111010))) ?_
  funext env st
  kernel_rfl
noncomputable def g5b111111101001001 (L1111111010 : V → V → V → V → V → St → Res) (x5 : V) (x6 : V) (x9 : V) (x10 : V) (x11 : V) (x12 : V) (x13 : V) (st : St) : Res :=
 A.iaddr 1 x10 x11 fun a1 =>
 A.load false 1 a1 st fun a2 z3 =>
 A.ret (s14 [x6.er1, a2.er1] z3) fun a4 z5 =>
 A.ext a4 0 fun a6 =>
 A.ext a4 1 fun a7 =>
 g5b1111111010010011 L1111111010 x5 x6 x9 x10 x11 x12 x13 a6 a7 z5
theorem g5n111111101001001 : g5C [1, 1, 1, 1, 1, 1, 1, 0, 1, 0, 0, 1, 0, 0, 1] = .seq (g5C [1, 1, 1, 1, 1, 1, 1, 0, 1, 0, 0, 1, 0, 0, 1, 0]) (g5C [1, 1, 1, 1, 1, 1, 1, 0, 1, 0, 0, 1, 0, 0, 1, 1]) := by kernel_rfl
theorem g5e111111101001001 (L1111111010 : V → V → V → V → V → St → Res) : g5X (g5C [1, 1, 1, 1, 1, 1, 1, 0, 1, 0, 0, 1, 0, 0, 1]) (g5k4 L1111111010) = fun env st => g5b111111101001001 L1111111010 (env 5) (env 6) (env 9) (env 10) (env 11) (env 12) (env 13) st := by
  refine Eq.trans (g5seq g5n111111101001001 (g5e1111111010010011 L1111111010)) ?_
  funext env st
  kernel_rfl
noncomputable def g5b1111111010 : Nat → V → V → V → V → V → St → Res
| 0, _, _, _, _, _, _ => none
| n + 1, x5, x6, x9, x10, x11, st =>
 A.lenL x9 fun a1 =>
 A.bin .lss x11 a1 fun a2 =>
 A.cond a2
 (A.iaddr 1 x9 x11 fun a3 =>
 A.load false 1 a3 st fun a4 z5 =>
 A.ret (s14 [x5.er1, a4.er1] z5) fun a6 z7 =>
 A.ext a6 0 fun a8 =>
 A.ext a6 1 fun a9 =>
 g5b111111101001001 (g5b1111111010 n) x5 x6 x9 x10 x11 a8 a9 z7)
 (A.ret (s16 [] st) fun a10 z11 =>
 some (.ret a10.er1, z11))
theorem g5n1111111010 : g5C [1, 1, 1, 1, 1, 1, 1, 0, 1, 0] = .loop (g5C [1, 1, 1, 1, 1, 1, 1, 0, 1, 0, 0]) := by kernel_rfl
theorem g5n11111110100 : g5C [1, 1, 1, 1, 1, 1, 1, 0, 1, 0, 0] = .seq (g5C [1, 1, 1, 1, 1, 1, 1, 0, 1, 0, 0, 0]) (g5C [1, 1, 1, 1, 1, 1, 1, 0, 1, 0, 0, 1]) := by kernel_rfl
theorem g5n111111101001 : g5C [1, 1, 1, 1, 1, 1, 1, 0, 1, 0, 0, 1] = .seq (g5C [1, 1, 1, 1, 1, 1, 1, 0, 1, 0, 0, 1, 0]) (g5C [1, 1, 1, 1, 1, 1, 1, 0, 1, 0, 0, 1, 1]) := by kernel_rfl
theorem g5n1111111010010 : g5C [1, 1, 1, 1, 1, 1, 1, 0, 1, 0, 0, 1, 0] = .block 3 (g5C [1, 1, 1, 1, 1, 1, 1, 0, 1, 0, 0, 1, 0, 0]) := by kernel_rfl
theorem g5n11111110100100 : g5C [1, 1, 1, 1, 1, 1, 1, 0, 1, 0, 0, 1, 0, 0] = .seq (g5C [1, 1, 1, 1, 1, 1, 1, 0, 1, 0, 0, 1, 0, 0, 0]) (g5C [1, 1, 1, 1, 1, 1, 1, 0, 1, 0, 0, 1, 0, 0, 1]) := by kernel_rfl
theorem g5e1111111010 : g5X (g5C [1, 1, 1, 1, 1, 1, 1, 0, 1, 0]) (g5k1) = fun env st => g5b1111111010 big (env 5) (env 6) (env 9) (env 10) (env 11) st := by
  have key : ∀ n, aloop (g5X (g5C [1, 1, 1, 1, 1, 1, 1, 0, 1, 0, 0])) (g5k1) n = fun env st => g5b1111111010 n (env 5) (env 6) (env 9) (env 10) (env 11) st := by
    intro n
    induction n with
    | zero => rfl
    | succ n ih =>
      have h : aloop (g5X (g5C [1, 1, 1, 1, 1, 1, 1, 0, 1, 0, 0])) (g5k1) (n + 1) = g5X (g5C [1, 1, 1, 1, 1, 1, 1, 0, 1, 0, 0]) (kSeq (aloop (g5X (g5C [1, 1, 1, 1, 1, 1, 1, 0, 1, 0, 0])) (g5k1) n) (g5k1)) := rfl
      rw [h, ih]
      refine Eq.trans (g5seq g5n11111110100 ((g5seq g5n111111101001 rfl).trans ((g5blk g5n1111111010010).trans (g5seq g5n11111110100100 (g5e111111101001001 (g5b1111111010 n)))))) ?_
      funext env st
      kernel_rfl
  exact (g5loop g5n1111111010).trans (key big)
noncomputable def g5b1111111 (x5 : V) (x6 : V) (x9 : V) (x10 : V) (st : St) : Res :=
 g5b1111111010 big x5 x6 x9 x10 (.int .i64 0) st
theorem g5n1111111 : g5C [1, 1, 1, 1, 1, 1, 1] = .seq (g5C [1, 1, 1, 1, 1, 1, 1, 0]) (g5C [1, 1, 1, 1, 1, 1, 1, 1]) := by kernel_rfl
theorem g5n11111110 : g5C [1, 1, 1, 1, 1, 1, 1, 0] = .seq (g5C [1, 1, 1, 1, 1, 1, 1, 0, 0]) (g5C [1, 1, 1, 1, 1, 1, 1, 0, 1]) := by kernel_rfl
theorem g5n111111101 : g5C [1, 1, 1, 1, 1, 1, 1, 0, 1] = .block 2 (g5C [1, 1, 1, 1, 1, 1, 1, 0, 1, 0]) := by kernel_rfl
theorem g5e1111111 : g5X (g5C [1, 1, 1, 1, 1, 1, 1]) (g5kr) = fun env st => g5b1111111 (env 5) (env 6) (env 9) (env 10) st := by
  refine Eq.trans ((g5seq g5n1111111 rfl).trans (g5seq g5n11111110 ((g5blk g5n111111101).trans (g5e1111111010)))) ?_
  funext env st
  kernel_rfl
noncomputable def g5b11111 (x5 : V) (x6 : V) (st : St) : Res :=
 A.ret (s13 [x5.er1] st) fun a1 z2 =>
 A.ret (s13 [x6.er1] z2) fun a3 z4 =>
 A.lenL a1 fun a5 =>
 A.lenL a3 fun a6 =>
 A.eql 2 true a5 a6 fun a7 =>
 A.guard a7 false
 (A.ret (s15 [x5.er1] z4) fun a8 z9 =>
 A.ret (s15 [x6.er1] z9) fun a10 z11 =>
 A.eql 2 true a8 a10 fun a12 =>
 A.cond a12
 (some (.ret ((.bool false) : V).er1, z11))
 (g5b1111111 x5 x6 a1 a3 z11))
 (some (.ret ((.bool false) : V).er1, z4))
theorem g5n11111 : g5C [1, 1, 1, 1, 1] = .seq (g5C [1, 1, 1, 1, 1, 0]) (g5C [1, 1, 1, 1, 1, 1]) := by kernel_rfl
theorem g5n111111 : g5C [1, 1, 1, 1, 1, 1] = .seq (g5C [1, 1, 1, 1, 1, 1, 0]) (g5C [1, 1, 1, 1, 1, 1, 1]) := by kernel_rfl
theorem g5e11111 : g5X (g5C [1, 1, 1, 1, 1]) (g5kr) = fun env st => g5b11111 (env 5) (env 6) st := by
  refine Eq.trans (g5seq g5n11111 (g5seq g5n111111 (g5e1111111))) ?_
  funext env st
  kernel_rfl
noncomputable def g5k5 : Kon := kSeq (fun env st => g5b11111 (env 5) (env 6) st) (g5kr)
noncomputable def g5k6 : Kon := kBlk 0 (g5k5)
noncomputable def g5b1111010 : Nat → V → V → V → V → V → V → St → Res
| 0, _, _, _, _, _, _, _ => none
| n + 1, x0, x1, x5, x6, x7, x8, st =>
 A.bin .lss x8 x7 fun a1 =>
 A.cond a1
 (A.iaddr 1 x0 x8 fun a2 =>
 A.load false 1 a2 st fun a3 z4 =>
 A.ret (s12 [x5.er1, a3.er1] z4) fun a5 z6 =>
 A.bin .and x1 (.int .i64 65535) fun a7 =>
 A.bin .add x8 a7 fun a8 =>
 A.bin .rem a8 x7 fun a9 =>
 A.iaddr 1 x0 a9 fun a10 =>
 A.load false 1 a10 z6 fun a11 z12 =>
 A.ret (s12 [x6.er1, a11.er1] z12) fun a13 z14 =>
 A.bin .add x8 (.int .i64 1) fun a15 =>
 (g5b1111010 n) x0 x1 x5 x6 x7 a15 z14)
 (g5b11111 x5 x6 st)
theorem g5n1111010 : g5C [1, 1, 1, 1, 0, 1, 0] = .loop (g5C [1, 1, 1, 1, 0, 1, 0, 0]) := by kernel_rfl
noncomputable def g5k7 (L1111010 : V → V → V → V → V → V → St → Res) : Kon := kSeq (fun env st => L1111010 (env 0) (env 1) (env 5) (env 6) (env 7) (env 8) st) (g5k6)
theorem g5e1111010 : g5X (g5C [1, 1, 1, 1, 0, 1, 0]) (g5k6) = fun env st => g5b1111010 big (env 0) (env 1) (env 5) (env 6) (env 7) (env 8) st := by
  have key : ∀ n, aloop (g5X (g5C [1, 1, 1, 1, 0, 1, 0, 0])) (g5k6) n = fun env st => g5b1111010 n (env 0) (env 1) (env 5) (env 6) (env 7) (env 8) st := by
    intro n
    induction n with
    | zero => rfl
    | succ n ih =>
      have h : aloop (g5X (g5C [1, 1, 1, 1, 0, 1, 0, 0])) (g5k6) (n + 1) = g5X (g5C [1, 1, 1, 1, 0, 1, 0, 0]) (kSeq (aloop (g5X (g5C [1, 1, 1, 1, 0, 1, 0, 0])) (g5k6) n) (g5k6)) := rfl
      rw [h, ih]
      refine Eq.trans (Eq.refl _) ?_
      funext env st
      kernel_rfl
  exact (g5loop g5n1111010).trans (key big)
noncomputable def g5b111 (x0 : V) (x1 : V) (x5 : V) (x6 : V) (st : St) : Res :=
 A.lenL x0 fun a1 =>
 A.min a1 (.int .i64 100) fun a2 =>
 g5b1111010 big x0 x1 x5 x6 a2 (.int .i64 0) st
theorem g5n111 : g5C [1, 1, 1] = .seq (g5C [1, 1, 1, 0]) (g5C [1, 1, 1, 1]) := by kernel_rfl
theorem g5n1111 : g5C [1, 1, 1, 1] = .seq (g5C [1, 1, 1, 1, 0]) (g5C [1, 1, 1, 1, 1]) := by kernel_rfl
theorem g5n11110 : g5C [1, 1, 1, 1, 0] = .seq (g5C [1, 1, 1, 1, 0, 0]) (g5C [1, 1, 1, 1, 0, 1]) := by kernel_rfl
theorem g5n111101 : g5C [1, 1, 1, 1, 0, 1] = .block 0 (g5C [1, 1, 1, 1, 0, 1, 0]) := by kernel_rfl
theorem g5e111 : g5X (g5C [1, 1, 1]) (g5kr) = fun env st => g5b111 (env 0) (env 1) (env 5) (env 6) st := by
  refine Eq.trans (g5seq g5n111 ((g5seq g5n1111 (g5e11111)).trans (g5seq g5n11110 ((g5blk g5n111101).trans (g5e1111010))))) ?_
  funext env st
  kernel_rfl
noncomputable def f5 (x0 : V) (x1 : V) (st : St) : Res :=
 A.ret (s11 [] st) fun a1 z2 =>
 A.ret (s11 [] z2) fun a3 z4 =>
 A.eql 4 false a1 .ptr0 fun a5 =>
 A.guard a5 false
 (A.eql 4 false a3 .ptr0 fun a6 =>
 A.cond a6
 (some (.ret ((.bool false) : V).er1, z4))
 (g5b111 x0 x1 a1 a3 z4))
 (some (.ret ((.bool false) : V).er1, z4))
theorem g5nr : g5C [] = .seq (g5C [0]) (g5C [1]) := by kernel_rfl
theorem g5n1 : g5C [1] = .seq (g5C [1, 0]) (g5C [1, 1]) := by kernel_rfl
theorem g5n11 : g5C [1, 1] = .seq (g5C [1, 1, 0]) (g5C [1, 1, 1]) := by kernel_rfl
theorem g5er (env : Env) (st : St) : g5X (g5C []) g5kr env st = f5 (env 0) (env 1) st := by
  rw [(g5seq g5nr (g5seq g5n1 (g5seq g5n11 (g5e111))))]
  kernel_rfl
theorem s5_eq (x0 : V) (x1 : V) (st : St) : s5 [x0, x1] st = f5 x0 x1 st := by
  have h : afn Try.prog g5mu g5T big (areg Try.prog g5mu g5T) 5 [x0, x1] st = g5X (g5C []) g5kr (fun t => [x0, x1].getD t (.tup [])) st := by kernel_rfl
  rw [s5, sealF_eq]
  exact h.trans (g5er _ st)
/-! sinew/sinewlaw05.WordsPlays -/
def g6mu : Nat → Bool := fun _ => false
noncomputable def g6T : Tbl := tget [(11, s11), (12, s12), (13, s13), (14, s14), (15, s15), (16, s16), (17, s17), (18, s18), (19, s19), (20, s20)]
theorem g6t : SimT Try.prog g6T := simT_cons sim11 ( simT_cons sim12 ( simT_cons sim13 ( simT_cons sim14 ( simT_cons sim15 ( simT_cons sim16 ( simT_cons sim17 ( simT_cons sim18 ( simT_cons sim19 ( simT_cons sim20 (simT_nil))))))))))
noncomputable def s6 : Fn := sealF (afn Try.prog g6mu g6T big (areg Try.prog g6mu g6T) 6)
theorem sim6 : Sim Try.prog 6 s6 := (afn_sim g6t (fun m => areg_sound g6t hmix m) 6 (by kernel_rfl)).sealed
noncomputable def g6C (p : List Nat) : Code := sub (match Try.f6.body with | some c => c | none => .skip) p
noncomputable def g6X (c : Code) (K : Kon) : Env → St → Res := aexec Try.prog g6mu g6T big 153 (areg Try.prog g6mu g6T 153) c K
noncomputable def g6kr : Kon := aresK Try.prog Try.f6.results.toList
theorem g6reg {c : Code} {K : Kon} {G : Env → St → Res} {id : Nat} {ops : Array Oper} {l1 l2 : List Nat} (hc : c = .region id ops false) (hl : List.range ops.size = l1 ++ l2) (h : (fun env st => aops Try.prog g6mu g6T 153 ops l2 env st (K .normal)) = G) : g6X c K = fun env st => aops Try.prog g6mu g6T 153 ops l1 env st G := reg_cut hc hl h
theorem g6seq {c x y : Code} {K : Kon} {G : Env → St → Res} (hc : c = .seq x y) (hy : g6X y K = G) : g6X c K = g6X x (kSeq G K) := seq_cut hc hy
theorem g6blk {c x : Code} {K : Kon} {i : Nat} (hc : c = .block i x) : g6X c K = g6X x (kBlk i K) := blk_cut hc
theorem g6loop {c x : Code} {K : Kon} (hc : c = .loop x) : g6X c K = aloop (g6X x) K big := loop_cut hc
theorem g6cond {c x y : Code} {K : Kon} {v : Operand} {F G : Env → St → Res} (hc : c = .cond v x y) (hx : g6X x K = F) (hy : g6X y K = G) : g6X c K = condF v F G := cond_cut hc hx hy
noncomputable def g6k0 : Kon := kSeq (g6X (g6C [1, 1, 1, 1, 1, 1, 1, 1, 1, 1]) (g6kr)) (g6kr)
noncomputable def g6k1 : Kon := kBlk 2 (g6k0)
noncomputable def g6b111111111010 : Nat → V → V → V → St → Res
| 0, _, _, _, _ => none
| n + 1, x19, x20, x21, st =>
 A.lenL x19 fun a1 =>
 A.bin .lss x21 a1 fun a2 =>
 A.cond a2
 (A.iaddr 1 x19 x21 fun a3 =>
 A.load false 1 a3 st fun a4 _ =>
 A.iaddr 1 x20 x21 fun a5 =>
 A.load false 1 a5 st fun a6 _ =>
 A.eql 2 true a4 a6 fun a7 =>
 A.cond a7
 (some (.ret ((.bool false) : V).er1, st))
 (A.bin .add x21 (.int .i64 1) fun a8 =>
 (g6b111111111010 n) x19 x20 a8 st))
 (A.ret (s16 [] st) fun a9 z10 =>
 some (.ret a9.er1, z10))
theorem g6n111111111010 : g6C [1, 1, 1, 1, 1, 1, 1, 1, 1, 0, 1, 0] = .loop (g6C [1, 1, 1, 1, 1, 1, 1, 1, 1, 0, 1, 0, 0]) := by kernel_rfl
noncomputable def g6k2 (L111111111010 : V → V → V → St → Res) : Kon := kSeq (fun env st => L111111111010 (env 19) (env 20) (env 21) st) (g6k1)
theorem g6e111111111010 : g6X (g6C [1, 1, 1, 1, 1, 1, 1, 1, 1, 0, 1, 0]) (g6k1) = fun env st => g6b111111111010 big (env 19) (env 20) (env 21) st := by
  have key : ∀ n, aloop (g6X (g6C [1, 1, 1, 1, 1, 1, 1, 1, 1, 0, 1, 0, 0])) (g6k1) n = fun env st => g6b111111111010 n (env 19) (env 20) (env 21) st := by
    intro n
    induction n with
    | zero => rfl
    | succ n ih =>
      have h : aloop (g6X (g6C [1, 1, 1, 1, 1, 1, 1, 1, 1, 0, 1, 0, 0])) (g6k1) (n + 1) = g6X (g6C [1, 1, 1, 1, 1, 1, 1, 1, 1, 0, 1, 0, 0]) (kSeq (aloop (g6X (g6C [1, 1, 1, 1, 1, 1, 1, 1, 1, 0, 1, 0, 0])) (g6k1) n) (g6k1)) := rfl
      rw [h, ih]
      refine Eq.trans (Eq.refl _) ?_
      funext env st
      kernel_rfl
  exact (g6loop g6n111111111010).trans (key big)
noncomputable def g6b111111111 (x19 : V) (x20 : V) (st : St) : Res :=
 g6b111111111010 big x19 x20 (.int .i64 0) st
theorem g6n111111111 : g6C [1, 1, 1, 1, 1, 1, 1, 1, 1] = .seq (g6C [1, 1, 1, 1, 1, 1, 1, 1, 1, 0]) (g6C [1, 1, 1, 1, 1, 1, 1, 1, 1, 1]) := by kernel_rfl
theorem g6n1111111110 : g6C [1, 1, 1, 1, 1, 1, 1, 1, 1, 0] = .seq (g6C [1, 1, 1, 1, 1, 1, 1, 1, 1, 0, 0]) (g6C [1, 1, 1, 1, 1, 1, 1, 1, 1, 0, 1]) := by kernel_rfl
theorem g6n11111111101 : g6C [1, 1, 1, 1, 1, 1, 1, 1, 1, 0, 1] = .block 2 (g6C [1, 1, 1, 1, 1, 1, 1, 1, 1, 0, 1, 0]) := by kernel_rfl
theorem g6e111111111 : g6X (g6C [1, 1, 1, 1, 1, 1, 1, 1, 1]) (g6kr) = fun env st => g6b111111111 (env 19) (env 20) st := by
  refine Eq.trans ((g6seq g6n111111111 rfl).trans (g6seq g6n1111111110 ((g6blk g6n11111111101).trans (g6e111111111010)))) ?_
  funext env st
  kernel_rfl
noncomputable def g6b1111111 (x5 : V) (x6 : V) (st : St) : Res :=
 A.ret (s13 [x5.er1] st) fun a1 z2 =>
 A.ret (s20 [x6.er1] z2) fun a3 z4 =>
 A.ret (s15 [x5.er1] z4) fun a5 z6 =>
 A.lenL x6 fun a7 =>
 A.eql 2 true a5 a7 fun a8 =>
 A.guard a8 false
 (A.lenL a1 fun a9 =>
 A.lenL a3 fun a10 =>
 A.eql 2 true a9 a10 fun a11 =>
 A.cond a11
 (some (.ret ((.bool false) : V).er1, z6))
 (g6b111111111 a1 a3 z6))
 (some (.ret ((.bool false) : V).er1, z6))
theorem g6n1111111 : g6C [1, 1, 1, 1, 1, 1, 1] = .seq (g6C [1, 1, 1, 1, 1, 1, 1, 0]) (g6C [1, 1, 1, 1, 1, 1, 1, 1]) := by kernel_rfl
theorem g6n11111111 : g6C [1, 1, 1, 1, 1, 1, 1, 1] = .seq (g6C [1, 1, 1, 1, 1, 1, 1, 1, 0]) (g6C [1, 1, 1, 1, 1, 1, 1, 1, 1]) := by kernel_rfl
theorem g6e1111111 : g6X (g6C [1, 1, 1, 1, 1, 1, 1]) (g6kr) = fun env st => g6b1111111 (env 5) (env 6) st := by
  refine Eq.trans (g6seq g6n1111111 (g6seq g6n11111111 (g6e111111111))) ?_
  funext env st
  kernel_rfl
noncomputable def g6k3 : Kon := kSeq (fun env st => g6b1111111 (env 5) (env 6) st) (g6kr)
noncomputable def g6b11111101 (x1 : V) (x5 : V) (x6 : V) (x17 : V) (x18 : V) (x104 : V) (st : St) : Res :=
 A.cond x104
 (A.iaddr 1 x6 x1 fun a1 =>
 A.load false 1 a1 st fun a2 z3 =>
 A.eql 3 true x17 a2 fun a4 =>
 A.guard a4 false
 (A.eql 2 true x18 (.int .i64 0) fun a5 =>
 A.cond a5
 (some (.ret ((.bool false) : V).er1, z3))
 (g6b1111111 x5 x6 z3))
 (some (.ret ((.bool false) : V).er1, z3)))
 (A.eql 3 true x17 (.str []) fun a6 =>
 A.guard a6 false
 (A.eql 2 true x18 (.int .i64 3) fun a7 =>
 A.cond a7
 (some (.ret ((.bool false) : V).er1, st))
 (g6b1111111 x5 x6 st))
 (some (.ret ((.bool false) : V).er1, st)))
theorem g6e11111101 : g6X (g6C [1, 1, 1, 1, 1, 1, 0, 1]) (g6k3) = fun env st => g6b11111101 (env 1) (env 5) (env 6) (env 17) (env 18) (env 104) st := by
  refine Eq.trans (Eq.refl (g6X (g6C [1, 1, 1, 1, 1, 1, 0, 1]) (g6k3))) ?_
  funext env st
  kernel_rfl
noncomputable def g6b11111 (x1 : V) (x5 : V) (x6 : V) (st : St) : Res :=
 A.ret (s14 [x5.er1, x1.er1] st) fun a1 z2 =>
 A.ext a1 0 fun a3 =>
 A.ext a1 1 fun a4 =>
 A.bin .geq x1 (.int .i64 0) fun a5 =>
 A.guard a5 true
 (A.lenL x6 fun a6 =>
 A.bin .lss x1 a6 fun a7 =>
 g6b11111101 x1 x5 x6 a3 a4 a7 z2)
 (g6b11111101 x1 x5 x6 a3 a4 (.bool false) z2)
theorem g6n11111 : g6C [1, 1, 1, 1, 1] = .seq (g6C [1, 1, 1, 1, 1, 0]) (g6C [1, 1, 1, 1, 1, 1]) := by kernel_rfl
theorem g6n111111 : g6C [1, 1, 1, 1, 1, 1] = .seq (g6C [1, 1, 1, 1, 1, 1, 0]) (g6C [1, 1, 1, 1, 1, 1, 1]) := by kernel_rfl
theorem g6n1111110 : g6C [1, 1, 1, 1, 1, 1, 0] = .seq (g6C [1, 1, 1, 1, 1, 1, 0, 0]) (g6C [1, 1, 1, 1, 1, 1, 0, 1]) := by kernel_rfl
theorem g6e11111 : g6X (g6C [1, 1, 1, 1, 1]) (g6kr) = fun env st => g6b11111 (env 1) (env 5) (env 6) st := by
  refine Eq.trans (g6seq g6n11111 ((g6seq g6n111111 (g6e1111111)).trans (g6seq g6n1111110 (g6e11111101)))) ?_
  funext env st
  kernel_rfl
noncomputable def g6k4 : Kon := kSeq (fun env st => g6b11111 (env 1) (env 5) (env 6) st) (g6kr)
noncomputable def g6k5 : Kon := kBlk 0 (g6k4)
noncomputable def g6k6 (L1111010 : V → V → V → V → V → St → Res) : Kon := kSeq (fun env st => L1111010 (env 0) (env 1) (env 5) (env 6) (env 7) st) (g6k5)
noncomputable def g6k7 (L1111010 : V → V → V → V → V → St → Res) : Kon := kSeq (g6X (g6C [1, 1, 1, 1, 0, 1, 0, 0, 1, 1]) (g6k6 L1111010)) (g6k6 L1111010)
noncomputable def g6k8 (L1111010 : V → V → V → V → V → St → Res) : Kon := kBlk 1 (g6k7 L1111010)
noncomputable def g6k9 (L1111010 : V → V → V → V → V → St → Res) : Kon := kSeq (g6X (g6C [1, 1, 1, 1, 0, 1, 0, 0, 1, 0, 0, 1, 1, 1, 1, 1]) (g6k8 L1111010)) (g6k8 L1111010)
noncomputable def g6k10 (L1111010 : V → V → V → V → V → St → Res) : Kon := kSeq (g6X (g6C [1, 1, 1, 1, 0, 1, 0, 0, 1, 0, 0, 1, 1, 1, 1, 0, 1]) (g6k9 L1111010)) (g6k9 L1111010)
noncomputable def g6b11110100100111100_9 (L1111010 : V → V → V → V → V → St → Res) (x0 : V) (x1 : V) (x5 : V) (x7 : V) (x12 : V) (x13 : V) (x14 : V) (x15 : V) (x16 : V) (x80 : V) (st : St) : Res :=
 A.guard x80 false
 (A.eql 2 true x15 x13 fun a1 =>
 A.guard a1 false
 (A.eql 2 true x16 x14 fun a2 =>
 A.cond a2
 (some (.ret ((.bool false) : V).er1, st))
 (A.bin .add x7 (.int .i64 1) fun a3 =>
 L1111010 x0 x1 x5 x12 a3 st))
 (some (.ret ((.bool false) : V).er1, st)))
 (some (.ret ((.bool false) : V).er1, st))
theorem g6e11110100100111100_9 (L1111010 : V → V → V → V → V → St → Res) : (fun env st => aops Try.prog g6mu g6T 153 (rops (g6C [1, 1, 1, 1, 0, 1, 0, 0, 1, 0, 0, 1, 1, 1, 1, 0, 0])) [9, 10, 11, 12, 13, 14, 15, 16, 17] env st ((g6k10 L1111010) .normal)) = fun env st => g6b11110100100111100_9 L1111010 (env 0) (env 1) (env 5) (env 7) (env 12) (env 13) (env 14) (env 15) (env 16) (env 80) st := by
  refine Eq.trans (Eq.refl _) ?_
  funext env st
  kernel_rfl
noncomputable def g6b111101001001111 (L1111010 : V → V → V → V → V → St → Res) (x0 : V) (x1 : V) (x5 : V) (x7 : V) (x8 : V) (x9 : V) (x10 : V) (x11 : V) (x12 : V) (x13 : V) (x14 : V) (x15 : V) (x16 : V) (st : St) : Res :=
 A.eql 2 true x8 x10 fun a1 =>
 A.guard a1 false
 (A.eql 2 true x9 x11 fun a2 =>
 g6b11110100100111100_9 L1111010 x0 x1 x5 x7 x12 x13 x14 x15 x16 a2 st)
 (g6b11110100100111100_9 L1111010 x0 x1 x5 x7 x12 x13 x14 x15 x16 (.bool true) st)
theorem g6n111101001001111 : g6C [1, 1, 1, 1, 0, 1, 0, 0, 1, 0, 0, 1, 1, 1, 1] = .seq (g6C [1, 1, 1, 1, 0, 1, 0, 0, 1, 0, 0, 1, 1, 1, 1, 0]) (g6C [1, 1, 1, 1, 0, 1, 0, 0, 1, 0, 0, 1, 1, 1, 1, 1]) := by kernel_rfl
theorem g6n1111010010011110 : g6C [1, 1, 1, 1, 0, 1, 0, 0, 1, 0, 0, 1, 1, 1, 1, 0] = .seq (g6C [1, 1, 1, 1, 0, 1, 0, 0, 1, 0, 0, 1, 1, 1, 1, 0, 0]) (g6C [1, 1, 1, 1, 0, 1, 0, 0, 1, 0, 0, 1, 1, 1, 1, 0, 1]) := by kernel_rfl
theorem g6rg11110100100111100 : g6C [1, 1, 1, 1, 0, 1, 0, 0, 1, 0, 0, 1, 1, 1, 1, 0, 0] = .region 12 (rops (g6C [1, 1, 1, 1, 0, 1, 0, 0, 1, 0, 0, 1, 1, 1, 1, 0, 0])) false := by kernel_rfl
theorem g6rg11110100100111100l : List.range (rops (g6C [1, 1, 1, 1, 0, 1, 0, 0, 1, 0, 0, 1, 1, 1, 1, 0, 0])).size = [0, 1, 2, 3, 4, 5, 6, 7, 8] ++ [9, 10, 11, 12, 13, 14, 15, 16, 17] := by kernel_rfl
theorem g6e111101001001111 (L1111010 : V → V → V → V → V → St → Res) : g6X (g6C [1, 1, 1, 1, 0, 1, 0, 0, 1, 0, 0, 1, 1, 1, 1]) (g6k8 L1111010) = fun env st => g6b111101001001111 L1111010 (env 0) (env 1) (env 5) (env 7) (env 8) (env 9) (env 10) (env 11) (env 12) (env 13) (env 14) (env 15) (env 16) st := by
  refine Eq.trans ((g6seq g6n111101001001111 rfl).trans ((g6seq g6n1111010010011110 rfl).trans (g6reg g6rg11110100100111100 g6rg11110100100111100l (g6e11110100100111100_9 L1111010)))) ?_
  funext env st
  kernel_rfl
noncomputable def g6b11110100100111 (L1111010 : V → V → V → V → V → St → Res) (x0 : V) (x1 : V) (x5 : V) (x7 : V) (x8 : V) (x9 : V) (x10 : V) (x11 : V) (x12 : V) (x13 : V) (x14 : V) (st : St) : Res :=
 A.iaddr 1 x0 x7 fun a1 =>
 A.load false 1 a1 st fun a2 z3 =>
 A.ret (s12 [x5.er1, a2.er1] z3) fun a4 z5 =>
 A.ext a4 0 fun a6 =>
 A.ext a4 1 fun a7 =>
 g6b111101001001111 L1111010 x0 x1 x5 x7 x8 x9 x10 x11 x12 x13 x14 a6 a7 z5
theorem g6n11110100100111 : g6C [1, 1, 1, 1, 0, 1, 0, 0, 1, 0, 0, 1, 1, 1] = .seq (g6C [1, 1, 1, 1, 0, 1, 0, 0, 1, 0, 0, 1, 1, 1, 0]) (g6C [1, 1, 1, 1, 0, 1, 0, 0, 1, 0, 0, 1, 1, 1, 1]) := by kernel_rfl
theorem g6e11110100100111 (L1111010 : V → V → V → V → V → St → Res) : g6X (g6C [1, 1, 1, 1, 0, 1, 0, 0, 1, 0, 0, 1, 1, 1]) (g6k8 L1111010) = fun env st => g6b11110100100111 L1111010 (env 0) (env 1) (env 5) (env 7) (env 8) (env 9) (env 10) (env 11) (env 12) (env 13) (env 14) st := by
  refine Eq.trans (g6seq g6n11110100100111 (g6e111101001001111 L1111010)) ?_
  funext env st
  kernel_rfl
noncomputable def g6b1111010010011 (L1111010 : V → V → V → V → V → St → Res) (x0 : V) (x1 : V) (x5 : V) (x6 : V) (x7 : V) (x8 : V) (x9 : V) (x10 : V) (x11 : V) (st : St) : Res :=
 A.iaddr 1 x0 x7 fun a1 =>
 A.load false 1 a1 st fun a2 z3 =>
 A.ret (s19 [x6.er1, a2.er1] z3) fun a4 z5 =>
 A.ext a4 0 fun a6 =>
 A.ext a4 1 fun a7 =>
 A.ext a4 2 fun a8 =>
 g6b11110100100111 L1111010 x0 x1 x5 x7 x8 x9 x10 x11 a6 a7 a8 z5
theorem g6n1111010010011 : g6C [1, 1, 1, 1, 0, 1, 0, 0, 1, 0, 0, 1, 1] = .seq (g6C [1, 1, 1, 1, 0, 1, 0, 0, 1, 0, 0, 1, 1, 0]) (g6C [1, 1, 1, 1, 0, 1, 0, 0, 1, 0, 0, 1, 1, 1]) := by kernel_rfl
theorem g6e1111010010011 (L1111010 : V → V → V → V → V → St → Res) : g6X (g6C [1, 1, 1, 1, 0, 1, 0, 0, 1, 0, 0, 1, 1]) (g6k8 L1111010) = fun env st => g6b1111010010011 L1111010 (env 0) (env 1) (env 5) (env 6) (env 7) (env 8) (env 9) (env 10) (env 11) st := by
  refine Eq.trans (g6seq g6n1111010010011 (g6e11110100100111 L1111010)) ?_
  funext env st
  kernel_rfl
noncomputable def g6b111101001001 (L1111010 : V → V → V → V → V → St → Res) (x0 : V) (x1 : V) (x5 : V) (x6 : V) (x7 : V) (x8 : V) (x9 : V) (st : St) : Res :=
 A.iaddr 1 x0 x7 fun a1 =>
 A.load false 1 a1 st fun a2 z3 =>
 A.ret (s18 [x6.er1, a2.er1] z3) fun a4 z5 =>
 A.ext a4 0 fun a6 =>
 A.ext a4 1 fun a7 =>
 g6b1111010010011 L1111010 x0 x1 x5 x6 x7 x8 x9 a6 a7 z5
theorem g6n111101001001 : g6C [1, 1, 1, 1, 0, 1, 0, 0, 1, 0, 0, 1] = .seq (g6C [1, 1, 1, 1, 0, 1, 0, 0, 1, 0, 0, 1, 0]) (g6C [1, 1, 1, 1, 0, 1, 0, 0, 1, 0, 0, 1, 1]) := by kernel_rfl
theorem g6e111101001001 (L1111010 : V → V → V → V → V → St → Res) : g6X (g6C [1, 1, 1, 1, 0, 1, 0, 0, 1, 0, 0, 1]) (g6k8 L1111010) = fun env st => g6b111101001001 L1111010 (env 0) (env 1) (env 5) (env 6) (env 7) (env 8) (env 9) st := by
  refine Eq.trans (g6seq g6n111101001001 (g6e1111010010011 L1111010)) ?_
  funext env st
  kernel_rfl
noncomputable def g6b111101001 (L1111010 : V → V → V → V → V → St → Res) (x0 : V) (x1 : V) (x5 : V) (x6 : V) (x7 : V) (st : St) : Res :=
 A.iaddr 1 x0 x7 fun a1 =>
 A.load false 1 a1 st fun a2 z3 =>
 A.ret (s17 [x5.er1, a2.er1] z3) fun a4 z5 =>
 A.ext a4 0 fun a6 =>
 A.ext a4 1 fun a7 =>
 g6b111101001001 L1111010 x0 x1 x5 x6 x7 a6 a7 z5
theorem g6n111101001 : g6C [1, 1, 1, 1, 0, 1, 0, 0, 1] = .seq (g6C [1, 1, 1, 1, 0, 1, 0, 0, 1, 0]) (g6C [1, 1, 1, 1, 0, 1, 0, 0, 1, 1]) := by kernel_rfl
theorem g6n1111010010 : g6C [1, 1, 1, 1, 0, 1, 0, 0, 1, 0] = .block 1 (g6C [1, 1, 1, 1, 0, 1, 0, 0, 1, 0, 0]) := by kernel_rfl
theorem g6n11110100100 : g6C [1, 1, 1, 1, 0, 1, 0, 0, 1, 0, 0] = .seq (g6C [1, 1, 1, 1, 0, 1, 0, 0, 1, 0, 0, 0]) (g6C [1, 1, 1, 1, 0, 1, 0, 0, 1, 0, 0, 1]) := by kernel_rfl
theorem g6e111101001 (L1111010 : V → V → V → V → V → St → Res) : g6X (g6C [1, 1, 1, 1, 0, 1, 0, 0, 1]) (g6k6 L1111010) = fun env st => g6b111101001 L1111010 (env 0) (env 1) (env 5) (env 6) (env 7) st := by
  refine Eq.trans ((g6seq g6n111101001 rfl).trans ((g6blk g6n1111010010).trans (g6seq g6n11110100100 (g6e111101001001 L1111010)))) ?_
  funext env st
  kernel_rfl
noncomputable def g6b1111010 : Nat → V → V → V → V → V → St → Res
| 0, _, _, _, _, _, _ => none
| n + 1, x0, x1, x5, x6, x7, st =>
 A.lenL x0 fun a1 =>
 A.bin .lss x7 a1 fun a2 =>
 A.guard a2 true
 (A.bin .lss x7 (.int .i64 200) fun a3 =>
 A.cond a3
 (g6b111101001 (g6b1111010 n) x0 x1 x5 x6 x7 st)
 (g6b11111 x1 x5 x6 st))
 (g6b11111 x1 x5 x6 st)
theorem g6n1111010 : g6C [1, 1, 1, 1, 0, 1, 0] = .loop (g6C [1, 1, 1, 1, 0, 1, 0, 0]) := by kernel_rfl
theorem g6n11110100 : g6C [1, 1, 1, 1, 0, 1, 0, 0] = .seq (g6C [1, 1, 1, 1, 0, 1, 0, 0, 0]) (g6C [1, 1, 1, 1, 0, 1, 0, 0, 1]) := by kernel_rfl
theorem g6e1111010 : g6X (g6C [1, 1, 1, 1, 0, 1, 0]) (g6k5) = fun env st => g6b1111010 big (env 0) (env 1) (env 5) (env 6) (env 7) st := by
  have key : ∀ n, aloop (g6X (g6C [1, 1, 1, 1, 0, 1, 0, 0])) (g6k5) n = fun env st => g6b1111010 n (env 0) (env 1) (env 5) (env 6) (env 7) st := by
    intro n
    induction n with
    | zero => rfl
    | succ n ih =>
      have h : aloop (g6X (g6C [1, 1, 1, 1, 0, 1, 0, 0])) (g6k5) (n + 1) = g6X (g6C [1, 1, 1, 1, 0, 1, 0, 0]) (kSeq (aloop (g6X (g6C [1, 1, 1, 1, 0, 1, 0, 0])) (g6k5) n) (g6k5)) := rfl
      rw [h, ih]
      refine Eq.trans (g6seq g6n11110100 (g6e111101001 (g6b1111010 n))) ?_
      funext env st
      kernel_rfl
  exact (g6loop g6n1111010).trans (key big)
noncomputable def f6 (x0 : V) (x1 : V) (st : St) : Res :=
 A.ret (s11 [] st) fun a1 z2 =>
 A.eql 4 false a1 .ptr0 fun a3 =>
 A.cond a3
 (some (.ret ((.bool false) : V).er1, z2))
 (g6b1111010 big x0 x1 a1 (.lst [] 1) (.int .i64 0) z2)
theorem g6nr : g6C [] = .seq (g6C [0]) (g6C [1]) := by kernel_rfl
theorem g6n1 : g6C [1] = .seq (g6C [1, 0]) (g6C [1, 1]) := by kernel_rfl
theorem g6n11 : g6C [1, 1] = .seq (g6C [1, 1, 0]) (g6C [1, 1, 1]) := by kernel_rfl
theorem g6n111 : g6C [1, 1, 1] = .seq (g6C [1, 1, 1, 0]) (g6C [1, 1, 1, 1]) := by kernel_rfl
theorem g6n1111 : g6C [1, 1, 1, 1] = .seq (g6C [1, 1, 1, 1, 0]) (g6C [1, 1, 1, 1, 1]) := by kernel_rfl
theorem g6n11110 : g6C [1, 1, 1, 1, 0] = .seq (g6C [1, 1, 1, 1, 0, 0]) (g6C [1, 1, 1, 1, 0, 1]) := by kernel_rfl
theorem g6n111101 : g6C [1, 1, 1, 1, 0, 1] = .block 0 (g6C [1, 1, 1, 1, 0, 1, 0]) := by kernel_rfl
theorem g6er (env : Env) (st : St) : g6X (g6C []) g6kr env st = f6 (env 0) (env 1) st := by
  rw [(g6seq g6nr (g6seq g6n1 (g6seq g6n11 (g6seq g6n111 ((g6seq g6n1111 (g6e11111)).trans (g6seq g6n11110 ((g6blk g6n111101).trans (g6e1111010))))))))]
  kernel_rfl
theorem s6_eq (x0 : V) (x1 : V) (st : St) : s6 [x0, x1] st = f6 x0 x1 st := by
  have h : afn Try.prog g6mu g6T big (areg Try.prog g6mu g6T) 6 [x0, x1] st = g6X (g6C []) g6kr (fun t => [x0, x1].getD t (.tup [])) st := by kernel_rfl
  rw [s6, sealF_eq]
  exact h.trans (g6er _ st)
end Go.Ab
