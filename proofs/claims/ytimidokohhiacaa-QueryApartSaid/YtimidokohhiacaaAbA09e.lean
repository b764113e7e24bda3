import Derived.Test.YtimidokohhiacaaAbA09d
/- sinew/query: the parser's functions: changes, requests. -/
namespace Go.Ab
open Go.Proofs Go.RowKit
set_option linter.unusedVariables false
set_option linter.unusedSimpArgs false
set_option maxRecDepth 100000
def ParR {α : Type} (p : Nat) (e : Int) (rel : α → V → Prop) (st : St) (r : PR α) (x : Res) : Prop := match r with
  | .ok a l => ∃ st' t v, x = some (.ret v, st') ∧ rel a v ∧ KsP p st st' ∧ st'.ob p = some (pc l t e)
  | .bad l => ∃ st' t, x = some (.panic (.iface 88 (.agg [.int .i64 (nowS l e).at_])), st') ∧ KsP p st st' ∧ st'.ob p = some (pc l t e)
def relC (cs : List Chg) (v : V) : Prop := ∃ u, v = .lst (cs.map chV) u
theorem own_put {st0 st : St} {sz u i : Nat} {o : Ob} (h : Own st0 st sz u) : Own st0 (st.put i o) sz u := by
  rcases h with g | g | ⟨j, g1, g2, g3, g4⟩
  · exact .inl g
  · exact .inr (.inl g)
  · exact .inr (.inr ⟨j, g1, g2, by simpa using g3, by simpa using g4⟩)
theorem own_new {st0 st : St} {sz u : Nat} {o : Ob} (h : Own st0 st sz u) : Own st0 (st.new o) sz u := by
  rcases h with g | g | ⟨j, g1, g2, g3, g4⟩
  · exact .inl g
  · exact .inr (.inl g)
  · exact .inr (.inr ⟨j, g1, g2, by simpa using g3, by simpa using g4⟩)
/-! read -/
noncomputable def r25d (x0 a2 a3 a4 : V) (st : St) : Res :=
 A.nilc x0 fun b1 => A.faddr 0 b1 fun b2 => A.load false 1 b2 st fun b3 z3 => A.lenL b3 fun b4 => A.bin .gtr b4 (.int .i64 0) fun b5 =>
 A.cond b5
 (A.nilc x0 fun c1 => A.faddr 0 c1 fun c2 => A.load false 1 c2 z3 fun c3 z4 => A.iaddr 3 c3 (.int .i64 0) fun c4 => A.faddr 2 c4 fun c5 => A.load false 1 c5 z4 fun c6 z6 => A.build [(.int .i64 0)] [(0, 1, c6)] fun c7 => some (.panic (.iface 88 c7), z6))
 (A.load true 4 a2 z3 fun d1 z4 => A.store 4 a2 d1 z4 fun z5 => A.store 1 a3 (.int .i64 0) z5 fun z6 => A.store 1 a4 (.int .i64 0) z6 fun z7 => some (.ret (.tup []), z7))
noncomputable def r25c (x0 a2 a3 a4 c : V) (st : St) : Res :=
 A.cond c
 (A.ret (s51 [x0.er1] st) fun b1 z1 => A.build [(.int .i64 0), (.lst [] 1), (.lst [] 1), (.lst [] 1)] [(0, 1, .int .i64 1), (1, 2, b1)] fun b2 => A.store 4 a2 b2 z1 fun z2 => r25d x0 a2 a3 a4 z2)
 (A.ret (s52 [x0.er1] st) fun b1 z1 => A.build [(.int .i64 0), (.lst [] 1), (.lst [] 1), (.lst [] 1)] [(0, 1, .int .i64 2), (3, 1, b1)] fun b2 => A.store 4 a2 b2 z1 fun z2 => r25d x0 a2 a3 a4 z2)
noncomputable def r25b (x0 a2 a3 a4 : V) (st : St) : Res :=
 A.ret (s50 [x0.er1] st) fun b1 z1 =>
 A.box (.agg [(.int .i64 0), (.str []), (.int .i64 0)]) z1 fun b2 z2 =>
 A.store 3 b2 b1 z2 fun z3 =>
 A.faddr 0 b2 fun b3 =>
 A.load false 1 b3 z3 fun b4 z4 =>
 A.eql 2 false b4 (.int .i64 1) fun b5 =>
 A.guard b5 true
 (A.faddr 1 b2 fun b6 =>
 A.load false 1 b6 z4 fun b7 z7 =>
 A.eql 3 false b7 (.str [115, 101, 108, 101, 99, 116]) fun b8 =>
 r25c x0 a2 a3 a4 b8 z7)
 (r25c x0 a2 a3 a4 (.bool false) z4)
noncomputable def r49 (v0 v1 v2 : V) (a : Int) (st : St) : Res :=
 A.box (.agg [.int .i64 0]) st fun b1 z1 => A.store 1 b1 (.agg [.int .i64 a]) z1 fun z2 =>
 A.faddr 0 b1 fun b3 => A.load false 1 b3 z2 fun b4 _ =>
 A.ret (A.store 4 v0 (.agg [(.int .i64 0), (.lst [] 1), (.lst [] 1), (.lst [] 1)]) z2 fun s => kid (.tup []) s) fun b5 z5 =>
 A.chk (ldv false 1 b3 z5) b4
 (A.ret (A.store 1 v1 b4 z5 fun s => kid (.tup []) s) fun b6 z6 =>
 A.ret (A.store 1 v2 (.int .i64 90) z6 fun s => kid (.tup []) s) fun b7 z7 =>
 some (.ret (.tup []), z7))
noncomputable def rAll (a2 a3 a4 : V) (st : St) : Res := A.res (rcell (A.load true 4 a2 st kid) (rcell (A.load false 1 a3 st kid) (rcell (A.load false 1 a4 st kid) (some [])))) st
noncomputable def f25 (x0 : V) (st : St) : Res :=
 A.box (.agg [(.int .i64 0), (.lst [] 1), (.lst [] 1), (.lst [] 1)]) st fun a2 z2 =>
 A.box (.int .i64 0) z2 fun a3 z3 =>
 A.box (.int .i64 0) z3 fun a4 z4 =>
 rd3 big (fun m => areg Try.prog (fun _ => false) g25T m) (fun t => bif Nat.beq t 0 then x0 else bif Nat.beq t 2 then a2 else bif Nat.beq t 3 then a3 else bif Nat.beq t 4 then a4 else .tup []) (r25b x0 a2 a3 a4 z4)
end Go.Ab
