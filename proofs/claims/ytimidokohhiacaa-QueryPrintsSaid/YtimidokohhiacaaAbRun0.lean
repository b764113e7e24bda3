import Derived.Test.YtimidokohhiacaaAbSpec
import Derived.Test.YtimidokohhiacaaAbP09p
/- sinew/query: requests, and what is read out of signs, in plain words. -/
namespace Go.Ab
open Go.RowKit
set_option linter.unusedVariables false
set_option linter.unusedSimpArgs false
/-- A sign. -/
structure Sg where
  k : Int
  tx : List UInt8
  at_ : Int
inductive Pth where
  | mk (k : Int) (w : List UInt8) (kids : List Pth)
structure Tm where
  v : Bool
  n : List UInt8
structure AtP where
  s : Tm
  p : Pth
  o : Tm
structure Chg where
  gone : Bool
  s : List UInt8
  p : List UInt8
  o : List UInt8
structure Rq where
  kind : Int
  vars : List (List UInt8)
  atoms : List AtP
  ch : List Chg
def Pth.kind : Pth → Int | .mk k _ _ => k
def Pth.word : Pth → List UInt8 | .mk _ w _ => w
def Pth.kids : Pth → List Pth | .mk _ _ l => l
/-! as values -/
def sgV (x : Sg) : V := .agg [.int .i64 x.k, .str x.tx, .int .i64 x.at_]
def Pth.v : Pth → V
  | .mk k w l => .agg [.int .i64 k, .str w, .lst (vl l) 0]
where vl : List Pth → List V
  | [] => []
  | p :: l => p.v :: vl l
abbrev Pth.vl := Pth.v.vl
theorem vl_map : ∀ l : List Pth, Pth.vl l = l.map Pth.v
  | [] => rfl
  | p :: l => by show p.v :: Pth.vl l = _; rw [vl_map l]; rfl
theorem pth_v (k : Int) (w : List UInt8) (l : List Pth) : (Pth.mk k w l).v = .agg [.int .i64 k, .str w, .lst (l.map Pth.v) 0] := by
  show V.agg [.int .i64 k, .str w, .lst (Pth.vl l) 0] = _
  rw [vl_map]
def pthC (p : Pth) : List V := [.int .i64 p.kind, .str p.word, .lst (p.kids.map Pth.v) 0]
theorem pth_c (p : Pth) : p.v = .agg (pthC p) := by cases p; exact pth_v _ _ _
def tmV (t : Tm) : V := .agg [.bool t.v, .str t.n]
def atpC (a : AtP) : List V := [.bool a.s.v, .str a.s.n, .int .i64 a.p.kind, .str a.p.word, .lst (a.p.kids.map Pth.v) 0, .bool a.o.v, .str a.o.n]
def atpV (a : AtP) : V := .agg (atpC a)
def chC (c : Chg) : List V := [.bool c.gone, .str c.s, .str c.p, .str c.o]
def chV (c : Chg) : V := .agg (chC c)
def rqC (r : Rq) : List V := [.int .i64 r.kind, .lst (strsV r.vars) 0, .lst (r.atoms.map atpV) 0, .lst (r.ch.map chV) 0]
def rqV (r : Rq) : V := .agg (rqC r)
/-! reading -/
inductive PR (α : Type) where
  | ok (a : α) (l : List Sg)
  | bad (l : List Sg)
def PR.bind {α β : Type} (x : PR α) (f : α → List Sg → PR β) : PR β := match x with | .ok a l => f a l | .bad l => .bad l
@[simp] theorem PR.bind_ok {α β : Type} (a : α) (l : List Sg) (f : α → List Sg → PR β) : (PR.ok a l).bind f = f a l := rfl
@[simp] theorem PR.bind_bad {α β : Type} (l : List Sg) (f : α → List Sg → PR β) : (PR.bad l : PR α).bind f = .bad l := rfl
def nowS (l : List Sg) (e : Int) : Sg := match l with | [] => ⟨0, [], e⟩ | x :: _ => x
def nowK (l : List Sg) : Int := match l with | [] => 0 | x :: _ => x.k
def pTake (k : Int) (ts : List (List UInt8)) : List Sg → PR (List UInt8)
  | [] => .bad []
  | x :: l => if x.k = k ∧ (ts = [] ∨ ts.contains x.tx = true) then .ok x.tx l else .bad (x :: l)
def pIs (m : List UInt8) : List Sg → Option (List Sg)
  | [] => none
  | x :: l => if x.k = 3 ∧ x.tx = m then some l else none
def pTerm (l : List Sg) : PR Tm := if nowK l = 2 then (pTake 2 [] l).bind fun w l => .ok ⟨true, w⟩ l else (pTake 1 [] l).bind fun w l => .ok ⟨false, w⟩ l
def pPrim (P : List Sg → PR Pth) (l : List Sg) : PR Pth := match pIs [40] l with
  | some l' => (P l').bind fun p l => (pTake 3 [[41]] l).bind fun _ l => .ok p l
  | none => (pTake 1 [] l).bind fun w l => .ok (.mk 1 w []) l
def pStars : Pth → List Sg → Pth × List Sg
  | p, [] => (p, [])
  | p, x :: l => if x.k = 3 ∧ x.tx = [42] then pStars (.mk 4 [] [p]) l else if x.k = 3 ∧ x.tx = [43] then pStars (.mk 5 [] [p]) l else if x.k = 3 ∧ x.tx = [63] then pStars (.mk 6 [] [p]) l else (p, x :: l)
def pPost (P : List Sg → PR Pth) (l : List Sg) : PR Pth := (pPrim P l).bind fun p l => .ok (pStars p l).1 (pStars p l).2
def pMore (m : List UInt8) (part : List Sg → PR Pth) : Nat → List Pth → List Sg → PR (List Pth)
  | 0, _, l => .bad l
  | n + 1, ps, l => match pIs m l with
    | none => .ok ps l
    | some l' => (part l').bind fun p l => pMore m part n (ps ++ [p]) l
def mkN (k : Int) (ps : List Pth) : Pth := match ps with | [p] => p | _ => .mk k [] ps
def pSome (k : Int) (m : List UInt8) (part : List Sg → PR Pth) (n : Nat) (l : List Sg) : PR Pth := (part l).bind fun p l => (pMore m part n [p] l).bind fun ps l => .ok (mkN k ps) l
def pPath : Nat → List Sg → PR Pth
  | 0, l => .bad l
  | n + 1, l => pSome 3 [124] (pSome 2 [47] (pPost (pPath n)) n) n l
def pAtom (N : Nat) (l : List Sg) : PR AtP := (pTerm l).bind fun s l => (pPath N l).bind fun p l => (pTerm l).bind fun o l => .ok ⟨s, p, o⟩ l
def pVars : List (List UInt8) → List Sg → List (List UInt8) × List Sg
  | vs, [] => (vs, [])
  | vs, x :: l => if x.k = 2 then pVars (vs ++ [x.tx]) l else (vs, x :: l)
def pAtoms (N : Nat) : Nat → List AtP → List Sg → PR (List AtP)
  | 0, _, l => .bad l
  | n + 1, az, l => (pAtom N l).bind fun a l => match pIs [46] l with
    | none => .ok (az ++ [a]) l
    | some l' => match pIs [125] l' with
      | some _ => .ok (az ++ [a]) l'
      | none => pAtoms N n (az ++ [a]) l'
def selW : List UInt8 := [115, 101, 108, 101, 99, 116]
def insW : List UInt8 := [105, 110, 115, 101, 114, 116]
def delW : List UInt8 := [100, 101, 108, 101, 116, 101]
def pQuery (N : Nat) (l : List Sg) : PR (List (List UInt8) × List AtP) := (pTake 1 [selW] l).bind fun _ l => (pTake 2 [] l).bind fun v l => (pTake 1 [[119, 104, 101, 114, 101]] (pVars [v] l).2).bind fun _ l2 => (pTake 3 [[123]] l2).bind fun _ l2 => (pAtoms N N [] l2).bind fun az l2 => (pTake 3 [[125]] l2).bind fun _ l2 => .ok ((pVars [v] l).1, az) l2
def pChg (l : List Sg) : PR Chg := (pTake 1 [insW, delW] l).bind fun h l => (pTake 1 [] l).bind fun s l => (pTake 1 [] l).bind fun p l => (pTake 1 [] l).bind fun o l => .ok ⟨h == delW, s, p, o⟩ l
def pChs : Nat → List Chg → List Sg → PR (List Chg)
  | 0, _, l => .bad l
  | n + 1, cs, l => (pChg l).bind fun c l => match pIs [46] l with
    | none => .ok (cs ++ [c]) l
    | some l' => pChs n (cs ++ [c]) l'
def isSel (l : List Sg) : Bool := match l with | [] => false | x :: _ => x.k == 1 && x.tx == selW
def pReq (N : Nat) (l : List Sg) : PR Rq := if isSel l = true then (pQuery N l).bind fun q l => if l = [] then .ok ⟨1, q.1, q.2, []⟩ [] else .bad l else (pChs N [] l).bind fun cs l => if l = [] then .ok ⟨2, [], [], cs⟩ [] else .bad l
/-! what is left is no more -/
def PR.le {α : Type} (r : PR α) (n : Nat) : Prop := match r with | .ok _ l => l.length ≤ n | .bad l => l.length ≤ n
theorem PR.le.mono {α : Type} {r : PR α} {n m : Nat} (h : r.le n) (k : n ≤ m) : r.le m := by cases r <;> exact Nat.le_trans h k
theorem PR.le.bind {α β : Type} {r : PR α} {n : Nat} (h : r.le n) {f : α → List Sg → PR β} (k : ∀ a l, l.length ≤ n → (f a l).le n) : (r.bind f).le n := by
  cases r with
  | ok a l => exact k a l h
  | bad l => exact h
/-! .. and is less, where something is read -/
end Go.Ab

/- sinew/query: the parser's functions: signs, terms, paths. -/
namespace Go.Ab
open Go.Proofs Go.RowKit
set_option linter.unusedVariables false
set_option linter.unusedSimpArgs false
set_option maxRecDepth 100000
def pc (l : List Sg) (t : Nat) (e : Int) : Ob := .cells [.lst (l.map sgV) t, .int .i64 e]
/-- All is kept but one object. -/
structure KsP (p : Nat) (st st' : St) : Prop where
  ob : ∀ i, i < st.n → i ≠ p → st'.ob i = st.ob i
  n : st.n ≤ st'.n
  nt : st.nt ≤ st'.nt
  tk : ∀ t, t < st.nt → st'.tk t = st.tk t
theorem KsP.refl (p : Nat) (st : St) : KsP p st st := ⟨fun _ _ _ => rfl, Nat.le_refl _, Nat.le_refl _, fun _ _ => rfl⟩
theorem KsP.trans {p : Nat} {a b c : St} (h : KsP p a b) (k : KsP p b c) : KsP p a c :=
  ⟨fun i hi hp => (k.ob i (Nat.lt_of_lt_of_le hi h.n) hp).trans (h.ob i hi hp), Nat.le_trans h.n k.n, Nat.le_trans h.nt k.nt, fun t ht => (k.tk t (Nat.lt_of_lt_of_le ht h.nt)).trans (h.tk t ht)⟩
theorem KsP.new {p : Nat} {st0 st : St} (h : KsP p st0 st) (o : Ob) : KsP p st0 (st.new o) :=
  ⟨fun i hi hp => by rw [new_ne _ _ (by have := h.n; omega)]; exact h.ob i hi hp, by have := h.n; simp; omega, h.nt, h.tk⟩
theorem KsP.put {p : Nat} {st0 st : St} (h : KsP p st0 st) {i : Nat} (hi : st0.n ≤ i) (o : Ob) : KsP p st0 (st.put i o) :=
  ⟨fun j hj hp => by rw [put_ne _ _ (by omega)]; exact h.ob j hj hp, h.n, h.nt, h.tk⟩
theorem KsP.putP {p : Nat} {st0 st : St} (h : KsP p st0 st) (o : Ob) : KsP p st0 (st.put p o) :=
  ⟨fun j hj hp => by rw [put_ne _ _ hp]; exact h.ob j hj hp, h.n, h.nt, h.tk⟩
/-- A parser's function answers as it should. -/
def Par {α : Type} (p : Nat) (e : Int) (emb : α → V) (st : St) (r : PR α) (x : Res) : Prop := match r with
  | .ok a l => ∃ st' t, x = some (.ret (emb a), st') ∧ KsP p st st' ∧ st'.ob p = some (pc l t e)
  | .bad l => ∃ st' t, x = some (.panic (.iface 88 (.agg [.int .i64 (nowS l e).at_])), st') ∧ KsP p st st' ∧ st'.ob p = some (pc l t e)
theorem ret_panic (v : V) (st : St) (K : V → St → Res) : A.ret (some (.panic v, st)) K = some (.panic v, st) := rfl
theorem Par.lift {α : Type} {p : Nat} {e : Int} {emb : α → V} {st0 st : St} {r : PR α} {x : Res} (k : KsP p st0 st) (h : Par p e emb st r x) : Par p e emb st0 r x := by
  cases r with
  | ok a l => obtain ⟨st', t, h1, h2, h3⟩ := h; exact ⟨st', t, h1, k.trans h2, h3⟩
  | bad l => obtain ⟨st', t, h1, h2, h3⟩ := h; exact ⟨st', t, h1, k.trans h2, h3⟩
theorem Par.bind {α β : Type} {p : Nat} {e : Int} {emb : α → V} {emb2 : β → V} {st : St} {r : PR α} {x : Res} {f : α → List Sg → PR β} {K : V → St → Res} (h : Par p e emb st r x)
    (k : ∀ a l st1 t, r = .ok a l → KsP p st st1 → st1.ob p = some (pc l t e) → Par p e emb2 st1 (f a l) (K (emb a) st1)) : Par p e emb2 st (r.bind f) (A.ret x K) := by
  cases r with
  | ok a l => obtain ⟨st', t, rfl, h2, h3⟩ := h; rw [ret_ret]; exact (k a l st' t rfl h2 h3).lift h2
  | bad l => obtain ⟨st', t, rfl, h2, h3⟩ := h; rw [ret_panic]; exact ⟨st', t, rfl, h2, h3⟩
theorem Par.ret {α : Type} {p : Nat} {e : Int} {emb : α → V} {st st' : St} {a : α} {l : List Sg} {t : Nat} {v : V} (hv : v = emb a) (k : KsP p st st') (h : st'.ob p = some (pc l t e)) : Par p e emb st (.ok a l) (some (.ret v, st')) := by
  subst hv; exact ⟨st', t, rfl, k, h⟩
/-- A whole object is written. -/
theorem sv_all (n : Nat) {st : St} {i : Nat} {cs : List V} (vs : List V) (h : st.ob i = some (.cells cs)) (hn : vs.length = n) (hc : cs.length = n) (hv : vs.all V.one = true) (K : St → Res) : A.store n (.ptr i 0) (.agg vs) st K = K (st.put i (.cells vs)) := by
  rw [store_agg, h, obo_some, if_pos ⟨hn, by omega, hv⟩, putL_eq _ _ _ (by omega)]
  simp [show vs.length = cs.length by omega]
end Go.Ab

/- sinew/query: the parser's functions: terms, paths. -/
namespace Go.Ab
open Go.Proofs Go.RowKit
set_option linter.unusedVariables false
set_option linter.unusedSimpArgs false
set_option maxRecDepth 100000
theorem KsP.app {p : Nat} {st0 st : St} {sz u : Nat} (hk : KsP p st0 st) (h : Own st0 st sz u) : KsP p st0 (appSt st u sz) ∧ Own st0 (appSt st u sz) sz (st.nt + 3) := by
  have := hk.nt
  refine ⟨⟨fun i hi hp => by rw [appSt_ob]; exact hk.ob i hi hp, by rw [appSt_n]; exact hk.n, by rw [appSt_nt]; omega, fun j hj => ?_⟩, .inr (.inr ⟨st.nt, rfl, this, by rw [appSt_nt]; omega, appSt_new _ _ _⟩)⟩
  rw [appSt_tk _ _ _ _ (by omega) (by rcases h with h | h | ⟨k, h1, h2, _, _⟩ <;> omega)]
  exact hk.tk j hj
theorem pth_store {st : St} {i : Nat} {cs : List V} (p : Pth) (h : st.ob i = some (.cells cs)) (hc : cs.length = 3) (K : St → Res) : A.store 3 (.ptr i 0) p.v st K = K (st.put i (.cells (pthC p))) := by
  rw [pth_c]; exact sv_all 3 _ h rfl hc rfl K
theorem pth_load {st : St} {i : Nat} (p : Pth) (h : st.ob i = some (.cells (pthC p))) (K : V → St → Res) : A.load true 3 (.ptr i 0) st K = K p.v st := by
  rw [load_obA, h, obo_some, pth_c]; rfl
def PF (p : Nat) (e : Int) (n : Nat) (part : List Sg → PR Pth) (run : St → Res) : Prop := ∀ l st t, l.length ≤ n → st.ob p = some (pc l t e) → p < st.n → Par p e Pth.v st (part l) (run st)
/-! .. and what is read with marks behind -/
/-- A path's cells, with some right to append. -/
def pthCt (q : Pth) (t : Nat) : List V := [.int .i64 q.kind, .str q.word, .lst (q.kids.map Pth.v) t]
end Go.Ab

/- sinew/query: the parser's functions: queries, changes. -/
namespace Go.Ab
open Go.Proofs Go.RowKit
set_option linter.unusedVariables false
set_option linter.unusedSimpArgs false
set_option maxRecDepth 100000
/-! what is left is an end of what there was -/
def PR.suf {α : Type} (r : PR α) (l0 : List Sg) : Prop := match r with | .ok _ l => l <:+ l0 | .bad l => l <:+ l0
theorem PR.suf.bind {α β : Type} {r : PR α} {l0 : List Sg} (h : r.suf l0) {f : α → List Sg → PR β} (k : ∀ a l, (f a l).suf l) : (r.bind f).suf l0 := by
  cases r with
  | ok a l =>
    have h1 : l <:+ l0 := h
    have h2 := k a l
    show (f a l).suf l0
    cases hf : f a l with
    | ok b l2 => rw [hf] at h2; exact List.IsSuffix.trans h2 h1
    | bad l2 => rw [hf] at h2; exact List.IsSuffix.trans h2 h1
  | bad l => exact h
/-- A mark's text stands in marks alone. -/
def MkOK (l : List Sg) : Prop := ∀ x ∈ l, x.tx = [125] → x.k = 3
theorem MkOK.suf {l l' : List Sg} (h : MkOK l) (k : l' <:+ l) : MkOK l' := fun x hx => h x (k.subset hx)
theorem MkOK.ok {α : Type} {l l' : List Sg} {r : PR α} {a : α} (h : MkOK l) (k : r.suf l) (e : r = .ok a l') : MkOK l' := by subst e; exact h.suf k
/-! the walk -/
def qC (vs : List (List UInt8)) (u : Nat) (ats : List AtP) (u2 : Nat) : List V := [.lst (strsV vs) u, .lst (ats.map atpV) u2]
def qV (q : List (List UInt8) × List AtP) : V := .agg [.lst (strsV q.1) 0, .lst (q.2.map atpV) 0]
theorem ret_kid (x : Res) : A.ret x kid = x := by
  match x with
  | none => rfl
  | some (.ret v, st) => rfl
  | some (.panic v, st) => rfl
end Go.Ab

/- sinew/query: the parser's functions: changes, requests. -/
namespace Go.Ab
open Go.Proofs Go.RowKit
set_option linter.unusedVariables false
set_option linter.unusedSimpArgs false
set_option maxRecDepth 100000
def ParR {α : Type} (p : Nat) (e : Int) (rel : α → V → Prop) (st : St) (r : PR α) (x : Res) : Prop := match r with
  | .ok a l => ∃ st' t v, x = some (.ret v, st') ∧ rel a v ∧ KsP p st st' ∧ st'.ob p = some (pc l t e)
  | .bad l => ∃ st' t, x = some (.panic (.iface 88 (.agg [.int .i64 (nowS l e).at_])), st') ∧ KsP p st st' ∧ st'.ob p = some (pc l t e)
def relC (cs : List Chg) (v : V) : Prop := ∃ u, v = .lst (cs.map chV) u
theorem own_put {st0 st : St} {sz u i : Nat} {o : Ob} (h : Own st0 st sz u) : Own st0 (st.put i o) sz u := by
  rcases h with g | g | ⟨j, g1, g2, g3, g4⟩
  · exact .inl g
  · exact .inr (.inl g)
  · exact .inr (.inr ⟨j, g1, g2, by simpa using g3, by simpa using g4⟩)
theorem own_new {st0 st : St} {sz u : Nat} {o : Ob} (h : Own st0 st sz u) : Own st0 (st.new o) sz u := by
  rcases h with g | g | ⟨j, g1, g2, g3, g4⟩
  · exact .inl g
  · exact .inr (.inl g)
  · exact .inr (.inr ⟨j, g1, g2, by simpa using g3, by simpa using g4⟩)
/-! read -/
noncomputable def r25d (x0 a2 a3 a4 : V) (st : St) : Res :=
 A.nilc x0 fun b1 => A.faddr 0 b1 fun b2 => A.load false 1 b2 st fun b3 z3 => A.lenL b3 fun b4 => A.bin .gtr b4 (.int .i64 0) fun b5 =>
 A.cond b5
 (A.nilc x0 fun c1 => A.faddr 0 c1 fun c2 => A.load false 1 c2 z3 fun c3 z4 => A.iaddr 3 c3 (.int .i64 0) fun c4 => A.faddr 2 c4 fun c5 => A.load false 1 c5 z4 fun c6 z6 => A.build [(.int .i64 0)] [(0, 1, c6)] fun c7 => some (.panic (.iface 88 c7), z6))
 (A.load true 4 a2 z3 fun d1 z4 => A.store 4 a2 d1 z4 fun z5 => A.store 1 a3 (.int .i64 0) z5 fun z6 => A.store 1 a4 (.int .i64 0) z6 fun z7 => some (.ret (.tup []), z7))
noncomputable def r25c (x0 a2 a3 a4 c : V) (st : St) : Res :=
 A.cond c
 (A.ret (s51 [x0.er1] st) fun b1 z1 => A.build [(.int .i64 0), (.lst [] 1), (.lst [] 1), (.lst [] 1)] [(0, 1, .int .i64 1), (1, 2, b1)] fun b2 => A.store 4 a2 b2 z1 fun z2 => r25d x0 a2 a3 a4 z2)
 (A.ret (s52 [x0.er1] st) fun b1 z1 => A.build [(.int .i64 0), (.lst [] 1), (.lst [] 1), (.lst [] 1)] [(0, 1, .int .i64 2), (3, 1, b1)] fun b2 => A.store 4 a2 b2 z1 fun z2 => r25d x0 a2 a3 a4 z2)
noncomputable def r25b (x0 a2 a3 a4 : V) (st : St) : Res :=
 A.ret (s50 [x0.er1] st) fun b1 z1 =>
 A.box (.agg [(.int .i64 0), (.str []), (.int .i64 0)]) z1 fun b2 z2 =>
 A.store 3 b2 b1 z2 fun z3 =>
 A.faddr 0 b2 fun b3 =>
 A.load false 1 b3 z3 fun b4 z4 =>
 A.eql 2 false b4 (.int .i64 1) fun b5 =>
 A.guard b5 true
 (A.faddr 1 b2 fun b6 =>
 A.load false 1 b6 z4 fun b7 z7 =>
 A.eql 3 false b7 (.str [115, 101, 108, 101, 99, 116]) fun b8 =>
 r25c x0 a2 a3 a4 b8 z7)
 (r25c x0 a2 a3 a4 (.bool false) z4)
noncomputable def r49 (v0 v1 v2 : V) (a : Int) (st : St) : Res :=
 A.box (.agg [.int .i64 0]) st fun b1 z1 => A.store 1 b1 (.agg [.int .i64 a]) z1 fun z2 =>
 A.faddr 0 b1 fun b3 => A.load false 1 b3 z2 fun b4 _ =>
 A.ret (A.store 4 v0 (.agg [(.int .i64 0), (.lst [] 1), (.lst [] 1), (.lst [] 1)]) z2 fun s => kid (.tup []) s) fun b5 z5 =>
 A.chk (ldv false 1 b3 z5) b4
 (A.ret (A.store 1 v1 b4 z5 fun s => kid (.tup []) s) fun b6 z6 =>
 A.ret (A.store 1 v2 (.int .i64 90) z6 fun s => kid (.tup []) s) fun b7 z7 =>
 some (.ret (.tup []), z7))
noncomputable def rAll (a2 a3 a4 : V) (st : St) : Res := A.res (rcell (A.load true 4 a2 st kid) (rcell (A.load false 1 a3 st kid) (rcell (A.load false 1 a4 st kid) (some [])))) st
noncomputable def f25 (x0 : V) (st : St) : Res :=
 A.box (.agg [(.int .i64 0), (.lst [] 1), (.lst [] 1), (.lst [] 1)]) st fun a2 z2 =>
 A.box (.int .i64 0) z2 fun a3 z3 =>
 A.box (.int .i64 0) z3 fun a4 z4 =>
 rd3 big (fun m => areg Try.prog (fun _ => false) g25T m) (fun t => bif Nat.beq t 0 then x0 else bif Nat.beq t 2 then a2 else bif Nat.beq t 3 then a3 else bif Nat.beq t 4 then a4 else .tup []) (r25b x0 a2 a3 a4 z4)
end Go.Ab

/- sinew/query: read. -/
namespace Go.Ab
open Go.Proofs Go.RowKit
set_option linter.unusedVariables false
set_option linter.unusedSimpArgs false
set_option maxRecDepth 100000
def rq0 : Rq := ⟨0, [], [], []⟩
def readR (r : PR Rq) (e : Int) : List V := match r with | .ok r _ => [rqV r, .int .i64 0, .int .i64 0] | .bad l => [rqV rq0, .int .i64 (nowS l e).at_, .int .i64 90]
/-- A request's cells, with some rights. -/
def rqCt (r : Rq) (u1 u2 u3 : Nat) : List V := [.int .i64 r.kind, .lst (strsV r.vars) u1, .lst (r.atoms.map atpV) u2, .lst (r.ch.map chV) u3]
structure RdAt (st : St) (i j k : Nat) (cs : List V) : Prop where
  oi : st.ob i = some (.cells cs)
  oj : st.ob j = some (.cells [.int .i64 0])
  ok : st.ob k = some (.cells [.int .i64 0])
  len : cs.length = 4
/-- What a body answers. -/
def Body (p : Nat) (st0 : St) (e : Int) (i j k : Nat) (r : PR Rq) (x : Res) : Prop := match r with
  | .ok r _ => ∃ st' u1 u2 u3, x = some (.ret (.tup []), st') ∧ KsP p st0 st' ∧ RdAt st' i j k (rqCt r u1 u2 u3)
  | .bad l => ∃ st' cs, x = some (.panic (.iface 88 (.agg [.int .i64 (nowS l e).at_])), st') ∧ KsP p st0 st' ∧ RdAt st' i j k cs ∧ k < st'.n
end Go.Ab

/- sinew/token: signs, in plain words. -/
namespace Go.Ab
open Go.RowKit
set_option linter.unusedVariables false
set_option linter.unusedSimpArgs false
set_option maxRecDepth 100000
def partI (n : Int) : Bool := (decide ((48 : Int) ≤ n) && decide (n ≤ 57)) || ((decide ((97 : Int) ≤ n) && decide (n ≤ 122)) || (n == 45 || n == 58))
def partB (b : UInt8) : Bool := partI b.toNat
def blI (n : Int) : Bool := n == 32 || (n == 9 || n == 10)
def blB (b : UInt8) : Bool := blI b.toNat
def marksL : List UInt8 := [123, 125, 40, 41, 46, 47, 124, 42, 43, 63]
def runL (s : List UInt8) : List UInt8 := s.takeWhile partB
inductive LR where
  | ok (l : List Sg)
  | bad (k : Nat)
def LR.cons (x : Sg) (r : LR) : LR := match r with | .ok l => .ok (x :: l) | .bad k => .bad k
/-- The signs of what a text goes on with, from a place on. -/
def lex : Nat → Nat → List UInt8 → LR
  | 0, i, _ => .bad i
  | _ + 1, _, [] => .ok []
  | n + 1, i, b :: s =>
    if blB b = true then lex n (i + 1) s
    else if partB b = true then (if 16 < (runL (b :: s)).length then .bad i else (lex n (i + (runL (b :: s)).length) ((b :: s).drop (runL (b :: s)).length)).cons ⟨1, runL (b :: s), i⟩)
    else if b = 63 ∧ runL s ≠ [] then (if 16 < (runL s).length then .bad i else (lex n (i + (runL s).length + 1) (s.drop (runL s).length)).cons ⟨2, runL s, i⟩)
    else if marksL.contains b = true then (lex n (i + 1) s).cons ⟨3, [b], i⟩ else .bad i
def lexA (s : List UInt8) : LR := lex (s.length + 1) 0 s
theorem all256 {P : UInt8 → Prop} [DecidablePred P] (h : ((List.range 256).all fun n => decide (P n.toUInt8)) = true) (b : UInt8) : P b := by
  have := List.all_eq_true.1 h b.toNat (List.mem_range.2 (UInt8.toNat_lt b))
  simpa using this
theorem runL_cons {b : UInt8} {s : List UInt8} (h : partB b = true) : runL (b :: s) = b :: runL s := by unfold runL; rw [List.takeWhile_cons, if_pos h]
theorem runL_no {b : UInt8} {s : List UInt8} (h : partB b = false) : runL (b :: s) = [] := by unfold runL; rw [List.takeWhile_cons, if_neg (by simp [h])]
end Go.Ab

/- sinew/token: the walk of Signs. -/
namespace Go.Ab
open Go.Proofs Go.RowKit
set_option linter.unusedVariables false
set_option linter.unusedSimpArgs false
set_option maxRecDepth 100000
/-- The answer of Signs, from a place on. -/
def sgR (acc : List Sg) (u : Nat) (r : LR) : V := match r with
  | .ok l => .tup [.lst ((acc ++ l).map sgV) u, .int .i64 0, .int .i64 0]
  | .bad k => .tup [.lst [] 1, .int .i64 (k : Nat), .int .i64 80]
theorem eqB (b : UInt8) (k : Nat) (hk : k < 256) : ((b.toNat : Int) == (k : Int)) = (b == k.toUInt8) := by
  by_cases h : b = k.toUInt8
  · subst h
    rw [beq_self_eq_true, beq_iff_eq]
    congr 1
    simp [Nat.toUInt8, UInt8.toNat_ofNat]; omega
  · rw [beq_eq_false_iff_ne.2 h, beq_eq_false_iff_ne]
    intro g
    apply h
    have : b.toNat = k := by omega
    rw [← this]; exact UInt8.ofNat_toNat.symm
def sgF (r : LR) : V := match r with
  | .ok l => .tup [.lst (l.map sgV) 0, .int .i64 0, .int .i64 0]
  | .bad k => .tup [.lst [] 0, .int .i64 (k : Nat), .int .i64 80]
def signsV (s : List UInt8) : V := if 4096 < s.length then .tup [.lst [] 0, .int .i64 0, .int .i64 1] else sgF (lexA s)
end Go.Ab

/- sinew/query: why a request may not be, and Parse, in plain words. -/
namespace Go.Ab
open Go.RowKit
set_option linter.unusedVariables false
set_option linter.unusedSimpArgs false
/-- How many words a path has, and how deep it is. -/
def Pth.sz : Pth → Nat × Nat
  | .mk k _ l => ((if k = 1 then 1 else 0) + (szl l).1, (szl l).2 + 1)
where szl : List Pth → Nat × Nat
  | [] => (0, 0)
  | p :: l => (p.sz.1 + (szl l).1, max p.sz.2 (szl l).2)
abbrev Pth.szl := Pth.sz.szl
theorem sz_eq (k : Int) (w : List UInt8) (l : List Pth) : (Pth.mk k w l).sz = ((if k = 1 then 1 else 0) + (Pth.szl l).1, (Pth.szl l).2 + 1) := rfl
theorem szl_cons (p : Pth) (l : List Pth) : Pth.szl (p :: l) = (p.sz.1 + (Pth.szl l).1, max p.sz.2 (Pth.szl l).2) := rfl
theorem szl_nil : Pth.szl [] = (0, 0) := rfl
def addV (out : List (List UInt8)) (t : Tm) : List (List UInt8) := if (t.v && !(out.contains t.n)) = true then out ++ [t.n] else out
def addP (out : List (List UInt8)) (a : AtP) : List (List UInt8) := addV (addV out a.s) a.o
def namesP (l : List AtP) : List (List UInt8) := l.foldl addP []
def dupF : List (List UInt8) → List (List UInt8) → Bool
  | _, [] => false
  | pre, v :: l => pre.contains v || dupF (pre ++ [v]) l
def deepA (l : List AtP) : Bool := l.any fun a => decide (24 < a.p.sz.1) || decide (12 < a.p.sz.2)
/-- Why a request of the grammar may not be. -/
def whyP (r : Rq) : Int :=
  if deepA r.atoms = true then 100
  else if 6 < r.vars.length ∨ 6 < r.atoms.length ∨ 6 < (namesP r.atoms).length ∨ 64 < r.ch.length then 2
  else if dupF [] r.vars = true then 1
  else if (r.vars.any fun v => !(namesP r.atoms).contains v) = true then 91 else 0
def rqZ : Rq := ⟨0, [], [], []⟩
/-- Parse: the request, the place, the number of what is wrong. -/
def parseP (s : List UInt8) : Rq × Int × Int :=
  if 4096 < s.length then (rqZ, 0, 1) else match lexA s with
    | .bad k => (rqZ, (k : Nat), 80)
    | .ok l => match pReq (l.length + 1) l with
      | .bad l' => (rqZ, (nowS l' (s.length : Nat)).at_, 90)
      | .ok r _ => if whyP r = 0 then (r, 0, 0) else (rqZ, 0, whyP r)
def parseV (x : Rq × Int × Int) : V := .tup [rqV x.1, .int .i64 x.2.1, .int .i64 x.2.2]
/-! no more words, and no deeper, than what is read -/
def PR.fits (r : PR Pth) (n : Nat) : Prop := match r with | .ok p l => p.sz.1 + l.length ≤ n ∧ p.sz.2 + l.length ≤ n | .bad _ => True
def PR.fitsL (r : PR (List Pth)) (n : Nat) : Prop := match r with | .ok ps l => (Pth.szl ps).1 + l.length ≤ n ∧ (Pth.szl ps).2 + 1 + l.length ≤ n ∨ (∃ p, ps = [p] ∧ p.sz.1 + l.length ≤ n ∧ p.sz.2 + l.length ≤ n) | .bad _ => True
/-! how many nodes -/
def Pth.nd : Pth → Nat
  | .mk _ _ l => ndl l + 1
where ndl : List Pth → Nat
  | [] => 0
  | p :: l => p.nd + ndl l
abbrev Pth.ndl := Pth.nd.ndl
theorem nd_eq (k : Int) (w : List UInt8) (l : List Pth) : (Pth.mk k w l).nd = Pth.ndl l + 1 := rfl
theorem ndl_cons (p : Pth) (l : List Pth) : Pth.ndl (p :: l) = p.nd + Pth.ndl l := rfl
theorem ndl_nil : Pth.ndl [] = 0 := rfl
theorem nd_pos (p : Pth) : 1 ≤ p.nd := by cases p; rw [nd_eq]; omega
theorem ndl_len : ∀ l : List Pth, l.length ≤ Pth.ndl l
  | [] => Nat.le_refl _
  | p :: l => by have := ndl_len l; have := nd_pos p; rw [ndl_cons, List.length_cons]; omega
theorem ndl_mem {l : List Pth} {p : Pth} (h : p ∈ l) : p.nd ≤ Pth.ndl l := by
  induction l with
  | nil => cases h
  | cons a l ih =>
    rw [ndl_cons]
    rcases List.mem_cons.1 h with rfl | g
    · omega
    · have := ih g; omega
def PR.fitN (r : PR Pth) (n : Nat) : Prop := match r with | .ok p l => p.nd + 1 + 2 * l.length ≤ 2 * n | .bad _ => True
/-! how much is read -/
def smallR (r : Rq) (n : Nat) : Prop := r.vars.length ≤ n ∧ r.atoms.length ≤ n ∧ r.ch.length ≤ n ∧ ∀ a ∈ r.atoms, a.p.sz.1 ≤ n ∧ a.p.sz.2 ≤ n ∧ a.p.nd ≤ 2 * n
end Go.Ab

/- sinew/query: the walk of why and Parse. -/
namespace Go.Ab
open Go.Proofs Go.RowKit
set_option linter.unusedVariables false
set_option linter.unusedSimpArgs false
set_option maxRecDepth 100000
theorem max_nat (a b : Nat) (K : V → Res) : A.max (.int .i64 (a : Nat)) (.int .i64 (b : Nat)) K = K (.int .i64 ((max a b : Nat) : Int)) := by
  show K (.int .i64 (if (b : Int) > a then (b : Int) else a)) = _
  congr 2
  split <;> omega
theorem pth_er (p : Pth) : p.v.er1 = p.v := by rw [pth_c]; rfl
theorem iaddr_pth {l : List Pth} {i : Nat} (t : Nat) (h : i < l.length) (K : V → Res) : A.iaddr 3 (.lst (l.map Pth.v) t) (.int .i64 (i : Nat)) K = K (.lptr (pthC l[i])) := by
  have := iaddr_lst (l := l.map Pth.v) (t := t) (sz := 3) (n := i) (v := l[i].v) K (by simp [h]) (by rw [pth_c]; rfl)
  rw [pth_c l[i]] at this
  exact this
theorem load_pth (p : Pth) (st : St) (K : V → St → Res) : A.load true 3 (.lptr (pthC p)) st K = K p.v st := by rw [load_lptrA, pth_c]; rfl
theorem szl_drop {l : List Pth} {i : Nat} (h : i < l.length) : Pth.szl (l.drop i) = (l[i].sz.1 + (Pth.szl (l.drop (i + 1))).1, max l[i].sz.2 (Pth.szl (l.drop (i + 1))).2) := by
  rw [List.drop_eq_getElem_cons h, szl_cons]
theorem szl_mem {l : List Pth} {p : Pth} (h : p ∈ l) : p.sz.1 ≤ (Pth.szl l).1 ∧ p.sz.2 ≤ (Pth.szl l).2 := by
  induction l with
  | nil => cases h
  | cons a l ih =>
    rw [szl_cons]
    rcases List.mem_cons.1 h with rfl | g
    · simp only; omega
    · have := ih g; simp only; omega
theorem size_loop {R : Fn} {st0 : St} {l : List Pth} {t : Nat} (hR : ∀ p ∈ l, ∀ st, R [p.v] st = some (.ret (.tup [.int .i64 (p.sz.1 : Nat), .int .i64 (p.sz.2 : Nat)]), st)) (hlen : l.length ≤ 1000000000) :
    ∀ (n i w d : Nat) (st : St), i ≤ l.length → l.length < n + i → Ks st0 st → w + (Pth.szl (l.drop i)).1 ≤ 1000000000 → d ≤ 1000000000 → (Pth.szl (l.drop i)).2 ≤ 1000000000 →
      ∃ st', g53b11010 R n (.int .i64 (w : Nat)) (.int .i64 (d : Nat)) (.lst (l.map Pth.v) t) (.int .i64 (l.length : Nat)) (.int .i64 (i : Nat)) st = some (.ret (.tup [.int .i64 ((w + (Pth.szl (l.drop i)).1 : Nat) : Int), .int .i64 ((max d (Pth.szl (l.drop i)).2 + 1 : Nat) : Int)]), st') ∧ Ks st0 st' := by
  intro n
  induction n with
  | zero => intro i w d st hi hn; omega
  | succ n ih =>
    intro i w d st hi hn hk hw hd hs
    rw [g53b11010]
    simp only [bin_lss]
    by_cases hil : i < l.length
    · rw [szl_drop hil] at hw hs ⊢
      simp only at hw hs
      have bx : ∀ K : V → St → Res, A.box (.agg [(.int .i64 0), (.str []), (.lst [] 1)]) st K = K (.ptr st.n 0) (st.new (.cells [.int .i64 0, .str [], .lst [] 1])) := fun K => rfl
      simp only [show ((i : Int) < (l.length : Int)) from by omega, decide_true, cond_true, iaddr_pth t hil, load_pth, bx]
      rw [pth_store l[i] (new_at _ _) rfl, pth_load l[i] (put_at _ _ _), pth_er, hR l[i] (List.getElem_mem hil), ret_ret, ext_0, ext_1]
      unfold g53b110100110011
      rw [bin_addN w l[i].sz.1 _ (by omega), max_nat, bin_inc (by omega)]
      obtain ⟨st', q1, q2⟩ := ih (i + 1) (w + l[i].sz.1) (max d l[i].sz.2) _ (by omega) (by omega) ((hk.new _).put hk.n _) (by omega) (by omega) (by omega)
      refine ⟨st', ?_, q2⟩
      show _ = some (Out.ret (.tup [.int .i64 ((w + (l[i].sz.1 + (Pth.szl (l.drop (i + 1))).1) : Nat) : Int), .int .i64 ((max d (max l[i].sz.2 (Pth.szl (l.drop (i + 1))).2) + 1 : Nat) : Int)]), st')
      rw [q1, Nat.add_assoc, Nat.max_assoc]
    · have : i = l.length := by omega
      subst this
      simp only [Int.lt_irrefl, decide_false, cond_false, List.drop_length, szl_nil, er1_int]
      rw [bin_inc (by omega)]
      exact ⟨st, by simp, hk⟩
theorem size_n : ∀ (n : Nat) (p : Pth), p.sz.2 ≤ n → p.sz.1 ≤ 1000000 → p.sz.2 ≤ 1000000 → p.nd ≤ 1000000 → ∀ st : St, s53n n [p.v] st = some (.ret (.tup [.int .i64 (p.sz.1 : Nat), .int .i64 (p.sz.2 : Nat)]), st)
  | 0, p, h, _, _, _, st => by cases p; rw [sz_eq] at h; simp at h
  | n + 1, .mk k w l, h1, h2, h3, h4, st => by
    rw [s53n_eq]
    have hs := sz_eq k w l
    have hn := nd_eq k w l
    rw [hs] at h1 h2 h3
    rw [hn] at h4
    simp only at h1 h2 h3
    have hll := ndl_len l
    have hR : ∀ q ∈ l, ∀ st, s53n n [q.v] st = some (.ret (.tup [.int .i64 (q.sz.1 : Nat), .int .i64 (q.sz.2 : Nat)]), st) := fun q hq st => by
      have a := szl_mem hq
      have b := ndl_mem hq
      exact size_n n q (by omega) (by split at h2 <;> omega) (by omega) (by omega) st
    have main : ∃ st', f53 (s53n n) (Pth.mk k w l).v st = some (.ret (.tup [.int .i64 ((Pth.mk k w l).sz.1 : Nat), .int .i64 ((Pth.mk k w l).sz.2 : Nat)]), st') ∧ Ks st st' := by
      unfold f53
      have bx : ∀ K : V → St → Res, A.box (Pth.mk k w l).v st K = K (.ptr st.n 0) (st.new (.cells (pthC (.mk k w l)))) := fun K => by rw [pth_c]; rfl
      have o1 := new_at st (.cells (pthC (.mk k w l)))
      have k1 : Ks st (st.new (.cells (pthC (.mk k w l)))) := (Ks.refl st).new _
      rw [bx]
      generalize st.new (.cells (pthC (.mk k w l))) = s1 at o1 k1 ⊢
      have w0 : ∀ K : V → St → Res, A.load false 1 (.ptr st.n 0) s1 K = K (.int .i64 k) s1 := fun K => by rw [load_ob, o1]; rfl
      have w2 : ∀ K : V → St → Res, A.load false 1 (.ptr st.n 2) s1 K = K (.lst (l.map Pth.v) 0) s1 := fun K => by rw [load_ob, o1]; rfl
      simp only [faddr_ptr, Nat.zero_add, w0, eql_int, Bool.false_eq_true, if_false]
      by_cases hk : k = 1
      · rw [show (k == 1) = true from by rw [hk]; rfl, cond_true]
        unfold g53b11
        simp only [faddr_ptr, Nat.zero_add, w2, lenL_lst, List.length_map]
        rw [if_pos hk] at h2
        obtain ⟨st', q1, q2⟩ := size_loop (t := 0) hR (by omega) big 0 1 0 s1 (by omega) (lt_big (by omega)) k1 (by rw [List.drop_zero]; omega) (by omega) (by rw [List.drop_zero]; omega)
        refine ⟨st', ?_, q2⟩
        rw [List.drop_zero] at q1
        rw [hs, if_pos hk]
        show g53b11010 (s53n n) big (.int .i64 ((1 : Nat) : Int)) (.int .i64 ((0 : Nat) : Int)) _ _ (.int .i64 ((0 : Nat) : Int)) s1 = _
        rw [q1, Nat.zero_max]
      · rw [show (k == 1) = false from beq_eq_false_iff_ne.2 hk, cond_false]
        unfold g53b11
        simp only [faddr_ptr, Nat.zero_add, w2, lenL_lst, List.length_map]
        rw [if_neg hk] at h2
        obtain ⟨st', q1, q2⟩ := size_loop (t := 0) hR (by omega) big 0 0 0 s1 (by omega) (lt_big (by omega)) k1 (by rw [List.drop_zero]; omega) (by omega) (by rw [List.drop_zero]; omega)
        refine ⟨st', ?_, q2⟩
        rw [List.drop_zero] at q1
        rw [hs, if_neg hk]
        show g53b11010 (s53n n) big (.int .i64 ((0 : Nat) : Int)) (.int .i64 ((0 : Nat) : Int)) _ _ (.int .i64 ((0 : Nat) : Int)) s1 = _
        rw [q1, Nat.zero_max]
    obtain ⟨st', q1, q2⟩ := main
    exact fg_of q1 q2 rfl
theorem size_s (p : Pth) (h1 : p.sz.1 ≤ 1000000) (h2 : p.sz.2 ≤ 1000000) (h3 : p.nd ≤ 1000000) (st : St) : s53 [p.v] st = some (.ret (.tup [.int .i64 (p.sz.1 : Nat), .int .i64 (p.sz.2 : Nat)]), st) := by
  rw [s53_n]; exact size_n big p (Nat.le_of_lt (lt_big (by omega))) h1 h2 h3 st
def toA (a : AtP) : Atm := ⟨a.s.v, a.s.n, a.p.kind, a.p.word, a.p.kids.map Pth.v, 0, a.o.v, a.o.n⟩
theorem atsV_toA (l : List AtP) : atsV (l.map toA) = l.map atpV := by
  unfold atsV; rw [List.map_map]; rfl
theorem names_toA : ∀ (l : List AtP) (out : List (List UInt8)), (l.map toA).foldl addA out = l.foldl addP out
  | [], out => rfl
  | a :: l, out => by rw [List.map_cons, List.foldl_cons, List.foldl_cons]; exact names_toA l _
theorem namesL_toA (l : List AtP) : namesL (l.map toA) = namesP l := names_toA l []
/-- All that why asks for. -/
def okW (r : Rq) : Prop := r.vars.length ≤ 10000 ∧ r.atoms.length ≤ 10000 ∧ r.ch.length ≤ 1000000 ∧ ∀ a ∈ r.atoms, a.p.sz.1 ≤ 1000000 ∧ a.p.sz.2 ≤ 1000000 ∧ a.p.nd ≤ 1000000
theorem iaddr_atp {l : List AtP} {i : Nat} (t : Nat) (h : i < l.length) (K : V → Res) : A.iaddr 7 (.lst (l.map atpV) t) (.int .i64 (i : Nat)) K = K (.lptr (atpC l[i])) :=
  iaddr_lst (v := atpV l[i]) K (by simp [h]) rfl
theorem bound_loop (names : List (List UInt8)) (u : Nat) (vars : List (List UInt8)) (t : Nat) (hn : names.length ≤ 100000) (hv : vars.length ≤ 100000) (st : St) : ∀ (n i : Nat), i ≤ vars.length → vars.length < n + i →
    g26b111111010 n (.lst (strsV names) u) (.lst (strsV vars) t) (.int .i64 (vars.length : Nat)) (.int .i64 (i : Nat)) st = some (.ret (.int .i64 (if ((vars.drop i).any fun v => !names.contains v) = true then 91 else 0)), st) := by
  intro n
  induction n with
  | zero => intro i hi hn; omega
  | succ n ih =>
    intro i hi hn'
    rw [g26b111111010]
    simp only [bin_lss]
    by_cases hil : i < vars.length
    · have e4 : ∀ K, A.bin .add (.int .i64 (i : Nat)) (.int .i64 1) K = K (.int .i64 ((i + 1 : Nat) : Int)) := fun K => bin_inc (by omega) K
      simp only [show ((i : Int) < (vars.length : Int)) from by omega, decide_true, cond_true, iaddr_strs t hil, load_l1', er1_lst, er1_str, contains_s names u vars[i] st hn, ret_ret, un_not]
      rw [List.drop_eq_getElem_cons hil, List.any_cons]
      cases hc : names.contains vars[i] with
      | true =>
        rw [Bool.not_true, cond_false, e4, Bool.false_or]
        exact ih (i + 1) (by omega) (by omega)
      | false => rfl
    · have : i = vars.length := by omega
      subst this
      simp only [Int.lt_irrefl, decide_false, cond_false, List.drop_length, er1_int]
      rfl
theorem dup_loop (names : List (List UInt8)) (u : Nat) (vars : List (List UInt8)) (t : Nat) (hn : names.length ≤ 100000) (hv : vars.length ≤ 100000) (st : St) : ∀ (n i : Nat), i ≤ vars.length → vars.length < n + i →
    g26b11111010 n (.lst (strsV names) u) (.lst (strsV vars) t) (.lst (strsV vars) t) (.int .i64 (vars.length : Nat)) (.int .i64 (i : Nat)) st = some (.ret (.int .i64 (if dupF (vars.take i) (vars.drop i) = true then 1 else if (vars.any fun v => !names.contains v) = true then 91 else 0)), st) := by
  intro n
  induction n with
  | zero => intro i hi hn; omega
  | succ n ih =>
    intro i hi hn'
    rw [g26b11111010]
    simp only [bin_lss]
    by_cases hil : i < vars.length
    · have e4 : ∀ K, A.bin .add (.int .i64 (i : Nat)) (.int .i64 1) K = K (.int .i64 ((i + 1 : Nat) : Int)) := fun K => bin_inc (by omega) K
      simp only [show ((i : Int) < (vars.length : Int)) from by omega, decide_true, cond_true, iaddr_strs t hil, load_l1']
      rw [slice_strs vars t i _ (by omega)]
      simp only [er1_lst, er1_str, contains_s (vars.take i) _ vars[i] st (by simp; omega), ret_ret]
      rw [List.drop_eq_getElem_cons hil, dupF]
      cases hc : (vars.take i).contains vars[i] with
      | true => rfl
      | false =>
        rw [cond_false, e4, Bool.false_or, ih (i + 1) (by omega) (by omega), List.take_add_one, List.getElem?_eq_getElem hil]
        rfl
    · have : i = vars.length := by omega
      subst this
      simp only [Int.lt_irrefl, decide_false, cond_false, List.drop_length, dupF, Bool.false_eq_true, if_false]
      unfold g26b111111
      simp only [lenL_lst, strsV_len]
      have := bound_loop names u vars t hn hv st big 0 (by omega) (lt_big (by omega))
      rw [List.drop_zero] at this
      exact this
theorem why_tail {st : St} {i u : Nat} {r : Rq} (o : st.ob i = some (.cells (rqC r))) (h : okW r) (hnames : (namesP r.atoms).length ≤ 100000) :
    g26b111 (.ptr i 0) (.lst (strsV (namesP r.atoms)) u) st = some (.ret (.int .i64 (if 6 < r.vars.length ∨ 6 < r.atoms.length ∨ 6 < (namesP r.atoms).length ∨ 64 < r.ch.length then 2
  else if dupF [] r.vars = true then 1
  else if (r.vars.any fun v => !(namesP r.atoms).contains v) = true then 91 else 0)), st) := by
  obtain ⟨h1, h2, h3, h4⟩ := h
  unfold g26b111
  have w1 : ∀ K : V → St → Res, A.load false 1 (.ptr i 1) st K = K (.lst (strsV r.vars) 0) st := fun K => by rw [load_ob, o]; rfl
  have w2 : ∀ K : V → St → Res, A.load false 1 (.ptr i 2) st K = K (.lst (r.atoms.map atpV) 0) st := fun K => by rw [load_ob, o]; rfl
  have w3 : ∀ K : V → St → Res, A.load false 1 (.ptr i 3) st K = K (.lst (r.ch.map chV) 0) st := fun K => by rw [load_ob, o]; rfl
  have fin : (6 < r.vars.length ∨ 6 < r.atoms.length ∨ 6 < (namesP r.atoms).length ∨ 64 < r.ch.length) → some (Out.ret ((.int .i64 2 : V).er1), st) = some (.ret (.int .i64 (if 6 < r.vars.length ∨ 6 < r.atoms.length ∨ 6 < (namesP r.atoms).length ∨ 64 < r.ch.length then 2
  else if dupF [] r.vars = true then 1
  else if (r.vars.any fun v => !(namesP r.atoms).contains v) = true then 91 else 0)), st) := fun hc => by rw [if_pos hc]; rfl
  simp only [faddr_ptr, Nat.zero_add, w1, lenL_lst, strsV_len, bin_gtr]
  by_cases c1 : 6 < r.vars.length
  · simp only [show ((6 : Int) < (r.vars.length : Int)) from by omega, decide_true, guard_tf]
    unfold g26b111100_11
    rw [guard_tf]
    exact fin (.inl c1)
  simp only [show ¬ ((6 : Int) < (r.vars.length : Int)) from by omega, decide_false, guard_ff, faddr_ptr, Nat.zero_add, w2, lenL_lst, List.length_map, bin_gtr]
  unfold g26b111100_11
  by_cases c2 : 6 < r.atoms.length
  · simp only [show ((6 : Int) < (r.atoms.length : Int)) from by omega, decide_true, guard_tf]
    exact fin (.inr (.inl c2))
  simp only [show ¬ ((6 : Int) < (r.atoms.length : Int)) from by omega, decide_false, guard_ff, lenL_lst, strsV_len, bin_gtr]
  by_cases c3 : 6 < (namesP r.atoms).length
  · simp only [show ((6 : Int) < ((namesP r.atoms).length : Int)) from by omega, decide_true, guard_tf]
    exact fin (.inr (.inr (.inl c3)))
  simp only [show ¬ ((6 : Int) < ((namesP r.atoms).length : Int)) from by omega, decide_false, guard_ff, faddr_ptr, Nat.zero_add, w3, lenL_lst, List.length_map, bin_gtr]
  by_cases c4 : 64 < r.ch.length
  · simp only [show ((64 : Int) < (r.ch.length : Int)) from by omega, decide_true, cond_true]
    exact fin (.inr (.inr (.inr c4)))
  simp only [show ¬ ((64 : Int) < (r.ch.length : Int)) from by omega, decide_false, cond_false]
  rw [if_neg (by omega)]
  unfold g26b11111
  simp only [lenL_lst, strsV_len]
  have := dup_loop (namesP r.atoms) u r.vars 0 hnames (by omega) st big 0 (by omega) (lt_big (by omega))
  rw [List.drop_zero, List.take_zero] at this
  exact this
theorem bx_atp (st : St) (K : V → St → Res) : A.box (.agg [(.bool false), (.str []), (.int .i64 0), (.str []), (.lst [] 1), (.bool false), (.str [])]) st K = K (.ptr st.n 0) (st.new (.cells [(.bool false), (.str []), (.int .i64 0), (.str []), (.lst [] 1), (.bool false), (.str [])])) := rfl
theorem why_loop {st0 : St} {c u : Nat} {r : Rq} (hc : c < st0.n) (hoc : st0.ob c = some (.cells (rqC r))) (h : okW r) (hnames : (namesP r.atoms).length ≤ 100000) :
    ∀ (n i : Nat) (st : St), i ≤ r.atoms.length → r.atoms.length < n + i → Ks st0 st →
      ∃ st', g26b11010 n (.ptr c 0) (.lst (strsV (namesP r.atoms)) u) (.lst (r.atoms.map atpV) 0) (.int .i64 (r.atoms.length : Nat)) (.int .i64 (i : Nat)) st = some (.ret (.int .i64 (if deepA (r.atoms.drop i) = true then 100
  else if 6 < r.vars.length ∨ 6 < r.atoms.length ∨ 6 < (namesP r.atoms).length ∨ 64 < r.ch.length then 2
  else if dupF [] r.vars = true then 1
  else if (r.vars.any fun v => !(namesP r.atoms).contains v) = true then 91 else 0)), st') ∧ Ks st0 st' := by
  intro n
  induction n with
  | zero => intro i st hi hn; omega
  | succ n ih =>
    intro i st hi hn hk
    rw [g26b11010]
    simp only [bin_lss]
    by_cases hil : i < r.atoms.length
    · have e4 : ∀ K, A.bin .add (.int .i64 (i : Nat)) (.int .i64 1) K = K (.int .i64 ((i + 1 : Nat) : Int)) := fun K => bin_inc (by have := h.2.1; omega) K
      have ld : ∀ (s : St) K, A.load true 7 (.lptr (atpC r.atoms[i])) s K = K (.agg (atpC r.atoms[i])) s := fun s K => by rw [load_lptrA]; rfl
      simp only [show ((i : Int) < (r.atoms.length : Int)) from by omega, decide_true, cond_true, iaddr_atp 0 hil, ld, bx_atp]
      rw [sv_all 7 _ (new_at _ _) rfl rfl rfl]
      have k2 : Ks st0 ((st.new (.cells [(.bool false), (.str []), (.int .i64 0), (.str []), (.lst [] 1), (.bool false), (.str [])])).put st.n (.cells (atpC r.atoms[i]))) := (hk.new _).put hk.n _
      have o2 := put_at (st.new (.cells [(.bool false), (.str []), (.int .i64 0), (.str []), (.lst [] 1), (.bool false), (.str [])])) st.n (.cells (atpC r.atoms[i]))
      generalize (st.new (.cells [(.bool false), (.str []), (.int .i64 0), (.str []), (.lst [] 1), (.bool false), (.str [])])).put st.n (.cells (atpC r.atoms[i])) = s2 at k2 o2 ⊢
      have w1 : ∀ K : V → St → Res, A.load true 3 (.ptr st.n 2) s2 K = K (r.atoms[i].p).v s2 := fun K => by rw [load_obA, o2, pth_c]; rfl
      obtain ⟨b1, b2, b3⟩ := h.2.2.2 r.atoms[i] (List.getElem_mem hil)
      simp only [faddr_ptr, Nat.zero_add, w1, pth_er, size_s r.atoms[i].p b1 b2 b3, ret_ret, ext_0, ext_1]
      unfold g26b110100110011
      have hd : deepA (r.atoms.drop i) = ((decide (24 < r.atoms[i].p.sz.1) || decide (12 < r.atoms[i].p.sz.2)) || deepA (r.atoms.drop (i + 1))) := by
        rw [List.drop_eq_getElem_cons hil]; rfl
      rw [hd]
      simp only [bin_gtr]
      by_cases c1 : 24 < r.atoms[i].p.sz.1
      · simp only [show ((24 : Int) < (r.atoms[i].p.sz.1 : Int)) from by omega, decide_true, guard_tf, c1, Bool.true_or, if_true, er1_int]
        exact ⟨s2, rfl, k2⟩
      by_cases c2 : 12 < r.atoms[i].p.sz.2
      · simp only [show ¬ ((24 : Int) < (r.atoms[i].p.sz.1 : Int)) from by omega, show ((12 : Int) < (r.atoms[i].p.sz.2 : Int)) from by omega, decide_true, decide_false, guard_ff, cond_true, c2, c1, Bool.true_or, Bool.or_true, if_true, er1_int]
        exact ⟨s2, rfl, k2⟩
      simp only [show ¬ ((24 : Int) < (r.atoms[i].p.sz.1 : Int)) from by omega, show ¬ ((12 : Int) < (r.atoms[i].p.sz.2 : Int)) from by omega, decide_false, guard_ff, cond_false, c2, c1, Bool.false_or, e4]
      exact ih (i + 1) s2 (by omega) (by omega) k2
    · have : i = r.atoms.length := by omega
      subst this
      simp only [Int.lt_irrefl, decide_false, cond_false, List.drop_length]
      have o2 := (hk.ob c hc).trans hoc
      rw [why_tail o2 h hnames]
      exact ⟨st, rfl, hk⟩
theorem namesP_len (l : List AtP) : (namesP l).length ≤ 2 * l.length := by
  have := namesL_len (l.map toA) []
  rw [← namesL_toA]
  unfold namesL
  simp at this ⊢; omega
theorem why_s {r : Rq} (h : okW r) (st : St) : s26 [rqV r] st = some (.ret (.int .i64 (whyP r)), st) := by
  have main : ∃ st', f26 (rqV r) st = some (.ret (.int .i64 (whyP r)), st') ∧ Ks st st' := by
    unfold f26
    have bx : ∀ K : V → St → Res, A.box (rqV r) st K = K (.ptr st.n 0) (st.new (.cells (rqC r))) := fun K => rfl
    have o1 := new_at st (.cells (rqC r))
    have k1 : Ks st (st.new (.cells (rqC r))) := (Ks.refl st).new _
    have n1 : st.n < (st.new (.cells (rqC r))).n := by simp
    rw [bx]
    generalize st.new (.cells (rqC r)) = s1 at o1 k1 n1 ⊢
    have w1 : ∀ K : V → St → Res, A.load true 2 (.ptr st.n 1) s1 K = K (.agg (qyC r.vars 0 (r.atoms.map toA) 0)) s1 := fun K => by
      rw [load_obA, o1]
      show K (.agg [.lst (strsV r.vars) 0, .lst (r.atoms.map atpV) 0]) s1 = _
      rw [← atsV_toA]; rfl
    obtain ⟨s2, u, q1, k2⟩ := names_s r.vars (r.atoms.map toA) (by simp; exact h.2.1) s1
    have er : (V.agg (qyC r.vars 0 (r.atoms.map toA) 0)).er1 = .agg (qyC r.vars 0 (r.atoms.map toA) 0) := rfl
    have o2 := (k2.ob st.n n1).trans o1
    have w2 : ∀ K : V → St → Res, A.load false 1 (.ptr st.n 2) s2 K = K (.lst (r.atoms.map atpV) 0) s2 := fun K => by rw [load_ob, o2]; rfl
    simp only [faddr_ptr, Nat.zero_add, w1, er, q1, ret_ret, w2, lenL_lst, List.length_map]
    rw [namesL_toA]
    unfold g26b1101
    have hnl := namesP_len r.atoms
    have h2 := h.2.1
    obtain ⟨st', r1, r2⟩ := why_loop (u := u) (Nat.lt_of_lt_of_le n1 k2.n) o2 h (by omega) big 0 s2 (by omega) (lt_big (by omega)) (Ks.refl s2)
    rw [List.drop_zero] at r1
    exact ⟨st', r1, (k1.trans k2).trans r2⟩
  obtain ⟨st', q1, q2⟩ := main
  rw [s26_eq]
  exact fg_of q1 q2 rfl
end Go.Ab
