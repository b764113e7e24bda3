import Derived.Test.YtimidokohhiacaaAbP09p
import Derived.Test.YtimidokohhiacaaAbA09
/- sinew/query: the parser's functions: signs, terms, paths. -/
namespace Go.Ab
open Go.Proofs Go.RowKit
set_option linter.unusedVariables false
set_option linter.unusedSimpArgs false
set_option maxRecDepth 100000
def pc (l : List Sg) (t : Nat) (e : Int) : Ob := .cells [.lst (l.map sgV) t, .int .i64 e]
/-- All is kept but one object. -/
structure KsP (p : Nat) (st st' : St) : Prop where
  ob : ∀ i, i < st.n → i ≠ p → st'.ob i = st.ob i
  n : st.n ≤ st'.n
  nt : st.nt ≤ st'.nt
  tk : ∀ t, t < st.nt → st'.tk t = st.tk t
theorem KsP.refl (p : Nat) (st : St) : KsP p st st := ⟨fun _ _ _ => rfl, Nat.le_refl _, Nat.le_refl _, fun _ _ => rfl⟩
theorem KsP.trans {p : Nat} {a b c : St} (h : KsP p a b) (k : KsP p b c) : KsP p a c :=
  ⟨fun i hi hp => (k.ob i (Nat.lt_of_lt_of_le hi h.n) hp).trans (h.ob i hi hp), Nat.le_trans h.n k.n, Nat.le_trans h.nt k.nt, fun t ht => (k.tk t (Nat.lt_of_lt_of_le ht h.nt)).trans (h.tk t ht)⟩
theorem KsP.new {p : Nat} {st0 st : St} (h : KsP p st0 st) (o : Ob) : KsP p st0 (st.new o) :=
  ⟨fun i hi hp => by rw [new_ne _ _ (by have := h.n; omega)]; exact h.ob i hi hp, by have := h.n; simp; omega, h.nt, h.tk⟩
theorem KsP.put {p : Nat} {st0 st : St} (h : KsP p st0 st) {i : Nat} (hi : st0.n ≤ i) (o : Ob) : KsP p st0 (st.put i o) :=
  ⟨fun j hj hp => by rw [put_ne _ _ (by omega)]; exact h.ob j hj hp, h.n, h.nt, h.tk⟩
theorem KsP.putP {p : Nat} {st0 st : St} (h : KsP p st0 st) (o : Ob) : KsP p st0 (st.put p o) :=
  ⟨fun j hj hp => by rw [put_ne _ _ hp]; exact h.ob j hj hp, h.n, h.nt, h.tk⟩
/-- A parser's function answers as it should. -/
def Par {α : Type} (p : Nat) (e : Int) (emb : α → V) (st : St) (r : PR α) (x : Res) : Prop := match r with
  | .ok a l => ∃ st' t, x = some (.ret (emb a), st') ∧ KsP p st st' ∧ st'.ob p = some (pc l t e)
  | .bad l => ∃ st' t, x = some (.panic (.iface 88 (.agg [.int .i64 (nowS l e).at_])), st') ∧ KsP p st st' ∧ st'.ob p = some (pc l t e)
theorem ret_panic (v : V) (st : St) (K : V → St → Res) : A.ret (some (.panic v, st)) K = some (.panic v, st) := rfl
theorem Par.lift {α : Type} {p : Nat} {e : Int} {emb : α → V} {st0 st : St} {r : PR α} {x : Res} (k : KsP p st0 st) (h : Par p e emb st r x) : Par p e emb st0 r x := by
  cases r with
  | ok a l => obtain ⟨st', t, h1, h2, h3⟩ := h; exact ⟨st', t, h1, k.trans h2, h3⟩
  | bad l => obtain ⟨st', t, h1, h2, h3⟩ := h; exact ⟨st', t, h1, k.trans h2, h3⟩
theorem Par.bind {α β : Type} {p : Nat} {e : Int} {emb : α → V} {emb2 : β → V} {st : St} {r : PR α} {x : Res} {f : α → List Sg → PR β} {K : V → St → Res} (h : Par p e emb st r x)
    (k : ∀ a l st1 t, r = .ok a l → KsP p st st1 → st1.ob p = some (pc l t e) → Par p e emb2 st1 (f a l) (K (emb a) st1)) : Par p e emb2 st (r.bind f) (A.ret x K) := by
  cases r with
  | ok a l => obtain ⟨st', t, rfl, h2, h3⟩ := h; rw [ret_ret]; exact (k a l st' t rfl h2 h3).lift h2
  | bad l => obtain ⟨st', t, rfl, h2, h3⟩ := h; rw [ret_panic]; exact ⟨st', t, rfl, h2, h3⟩
theorem Par.ret {α : Type} {p : Nat} {e : Int} {emb : α → V} {st st' : St} {a : α} {l : List Sg} {t : Nat} {v : V} (hv : v = emb a) (k : KsP p st st') (h : st'.ob p = some (pc l t e)) : Par p e emb st (.ok a l) (some (.ret v, st')) := by
  subst hv; exact ⟨st', t, rfl, k, h⟩
/-- A whole object is written. -/
theorem sv_all (n : Nat) {st : St} {i : Nat} {cs : List V} (vs : List V) (h : st.ob i = some (.cells cs)) (hn : vs.length = n) (hc : cs.length = n) (hv : vs.all V.one = true) (K : St → Res) : A.store n (.ptr i 0) (.agg vs) st K = K (st.put i (.cells vs)) := by
  rw [store_agg, h, obo_some, if_pos ⟨hn, by omega, hv⟩, putL_eq _ _ _ (by omega)]
  simp [show vs.length = cs.length by omega]
end Go.Ab
