import Derived.Test.YtimidokohhiacaaAbA09b
/- sinew/query: the parser's functions: terms, paths. -/
namespace Go.Ab
open Go.Proofs Go.RowKit
set_option linter.unusedVariables false
set_option linter.unusedSimpArgs false
set_option maxRecDepth 100000
theorem KsP.app {p : Nat} {st0 st : St} {sz u : Nat} (hk : KsP p st0 st) (h : Own st0 st sz u) : KsP p st0 (appSt st u sz) ∧ Own st0 (appSt st u sz) sz (st.nt + 3) := by
  have := hk.nt
  refine ⟨⟨fun i hi hp => by rw [appSt_ob]; exact hk.ob i hi hp, by rw [appSt_n]; exact hk.n, by rw [appSt_nt]; omega, fun j hj => ?_⟩, .inr (.inr ⟨st.nt, rfl, this, by rw [appSt_nt]; omega, appSt_new _ _ _⟩)⟩
  rw [appSt_tk _ _ _ _ (by omega) (by rcases h with h | h | ⟨k, h1, h2, _, _⟩ <;> omega)]
  exact hk.tk j hj
theorem pth_store {st : St} {i : Nat} {cs : List V} (p : Pth) (h : st.ob i = some (.cells cs)) (hc : cs.length = 3) (K : St → Res) : A.store 3 (.ptr i 0) p.v st K = K (st.put i (.cells (pthC p))) := by
  rw [pth_c]; exact sv_all 3 _ h rfl hc rfl K
theorem pth_load {st : St} {i : Nat} (p : Pth) (h : st.ob i = some (.cells (pthC p))) (K : V → St → Res) : A.load true 3 (.ptr i 0) st K = K p.v st := by
  rw [load_obA, h, obo_some, pth_c]; rfl
def PF (p : Nat) (e : Int) (n : Nat) (part : List Sg → PR Pth) (run : St → Res) : Prop := ∀ l st t, l.length ≤ n → st.ob p = some (pc l t e) → p < st.n → Par p e Pth.v st (part l) (run st)
/-! .. and what is read with marks behind -/
/-- A path's cells, with some right to append. -/
def pthCt (q : Pth) (t : Nat) : List V := [.int .i64 q.kind, .str q.word, .lst (q.kids.map Pth.v) t]
end Go.Ab
