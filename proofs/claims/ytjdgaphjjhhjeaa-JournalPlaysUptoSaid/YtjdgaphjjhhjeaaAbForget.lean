import Derived.Test.YtjdgaphjjhhjeaaAbConst
/- A function that only makes new things, and answers without them, leaves all as it was. -/
namespace Go.Ab
open Go.RowKit
set_option linter.unusedVariables false
set_option linter.unusedSimpArgs false

/-- What was there is kept. -/
structure Ks (st st' : St) : Prop where
  ob : ∀ i, i < st.n → st'.ob i = st.ob i
  n : st.n ≤ st'.n
  nt : st.nt ≤ st'.nt
  tk : ∀ t, t < st.nt → st'.tk t = st.tk t
theorem Ks.refl (st : St) : Ks st st := ⟨fun _ _ => rfl, Nat.le_refl _, Nat.le_refl _, fun _ _ => rfl⟩
theorem Ks.trans {a b c : St} (h : Ks a b) (k : Ks b c) : Ks a c :=
  ⟨fun i hi => (k.ob i (Nat.lt_of_lt_of_le hi h.n)).trans (h.ob i hi), Nat.le_trans h.n k.n, Nat.le_trans h.nt k.nt, fun t ht => (k.tk t (Nat.lt_of_lt_of_le ht h.nt)).trans (h.tk t ht)⟩

/-- Values without memory, but for lists'. -/
def V.pu : V → Bool
  | .int _ _ | .bool _ | .str _ | .ptr0 | .map0 | .fn0 | .if0 => true
  | .lst l t => Nat.ble t 2 && V.puL l
  | .agg l => V.puL l
  | .tup l => V.puL l
  | .iface _ v => V.pu v
  | _ => false
where V.puL : List V → Bool
  | [] => true
  | v :: l => V.pu v && V.puL l
abbrev V.puL := V.pu.V.puL
theorem puL_all : ∀ (l : List V), V.puL l = l.all V.pu
  | [] => rfl
  | v :: l => by show (V.pu v && V.puL l) = _; rw [puL_all l]; rfl
theorem puL_mem {l : List V} (h : V.puL l = true) : ∀ v ∈ l, V.pu v = true := by rw [puL_all] at h; exact List.all_eq_true.1 h
theorem puL_of {l : List V} (h : ∀ v ∈ l, V.pu v = true) : V.puL l = true := by rw [puL_all]; exact List.all_eq_true.2 h
theorem puL_flat {l : List V} (h : V.puL l = true) : V.puL (flat l) = true := by
  refine puL_of fun v hv => ?_
  obtain ⟨y, hy, hvy⟩ := List.mem_flatMap.1 hv
  have := puL_mem h y hy
  cases y <;> simp only [V.cells, List.mem_singleton] at hvy <;> first
    | (subst hvy; exact this)
    | (exact puL_mem (by simpa [V.pu] using this) v hvy)

/-- Such values stand in any state over the same memory. -/
theorem Rs.pure {e e' : E} (hw : e'.w = e.w) (hf : e'.fr = e.fr) {vs : List V} {ws : List Value} (h : Rs e vs ws) : V.puL vs = true → Rs e' vs ws := by
  induction h with
  | nil => intro _; exact .nil
  | int k n _ ih => intro p; simp only [V.pu.V.puL, Bool.and_eq_true] at p; exact .int k n (ih p.2)
  | bool b _ ih => intro p; simp only [V.pu.V.puL, Bool.and_eq_true] at p; exact .bool b (ih p.2)
  | str s _ ih => intro p; simp only [V.pu.V.puL, Bool.and_eq_true] at p; exact .str s (ih p.2)
  | ptr0 _ ih => intro p; simp only [V.pu.V.puL, Bool.and_eq_true] at p; exact .ptr0 (ih p.2)
  | ptr id off a hn hl _ ih => intro p; simp [V.pu.V.puL, V.pu] at p
  | lptr cs b o c ty fz hb hf ho _ _ ih1 ih2 => intro p; simp [V.pu.V.puL, V.pu] at p
  | lst0 t hb _ ih => intro p; simp [V.pu.V.puL, V.pu] at p; exact .lst0 t (by omega) (ih p.2)
  | lste t a ht _ ih => intro p; simp [V.pu.V.puL, V.pu] at p; exact .lste t a ⟨ht.1, by omega⟩ (ih p.2)
  | lst l t len cap b o sz c ty fz hlen hcap hb hsz ho hf' _ hx ht _ ih1 ih2 =>
    intro p
    simp [V.pu.V.puL, V.pu] at p
    exact .lst l t len cap b o sz c ty fz hlen hcap (by rw [hw]; exact hb) hsz ho (by rw [hf]; exact hf') (ih1 (puL_flat p.1.2)) hx (by omega) (ih2 p.2)
  | sl id off len sz cap a hn hcap hl _ ih => intro p; simp [V.pu.V.puL, V.pu] at p
  | map0 _ ih => intro p; simp only [V.pu.V.puL, Bool.and_eq_true] at p; exact .map0 (ih p.2)
  | map id r hn hl _ ih => intro p; simp [V.pu.V.puL, V.pu] at p
  | fn f a b F C _ _ _ i1 i2 i3 => intro p; simp [V.pu.V.puL, V.pu] at p
  | fn0 _ ih => intro p; simp only [V.pu.V.puL, Bool.and_eq_true] at p; exact .fn0 (ih p.2)
  | iface t v v' _ _ i1 i2 => intro p; simp [V.pu.V.puL, V.pu] at p; exact .iface t v v' (i1 (by simp [V.pu.V.puL, p.1])) (i2 p.2)
  | if0 _ ih => intro p; simp only [V.pu.V.puL, Bool.and_eq_true] at p; exact .if0 (ih p.2)
  | bld k a _ ih => intro p; simp [V.pu.V.puL, V.pu] at p
  | buf0 t hb _ ih => intro p; simp [V.pu.V.puL, V.pu] at p
  | buf s t cap b o c fz h0 hcap hb hf hc h1 ht _ ih => intro p; simp [V.pu.V.puL, V.pu] at p
  | bptr0 t a _ ih => intro p; simp [V.pu.V.puL, V.pu] at p
  | bptr s t b o c fz h0 hb hf hc ht _ ih => intro p; simp [V.pu.V.puL, V.pu] at p
  | agg cs A ho _ _ i1 i2 => intro p; simp [V.pu.V.puL, V.pu] at p; exact .agg cs A ho (i1 p.1) (i2 p.2)
  | tup cs A _ _ i1 i2 => intro p; simp [V.pu.V.puL, V.pu] at p; exact .tup cs A (i1 p.1) (i2 p.2)

/-- The later memory, told by the earlier state. -/
def E.back (e : E) (st : St) : E := { e with st := st }
theorem Rs.back {e0 e : E} {st : St} (h0 : e0.st = st) (hk : Ks st e.st) (hσ : ∀ id, id < st.n → e.σ id = e0.σ id) : ∀ {vs : List V} {ws : List Value}, Rs e vs ws → ∀ {ws0 : List Value}, Rs e0 vs ws0 → Rs (e.back st) vs ws := by
  intro vs ws h
  induction h with
  | nil => intro _ _; exact .nil
  | int k n _ ih => intro _ q; cases q with | int _ _ q => exact .int k n (ih q)
  | bool b _ ih => intro _ q; cases q with | bool _ q => exact .bool b (ih q)
  | str s _ ih => intro _ q; cases q with | str _ q => exact .str s (ih q)
  | ptr0 _ ih => intro _ q; cases q with | ptr0 q => exact .ptr0 (ih q)
  | ptr id off a hn hl _ ih =>
    intro _ q
    cases q with | ptr _ _ a0 hn0 hl0 q =>
    rw [h0] at hn0
    exact .ptr id off a hn0 (fun o ho => hl o ((hk.ob id hn0).trans ho)) (ih q)
  | lptr cs b o c ty fz hb hf ho _ _ ih1 ih2 =>
    intro _ q
    cases q with | lptr _ _ _ _ _ _ _ _ _ q1 q2 => exact .lptr cs b o c ty fz hb hf ho (ih1 q1) (ih2 q2)
  | lst0 t hb _ ih =>
    intro _ q
    cases q with
    | lst0 _ hb0 q => rw [h0] at hb0; exact .lst0 t hb0 (ih q)
    | lste _ _ ht0 q => have := ht0.2; rw [h0] at this; exact .lst0 t this (ih q)
    | lst _ _ _ _ _ _ _ _ _ _ _ _ _ _ _ _ _ _ ht0 q => rw [h0] at ht0; exact .lst0 t (fun h => (ht0 h).1) (ih q)
  | lste t a ht _ ih =>
    intro _ q
    cases q with
    | lst0 _ hb0 q => rw [h0] at hb0; exact .lste t a ⟨ht.1, hb0⟩ (ih q)
    | lste _ _ ht0 q => have := ht0.2; rw [h0] at this; exact .lste t a ⟨ht.1, this⟩ (ih q)
    | lst _ _ _ _ _ _ _ _ _ _ _ _ _ _ _ _ _ _ ht0 q => rw [h0] at ht0; exact .lste t a ⟨ht.1, fun h => (ht0 h).1⟩ (ih q)
  | lst l t len cap b o sz c ty fz hlen hcap hb hsz ho hf _ hx ht _ ih1 ih2 =>
    intro ws0 q
    rename_i vs2 ws2 hc2 a2
    have tok : (3 ≤ t → t - 3 < st.nt) ∧ (∃ u, Rs e0 (flat l) u) ∧ ∃ u, Rs e0 vs2 u := by
      cases q with
      | lst0 _ hb0 q => rw [h0] at hb0; exact ⟨hb0, ⟨[], .nil⟩, _, q⟩
      | lste _ _ ht0 q => have := ht0.2; rw [h0] at this; exact ⟨this, ⟨[], .nil⟩, _, q⟩
      | lst _ _ _ _ _ _ _ _ _ _ _ _ _ _ _ _ q1 _ ht0 q => rw [h0] at ht0; exact ⟨fun h => (ht0 h).1, ⟨_, q1⟩, _, q⟩
    obtain ⟨t1, ⟨u1, t2⟩, u2, t3⟩ := tok
    refine .lst l t len cap b o sz c ty fz hlen hcap hb hsz ho hf (ih1 t2) hx (fun h => ?_) (ih2 t3)
    refine ⟨t1 h, fun s hs hc => ?_⟩
    exact (ht h).2 s ((hk.tk _ (t1 h)).trans hs) hc
  | sl id off len sz cap a hn hcap hl _ ih =>
    intro _ q
    cases q with | sl _ _ _ _ _ _ hn0 _ _ q =>
    rw [h0] at hn0
    exact .sl id off len sz cap a hn0 hcap (fun o ho => hl o ((hk.ob id hn0).trans ho)) (ih q)
  | map0 _ ih => intro _ q; cases q with | map0 q => exact .map0 (ih q)
  | map id r hn hl _ ih =>
    intro _ q
    cases q with | map _ _ hn0 _ q =>
    rw [h0] at hn0
    exact .map id r hn0 (fun o ho => hl o ((hk.ob id hn0).trans ho)) (ih q)
  | fn f a b F C _ _ _ i1 i2 i3 => intro _ q; cases q with | fn _ _ _ _ _ q1 q2 q3 => exact .fn f a b F C (i1 q1) (i2 q2) (i3 q3)
  | fn0 _ ih => intro _ q; cases q with | fn0 q => exact .fn0 (ih q)
  | iface t v v' _ _ i1 i2 => intro _ q; cases q with | iface _ _ _ q1 q2 => exact .iface t v v' (i1 q1) (i2 q2)
  | if0 _ ih => intro _ q; cases q with | if0 q => exact .if0 (ih q)
  | bld k a _ ih => intro _ q; cases q with | bld _ _ q => exact .bld k a (ih q)
  | buf0 t hb _ ih =>
    intro _ q
    cases q with
    | buf0 _ hb0 q => rw [h0] at hb0; exact .buf0 t hb0 (ih q)
    | buf _ _ _ _ _ _ _ g0 _ _ _ _ _ _ q => exact absurd rfl g0
  | buf s t cap b o c fz h1 hcap hb hf hc h2 ht _ ih =>
    intro _ q
    cases q with
    | buf0 _ hb0 q => exact absurd rfl h1
    | buf _ _ _ _ _ _ _ g0 _ _ _ _ _ ht0 q =>
      rw [h0] at ht0
      refine .buf s t cap b o c fz h1 hcap hb hf hc h2 (fun g => ⟨(ht0 g).1, fun s' hs' => (ht g).2 s' ((hk.tk _ (ht0 g).1).trans hs')⟩) (ih q)
  | bptr0 t a _ ih =>
    intro _ q
    cases q with
    | bptr0 _ _ q => exact .bptr0 t a (ih q)
    | bptr _ _ _ _ _ _ g0 _ _ _ _ q => exact absurd rfl g0.1
  | bptr s t b o c fz h1 hb hf hc ht _ ih =>
    intro _ q
    cases q with
    | bptr0 _ _ q => exact absurd rfl h1.1
    | bptr _ _ _ _ _ _ g0 _ _ _ ht0 q =>
      rw [h0] at ht0
      exact .bptr s t b o c fz h1 hb hf hc (fun g => ⟨(ht0 g).1, fun s' hs' => (ht g).2 s' ((hk.tk _ (ht0 g).1).trans hs')⟩) (ih q)
  | agg cs A ho _ _ i1 i2 => intro _ q; cases q with | agg _ _ _ q1 q2 => exact .agg cs A ho (i1 q1) (i2 q2)
  | tup cs A _ _ i1 i2 => intro _ q; cases q with | tup _ _ q1 q2 => exact .tup cs A (i1 q1) (i2 q2)

theorem Rel.back {W0 : World} {B : Nat} {e0 e : E} (hr0 : Rel W0 B e0) (X : Ext e0 e) (hr : Rel W0 B e) (hk : Ks e0.st e.st) : Ext e0 (e.back e0.st) ∧ Rel W0 B (e.back e0.st) := by
  have obe : ∀ id o, e0.st.ob id = some o → e.st.ob id = some o := fun id o ho => (hk.ob id (hr0.live id o ho).1).trans ho
  have tke : ∀ t s, e0.st.tk t = some s → e.st.tk t = some s := fun t s ht => (hk.tk t (hr0.tkn t s ht)).trans ht
  have rb : ∀ {vs ws ws0}, Rs e vs ws → Rs e0 vs ws0 → Rs (e.back e0.st) vs ws := fun h q => Rs.back rfl hk (fun id hi => X.σ id hi) h q
  refine ⟨⟨Nat.le_refl _, Nat.le_refl _, X.σ, fun _ _ o h => ⟨o, h⟩, X.τ, fun _ _ _ h => h, X.fr, X.heap⟩, hr.below, hr.hB, ?_, ?_, ?_, ?_, hr0.tkn, ?_, ?_, ?_, hr.frs, hr.frn⟩
  · intro id cs ho
    obtain ⟨a, b, c, ty, fz, d, f, g, k, kb⟩ := hr.cells id cs (obe _ _ ho)
    obtain ⟨_, _, _, _, _, _, _, _, k0, _⟩ := hr0.cells id cs ho
    exact ⟨a, b, c, ty, fz, d, f, g, rb k k0, kb⟩
  · intro id es ho
    obtain ⟨a, ents, clock, b, c, d⟩ := hr.maps id es (obe _ _ ho)
    obtain ⟨_, _, _, _, c0, d0⟩ := hr0.maps id es ho
    exact ⟨a, ents, clock, b, rb c c0, rb d.1 d0.1, d.2⟩
  · intro id o ho
    exact ⟨(hr0.live id o ho).1, (hr.live id o (obe _ _ ho)).2⟩
  · intro i j o o' h1 h2 hs
    exact hr.inj i j o o' (obe _ _ h1) (obe _ _ h2) hs
  · intro t s b k ht hτ
    exact hr.toks t s b k (tke _ _ ht) hτ
  · intro t t' s s' b k k' h1 h2 h3 h4
    exact hr.tinj t t' s s' b k k' (tke _ _ h1) (tke _ _ h2) h3 h4
  · intro t s b k id o ht hτ ho
    exact hr.tob t s b k id o (tke _ _ ht) hτ (obe _ _ ho)

/-- The rights to append are struck, within a tuple too. -/
def V.era : V → V
  | .lst l _ => .lst l 0
  | .agg cs => .agg (cs.map V.er0)
  | .tup cs => .tup (cs.map V.er)
  | v => v
theorem Rs.era {e : E} {v : V} {w : Value} (h : Rs e [v] [w]) : Rs e [v.era] [w] := by
  cases v with
  | agg cs => cases h with | agg cs A ho h1 _ => exact .agg _ A (ones_er0 ho) h1.er0s .nil
  | tup cs => cases h with | tup cs A h1 _ => exact .tup _ A h1.ers .nil
  | lst l t => exact h.er0
  | _ => exact h
open Classical in
/-- Forgotten: what was made. -/
noncomputable def fg (r : Res) (st : St) : Res := match r with
  | some (.ret v, st') => if Ks st st' ∧ v.era.pu = true then some (.ret v.era, st) else none
  | _ => none
theorem fg_of {r : Res} {st st' : St} {v : V} (h : r = some (.ret v, st')) (hk : Ks st st') (hv : v.era.pu = true) : fg r st = some (.ret v.era, st) := by
  subst h; unfold fg; exact if_pos ⟨hk, hv⟩
theorem Sim.fg {P : Program} {f : FuncId} {s : Fn} (h : Sim P f s) : Sim P f (fun args st => Go.Ab.fg (s args st) st) := by
  refine ⟨h.ok, fun W0 B e args cargs out st' hs hr ha => ?_⟩
  unfold Go.Ab.fg at hs
  split at hs
  case h_2 => cases hs
  rename_i v st1 h1
  split at hs
  case isFalse => cases hs
  rename_i hc
  cases hs
  refine (h.run W0 B e args cargs _ _ h1 hr ha).mono fun en w' hh => ?_
  obtain ⟨e', rfl, rfl, X, hr', v', rfl, hv⟩ := hh
  obtain ⟨X', R'⟩ := hr.back X hr' hc.1
  refine ⟨e'.back e.st, rfl, rfl, X', R', v', rfl, ?_⟩
  exact Rs.pure (e := e') (e' := e'.back e.st) rfl rfl hv.era (by simp [V.pu.V.puL, hc.2])
end Go.Ab
