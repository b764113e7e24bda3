import Derived.Orders
import Derived.Below
import Derived.MapKept
/- The abstract values, the abstract state, and how they stand to the world. -/
namespace Go.Ab
open Go.RowKit

/-- A value of the abstract machine. An immutable list is there by value ('bld k': the first cell of a strings.Builder (type k); 'buf', 'bptr': its bytes, and where they begin. 'lst l t': t = 0: it may not be appended to; 1: it is nil; 2: its capacity is its length; n + 3: token n gives the right); other memory by the object's number. -/
inductive V where
  | int (k : IntKind) (n : Int)
  | bool (b : Bool)
  | str (s : List UInt8)
  | ptr0
  | ptr (id off : Nat)
  | lptr (cs : List V)
  | sl (id off len sz : Nat)
  | lst (l : List V) (t : Nat)
  | map0
  | map (id : Nat)
  | fn (f : Nat) (first captured : List V)
  | fn0
  | iface (t : Nat) (v : V)
  | if0
  | agg (cs : List V)
  | tup (vs : List V)
  | bld (k : Nat)
  | buf (s : List UInt8) (t : Nat)
  | bptr (s : List UInt8) (t : Nat)

instance : Inhabited V := ⟨.tup []⟩

/-- What a value's cells are. -/
def V.cells : V → List V
  | .agg cs => cs
  | v => [v]

def V.one : V → Bool
  | .agg _ | .tup _ | .bld _ => false
  | _ => true

/-- The rights to append are struck. -/
def V.er0 : V → V
  | .lst l _ => .lst l 0
  | .buf s _ => .buf s 0
  | v => v
def V.er : V → V
  | .lst l _ => .lst l 0
  | .buf s _ => .buf s 0
  | .agg cs => .agg (cs.map V.er0)
  | v => v
/-- .. but for the outermost. -/
def V.er1 : V → V
  | .agg cs => .agg (cs.map V.er0)
  | v => v

def flat (l : List V) : List V := l.flatMap V.cells

inductive Ob where
  | cells (cs : List V)
  | map (es : List (V × V))

structure St where
  ob : Nat → Option Ob
  n : Nat
  tk : Nat → Option Nat
  nt : Nat

/-- How a state stands to a world: each object's block, each token's block and the place behind its last cell (none: there is no room behind it), how far a block's cells do not turn any more. -/
structure E where
  st : St
  w : World
  σ : Nat → Nat
  τ : Nat → Option (Nat × Nat)
  fr : Nat → Nat

/-- One cell, or the first of a Builder. -/
def V.oneB (v : V) : Bool := v.one || (match v with | .bld _ => true | _ => false)
theorem oneB_of {v : V} (h : v.one = true) : v.oneB = true := by unfold V.oneB; rw [h]; rfl
/-- Bytes, as values. -/
def bytesW (s : List UInt8) : List Value := s.map fun b => .int .u8 b.toNat

inductive Rs (e : E) : List V → List Value → Prop where
  | nil : Rs e [] []
  | int (k : IntKind) (n : Int) {vs ws} : Rs e vs ws → Rs e (.int k n :: vs) (.int k n :: ws)
  | bool (b : Bool) {vs ws} : Rs e vs ws → Rs e (.bool b :: vs) (.bool b :: ws)
  | str (s : List UInt8) {vs ws} : Rs e vs ws → Rs e (.str s :: vs) (.string ⟨s.toArray⟩ :: ws)
  | ptr0 {vs ws} : Rs e vs ws → Rs e (.ptr0 :: vs) (.pointer none :: ws)
  | ptr (id off : Nat) (a : Addr) {vs ws} (hn : id < e.st.n) (hl : ∀ o, e.st.ob id = some o → a = ⟨e.σ id, off, none⟩) : Rs e vs ws → Rs e (.ptr id off :: vs) (.pointer (some a) :: ws)
  | lptr (cs : List V) (b o : Nat) (c : Array Value) (ty : TypeId) (fz : Nat × Nat) {vs ws} (hb : e.w.heap[b]? = some (.cells c ty fz)) (hf : o + cs.length ≤ e.fr b) (ho : ∀ v ∈ cs, v.one = true)
      (hc : Rs e cs ((c.toList.drop o).take cs.length)) : Rs e vs ws → Rs e (.lptr cs :: vs) (.pointer (some ⟨b, o, none⟩) :: ws)
  | lst0 (t : Nat) {vs ws} (hb : 3 ≤ t → t - 3 < e.st.nt) : Rs e vs ws → Rs e (.lst [] t :: vs) (.slice none 0 0 :: ws)
  | lste (t : Nat) (a : Addr) {vs ws} (ht : t ≠ 1 ∧ (3 ≤ t → t - 3 < e.st.nt)) : Rs e vs ws → Rs e (.lst [] t :: vs) (.slice (some a) 0 0 :: ws)
  | lst (l : List V) (t len cap b o sz : Nat) (c : Array Value) (ty : TypeId) (fz : Nat × Nat) {vs ws} (hlen : l.length = len) (hcap : len ≤ cap) (hb : e.w.heap[b]? = some (.cells c ty fz)) (hsz : ∀ v ∈ l, v.cells.length = sz) (ho : ∀ v ∈ flat l, v.one = true)
      (hf : o + len * sz ≤ e.fr b) (hc : Rs e (flat l) ((c.toList.drop o).take (len * sz))) (hx : (t = 1 → False) ∧ (t = 2 → cap = len))
      (ht : 3 ≤ t → t - 3 < e.st.nt ∧ ∀ s, e.st.tk (t - 3) = some s → len < cap → s = sz ∧ e.τ (t - 3) = some (b, o + len * sz) ∧ o + cap * sz ≤ c.size) : Rs e vs ws → Rs e (.lst l t :: vs) (.slice (some ⟨b, o, none⟩) len cap :: ws)
  | sl (id off len sz cap : Nat) (a : Addr) {vs ws} (hn : id < e.st.n) (hcap : len ≤ cap) (hl : ∀ o, e.st.ob id = some o → 0 < cap → a = ⟨e.σ id, off, none⟩ ∧ ∃ c ty fz, e.w.heap[e.σ id]? = some (.cells c ty fz) ∧ off + cap * sz ≤ c.size) :
      Rs e vs ws → Rs e (.sl id off len sz :: vs) (.slice (some a) len cap :: ws)
  | map0 {vs ws} : Rs e vs ws → Rs e (.map0 :: vs) (.map none :: ws)
  | map (id r : Nat) {vs ws} (hn : id < e.st.n) (hl : ∀ o, e.st.ob id = some o → r = e.σ id) : Rs e vs ws → Rs e (.map id :: vs) (.map (some r) :: ws)
  | fn (f : Nat) (first captured : List V) (F C : Array Value) {vs ws} (h1 : Rs e first F.toList) (h2 : Rs e captured C.toList) : Rs e vs ws → Rs e (.fn f first captured :: vs) (.func (.func f) F C :: ws)
  | fn0 {vs ws} : Rs e vs ws → Rs e (.fn0 :: vs) (.nilFunc :: ws)
  | iface (t : Nat) (v : V) (v' : Value) {vs ws} (h : Rs e [v] [v']) : Rs e vs ws → Rs e (.iface t v :: vs) (.iface t v' :: ws)
  | if0 {vs ws} : Rs e vs ws → Rs e (.if0 :: vs) (.nilIface :: ws)
  | bld (k : Nat) (a : Option Addr) {vs ws} : Rs e vs ws → Rs e (.bld k :: vs) (.pointer a :: ws)
  | buf0 (t : Nat) {vs ws} (hb : 3 ≤ t → t - 3 < e.st.nt) : Rs e vs ws → Rs e (.buf [] t :: vs) (.slice none 0 0 :: ws)
  | buf (s : List UInt8) (t cap b o : Nat) (c : Array Value) (fz : Nat × Nat) {vs ws} (h0 : s ≠ []) (hcap : s.length ≤ cap) (hb : e.w.heap[b]? = some (.cells c 5 fz)) (hf : o + s.length ≤ e.fr b) (hc : (c.toList.drop o).take s.length = bytesW s) (h1 : t ≠ 1 ∧ o = 0)
      (ht : 3 ≤ t → t - 3 < e.st.nt ∧ ∀ s', e.st.tk (t - 3) = some s' → s' = 1 ∧ e.τ (t - 3) = some (b, o + s.length) ∧ o + cap ≤ c.size) : Rs e vs ws → Rs e (.buf s t :: vs) (.slice (some ⟨b, o, none⟩) s.length cap :: ws)
  | bptr0 (t : Nat) (a : Option Addr) {vs ws} : Rs e vs ws → Rs e (.bptr [] t :: vs) (.pointer a :: ws)
  | bptr (s : List UInt8) (t b o : Nat) (c : Array Value) (fz : Nat × Nat) {vs ws} (h0 : s ≠ [] ∧ o = 0) (hb : e.w.heap[b]? = some (.cells c 5 fz)) (hf : o + s.length ≤ e.fr b) (hc : (c.toList.drop o).take s.length = bytesW s)
      (ht : 3 ≤ t → t - 3 < e.st.nt ∧ ∀ s', e.st.tk (t - 3) = some s' → s' = 1 ∧ e.τ (t - 3) = some (b, o + s.length)) : Rs e vs ws → Rs e (.bptr s t :: vs) (.pointer (some ⟨b, o, none⟩) :: ws)
  | agg (cs : List V) (A : Array Value) {vs ws} (ho : ∀ v ∈ cs, v.one = true) (h : Rs e cs A.toList) : Rs e vs ws → Rs e (.agg cs :: vs) (.agg A :: ws)
  | tup (cs : List V) (A : Array Value) {vs ws} (h : Rs e cs A.toList) : Rs e vs ws → Rs e (.tup cs :: vs) (.tuple A :: ws)

/-- One step on: what was told of values stays true. -/
structure Ext (e e' : E) : Prop where
  n : e.st.n ≤ e'.st.n
  nt : e.st.nt ≤ e'.st.nt
  σ : ∀ id, id < e.st.n → e'.σ id = e.σ id
  ob : ∀ id, id < e.st.n → ∀ o, e'.st.ob id = some o → ∃ o', e.st.ob id = some o'
  τ : ∀ t, t < e.st.nt → e'.τ t = e.τ t
  tk : ∀ t, t < e.st.nt → ∀ s, e'.st.tk t = some s → e.st.tk t = some s
  fr : ∀ b, e.fr b ≤ e'.fr b
  heap : ∀ b c ty fz, e.w.heap[b]? = some (.cells c ty fz) → ∃ c' fz', e'.w.heap[b]? = some (.cells c' ty fz') ∧ c'.size = c.size ∧ ∀ i, i < e.fr b → c'[i]? = c[i]?

theorem Ext.refl (e : E) : Ext e e := ⟨Nat.le_refl _, Nat.le_refl _, fun _ _ => rfl, fun _ _ o h => ⟨o, h⟩, fun _ _ => rfl, fun _ _ _ h => h, fun _ => Nat.le_refl _, fun _ c _ fz h => ⟨c, fz, h, rfl, fun _ _ => rfl⟩⟩
theorem Ext.trans {a b c : E} (h : Ext a b) (k : Ext b c) : Ext a c := by
  refine ⟨Nat.le_trans h.n k.n, Nat.le_trans h.nt k.nt, fun id hi => (k.σ id (Nat.lt_of_lt_of_le hi h.n)).trans (h.σ id hi), ?_, fun t ht => (k.τ t (Nat.lt_of_lt_of_le ht h.nt)).trans (h.τ t ht), fun t ht s hs => h.tk t ht s (k.tk t (Nat.lt_of_lt_of_le ht h.nt) s hs), fun b => Nat.le_trans (h.fr b) (k.fr b), ?_⟩
  · intro id hi o ho
    obtain ⟨o', ho'⟩ := k.ob id (Nat.lt_of_lt_of_le hi h.n) o ho
    exact h.ob id hi o' ho'
  · intro b c ty fz hb
    obtain ⟨c', fz', hb', hs', hi'⟩ := h.heap b c ty fz hb
    obtain ⟨c2, fz2, hb2, hs2, hi2⟩ := k.heap b c' ty fz' hb'
    exact ⟨c2, fz2, hb2, hs2.trans hs', fun i hi => (hi2 i (Nat.lt_of_lt_of_le hi (h.fr b))).trans (hi' i hi)⟩

theorem range_same {c c' : Array Value} {o n k : Nat} (hk : o + n ≤ k) (h : ∀ i, i < k → c'[i]? = c[i]?) : (c'.toList.drop o).take n = (c.toList.drop o).take n := by
  apply List.ext_getElem?
  intro i
  simp only [List.getElem?_take, List.getElem?_drop]
  split
  · have := h (o + i) (by omega)
    simpa using this
  · rfl

theorem Rs.mono {e e' : E} (x : Ext e e') {vs : List V} {ws : List Value} (h : Rs e vs ws) : Rs e' vs ws := by
  induction h with
  | nil => exact .nil
  | int k n _ ih => exact .int k n ih
  | bool b _ ih => exact .bool b ih
  | str s _ ih => exact .str s ih
  | ptr0 _ ih => exact .ptr0 ih
  | ptr id off a hn hl _ ih =>
    refine .ptr id off a (Nat.lt_of_lt_of_le hn x.n) (fun o ho => ?_) ih
    obtain ⟨o', ho'⟩ := x.ob id hn o ho
    rw [x.σ id hn]; exact hl o' ho'
  | lptr cs b o c ty fz hb hf ho _ _ ih1 ih2 =>
    obtain ⟨c', fz', hb', hs', hi'⟩ := x.heap b c ty fz hb
    exact .lptr cs b o c' ty fz' hb' (Nat.le_trans hf (x.fr b)) ho (by rw [range_same hf hi']; exact ih1) ih2
  | lst0 t hb _ ih => exact .lst0 t (fun h => Nat.lt_of_lt_of_le (hb h) x.nt) ih
  | lste t a ht _ ih => exact .lste t a ⟨ht.1, fun h => Nat.lt_of_lt_of_le (ht.2 h) x.nt⟩ ih
  | lst l t len cap b o sz c ty fz hlen hcap hb hsz ho hf _ hx ht _ ih1 ih2 =>
    obtain ⟨c', fz', hb', hs', hi'⟩ := x.heap b c ty fz hb
    refine .lst l t len cap b o sz c' ty fz' hlen hcap hb' hsz ho (Nat.le_trans hf (x.fr b)) (by rw [range_same hf hi']; exact ih1) hx ?_ ih2
    intro h2
    obtain ⟨g1, g2⟩ := ht h2
    refine ⟨Nat.lt_of_lt_of_le g1 x.nt, fun s hs hc => ?_⟩
    obtain ⟨a1, a2, a3⟩ := g2 s (x.tk _ g1 s hs) hc
    exact ⟨a1, (x.τ _ g1).trans a2, by omega⟩
  | sl id off len sz cap a hn hcap hl _ ih =>
    refine .sl id off len sz cap a (Nat.lt_of_lt_of_le hn x.n) hcap (fun o ho h0 => ?_) ih
    obtain ⟨o', ho'⟩ := x.ob id hn o ho
    obtain ⟨g1, c, ty, fz, g2, g3⟩ := hl o' ho' h0
    obtain ⟨c', fz', hb', hs', _⟩ := x.heap _ c ty fz g2
    rw [x.σ id hn]
    exact ⟨g1, c', ty, fz', hb', by omega⟩
  | map0 _ ih => exact .map0 ih
  | map id r hn hl _ ih =>
    refine .map id r (Nat.lt_of_lt_of_le hn x.n) (fun o ho => ?_) ih
    obtain ⟨o', ho'⟩ := x.ob id hn o ho
    rw [x.σ id hn]; exact hl o' ho'
  | fn f a b F C _ _ _ i1 i2 i3 => exact .fn f a b F C i1 i2 i3
  | fn0 _ ih => exact .fn0 ih
  | iface t v v' _ _ i1 i2 => exact .iface t v v' i1 i2
  | if0 _ ih => exact .if0 ih
  | bld k a _ ih => exact .bld k a ih
  | buf0 t hb _ ih => exact .buf0 t (fun h => Nat.lt_of_lt_of_le (hb h) x.nt) ih
  | buf s t cap b o c fz h0 hcap hb hf hc h1 ht _ ih =>
    obtain ⟨c', fz', hb', hs', hi'⟩ := x.heap b c 5 fz hb
    refine .buf s t cap b o c' fz' h0 hcap hb' (Nat.le_trans hf (x.fr b)) (by rw [range_same hf hi']; exact hc) h1 (fun h2 => ?_) ih
    obtain ⟨g1, g2⟩ := ht h2
    refine ⟨Nat.lt_of_lt_of_le g1 x.nt, fun s hs => ?_⟩
    obtain ⟨a1, a2, a3⟩ := g2 s (x.tk _ g1 s hs)
    exact ⟨a1, (x.τ _ g1).trans a2, by omega⟩
  | bptr0 t a _ ih => exact .bptr0 t a ih
  | bptr s t b o c fz h0 hb hf hc ht _ ih =>
    obtain ⟨c', fz', hb', hs', hi'⟩ := x.heap b c 5 fz hb
    refine .bptr s t b o c' fz' h0 hb' (Nat.le_trans hf (x.fr b)) (by rw [range_same hf hi']; exact hc) (fun h2 => ?_) ih
    obtain ⟨g1, g2⟩ := ht h2
    refine ⟨Nat.lt_of_lt_of_le g1 x.nt, fun s hs => ?_⟩
    obtain ⟨a1, a2⟩ := g2 s (x.tk _ g1 s hs)
    exact ⟨a1, (x.τ _ g1).trans a2⟩
  | agg cs A ho _ _ i1 i2 => exact .agg cs A ho i1 i2
  | tup cs A _ _ i1 i2 => exact .tup cs A i1 i2

/-- Head and tail. -/
theorem Rs.cons {e : E} {v : V} {v' : Value} {vs : List V} {ws : List Value} (h : Rs e [v] [v']) (k : Rs e vs ws) : Rs e (v :: vs) (v' :: ws) := by
  cases h with
  | int k n _ => exact .int k n ‹_›
  | bool b _ => exact .bool b ‹_›
  | str s _ => exact .str s ‹_›
  | ptr0 _ => exact .ptr0 ‹_›
  | ptr id off a hn hl _ => exact .ptr id off a hn hl ‹_›
  | lptr cs b o c ty fz hb hf ho hc _ => exact .lptr cs b o c ty fz hb hf ho hc ‹_›
  | lst0 t hb _ => exact .lst0 t hb ‹_›
  | lste t a ht _ => exact .lste t a ht ‹_›
  | lst l t len cap b o sz c ty fz hlen hcap hb hsz ho hf hc hx ht _ => exact .lst l t len cap b o sz c ty fz hlen hcap hb hsz ho hf hc hx ht ‹_›
  | sl id off len sz cap a hn hcap hl _ => exact .sl id off len sz cap a hn hcap hl ‹_›
  | map0 _ => exact .map0 ‹_›
  | map id r hn hl _ => exact .map id r hn hl ‹_›
  | fn f a b F C h1 h2 _ => exact .fn f a b F C h1 h2 ‹_›
  | fn0 _ => exact .fn0 ‹_›
  | iface t v v' h1 _ => exact .iface t v v' h1 ‹_›
  | if0 _ => exact .if0 ‹_›
  | bld k a _ => exact .bld k a ‹_›
  | buf0 t hb _ => exact .buf0 t hb ‹_›
  | buf s t cap b o c fz h0 hcap hb hf hc h1 ht _ => exact .buf s t cap b o c fz h0 hcap hb hf hc h1 ht ‹_›
  | bptr0 t a _ => exact .bptr0 t a ‹_›
  | bptr s t b o c fz h0 hb hf hc ht _ => exact .bptr s t b o c fz h0 hb hf hc ht ‹_›
  | agg cs A ho h1 _ => exact .agg cs A ho h1 ‹_›
  | tup cs A h1 _ => exact .tup cs A h1 ‹_›

theorem Rs.both {e : E} {v : V} {v' : Value} {vs : List V} {ws : List Value} (h : Rs e (v :: vs) (v' :: ws)) : Rs e [v] [v'] ∧ Rs e vs ws := by
  cases h with
  | int k n _ => exact ⟨.int k n .nil, ‹_›⟩
  | bool b _ => exact ⟨.bool b .nil, ‹_›⟩
  | str s _ => exact ⟨.str s .nil, ‹_›⟩
  | ptr0 _ => exact ⟨.ptr0 .nil, ‹_›⟩
  | ptr id off a hn hl _ => exact ⟨.ptr id off a hn hl .nil, ‹_›⟩
  | lptr cs b o c ty fz hb hf ho hc _ => exact ⟨.lptr cs b o c ty fz hb hf ho hc .nil, ‹_›⟩
  | lst0 t hb _ => exact ⟨.lst0 t hb .nil, ‹_›⟩
  | lste t a ht _ => exact ⟨.lste t a ht .nil, ‹_›⟩
  | lst l t len cap b o sz c ty fz hlen hcap hb hsz ho hf hc hx ht _ => exact ⟨.lst l t len cap b o sz c ty fz hlen hcap hb hsz ho hf hc hx ht .nil, ‹_›⟩
  | sl id off len sz cap a hn hcap hl _ => exact ⟨.sl id off len sz cap a hn hcap hl .nil, ‹_›⟩
  | map0 _ => exact ⟨.map0 .nil, ‹_›⟩
  | map id r hn hl _ => exact ⟨.map id r hn hl .nil, ‹_›⟩
  | fn f a b F C h1 h2 _ => exact ⟨.fn f a b F C h1 h2 .nil, ‹_›⟩
  | fn0 _ => exact ⟨.fn0 .nil, ‹_›⟩
  | iface t v v' h1 _ => exact ⟨.iface t v v' h1 .nil, ‹_›⟩
  | if0 _ => exact ⟨.if0 .nil, ‹_›⟩
  | bld k a _ => exact ⟨.bld k a .nil, ‹_›⟩
  | buf0 t hb _ => exact ⟨.buf0 t hb .nil, ‹_›⟩
  | buf s t cap b o c fz h0 hcap hb hf hc h1 ht _ => exact ⟨.buf s t cap b o c fz h0 hcap hb hf hc h1 ht .nil, ‹_›⟩
  | bptr0 t a _ => exact ⟨.bptr0 t a .nil, ‹_›⟩
  | bptr s t b o c fz h0 hb hf hc ht _ => exact ⟨.bptr s t b o c fz h0 hb hf hc ht .nil, ‹_›⟩
  | agg cs A ho h1 _ => exact ⟨.agg cs A ho h1 .nil, ‹_›⟩
  | tup cs A h1 _ => exact ⟨.tup cs A h1 .nil, ‹_›⟩

theorem Rs.length {e : E} : ∀ {vs : List V} {ws : List Value}, Rs e vs ws → vs.length = ws.length
  | [], ws, h => by cases h; rfl
  | v :: vs, [], h => by cases h
  | v :: vs, w :: ws, h => by simp [Rs.length h.both.2]

theorem Rs.get {e : E} : ∀ {vs : List V} {ws : List Value} (i : Nat) {v : V}, Rs e vs ws → vs[i]? = some v → ∃ w, ws[i]? = some w ∧ Rs e [v] [w]
  | [], _, _, _, _, hv => by simp at hv
  | x :: vs, [], _, _, h, _ => by cases h
  | x :: vs, w :: ws, 0, v, h, hv => by simp at hv; subst hv; exact ⟨w, rfl, h.both.1⟩
  | x :: vs, w :: ws, i + 1, v, h, hv => by simpa using Rs.get i h.both.2 (by simpa using hv)

theorem Rs.append {e : E} : ∀ {vs : List V} {ws : List Value} {vs' : List V} {ws' : List Value}, Rs e vs ws → Rs e vs' ws' → Rs e (vs ++ vs') (ws ++ ws')
  | [], [], _, _, _, k => k
  | [], _ :: _, _, _, h, _ => by cases h
  | _ :: _, [], _, _, h, _ => by cases h
  | v :: vs, w :: ws, _, _, h, k => by simpa using Rs.cons h.both.1 (Rs.append h.both.2 k)

theorem Rs.take {e : E} (n : Nat) {vs : List V} {ws : List Value} (h : Rs e vs ws) : Rs e (vs.take n) (ws.take n) := by
  induction n generalizing vs ws with
  | zero => exact .nil
  | succ n ih =>
    match vs, ws, h with
    | [], [], _ => exact .nil
    | [], _ :: _, h => cases h
    | _ :: _, [], h => cases h
    | v :: vs, w :: ws, h => simpa using Rs.cons h.both.1 (ih h.both.2)

theorem Rs.drop {e : E} (n : Nat) {vs : List V} {ws : List Value} (h : Rs e vs ws) : Rs e (vs.drop n) (ws.drop n) := by
  induction n generalizing vs ws with
  | zero => simpa
  | succ n ih =>
    match vs, ws, h with
    | [], [], _ => exact .nil
    | [], _ :: _, h => cases h
    | _ :: _, [], h => cases h
    | v :: vs, w :: ws, h => simpa using ih h.both.2

theorem Rs.set {e : E} (i : Nat) {vs : List V} {ws : List Value} {v : V} {w : Value} (h : Rs e vs ws) (k : Rs e [v] [w]) : Rs e (vs.set i v) (ws.set i w) := by
  induction i generalizing vs ws with
  | zero =>
    match vs, ws, h with
    | [], [], _ => exact .nil
    | [], _ :: _, h => cases h
    | _ :: _, [], h => cases h
    | v :: vs, w :: ws, h => simpa using Rs.cons k h.both.2
  | succ n ih =>
    match vs, ws, h with
    | [], [], _ => exact .nil
    | [], _ :: _, h => cases h
    | _ :: _, [], h => cases h
    | v :: vs, w :: ws, h => simpa using Rs.cons h.both.1 (ih h.both.2)

/-- The cells of a value. -/
theorem Rs.cells {e : E} {v : V} {w : Value} (h : Rs e [v] [w]) : Rs e v.cells w.cells.toList := by
  cases h with
  | bld k a _ => exact .bld k a .nil
  | buf0 t hb _ => exact .buf0 t hb .nil
  | buf s t cap b o c fz h0 hcap hb hf hc h1 ht _ => exact .buf s t cap b o c fz h0 hcap hb hf hc h1 ht .nil
  | bptr0 t a _ => exact .bptr0 t a .nil
  | bptr s t b o c fz h0 hb hf hc ht _ => exact .bptr s t b o c fz h0 hb hf hc ht .nil
  | agg cs A ho h1 _ => exact h1
  | int k n _ => exact .int k n .nil
  | bool b _ => exact .bool b .nil
  | str s _ => exact .str s .nil
  | ptr0 _ => exact .ptr0 .nil
  | ptr id off a hn hl _ => exact .ptr id off a hn hl .nil
  | lptr cs b o c ty fz hb hf ho hc _ => exact .lptr cs b o c ty fz hb hf ho hc .nil
  | lst0 t hb _ => exact .lst0 t hb .nil
  | lste t a ht _ => exact .lste t a ht .nil
  | lst l t len cap b o sz c ty fz hlen hcap hb hsz ho hf hc hx ht _ => exact .lst l t len cap b o sz c ty fz hlen hcap hb hsz ho hf hc hx ht .nil
  | sl id off len sz cap a hn hcap hl _ => exact .sl id off len sz cap a hn hcap hl .nil
  | map0 _ => exact .map0 .nil
  | map id r hn hl _ => exact .map id r hn hl .nil
  | fn f a b F C h1 h2 _ => exact .fn f a b F C h1 h2 .nil
  | fn0 _ => exact .fn0 .nil
  | iface t v v' h1 _ => exact .iface t v v' h1 .nil
  | if0 _ => exact .if0 .nil
  | tup cs A h1 _ => exact .tup cs A h1 .nil

theorem Rs.oneB {e : E} {v : V} {w : Value} (h : Rs e [v] [w]) (hv : v.oneB = true) : w.oneCell' = true := by
  cases h <;> first | rfl | cases hv
theorem Rs.one {e : E} {v : V} {w : Value} (h : Rs e [v] [w]) (hv : v.one = true) : w.oneCell' = true := h.oneB (oneB_of hv)

theorem Rs.onesB {e : E} : ∀ {vs : List V} {ws : List Value}, Rs e vs ws → (∀ v ∈ vs, v.oneB = true) → ∀ w ∈ ws, w.oneCell' = true
  | [], [], _, _ => by simp
  | [], _ :: _, h, _ => by cases h
  | _ :: _, [], h, _ => by cases h
  | v :: vs, w :: ws, h, k => by
    intro x hx
    rcases List.mem_cons.mp hx with e | e
    · rw [e]; exact h.both.1.oneB (k v (by simp))
    · exact Rs.onesB h.both.2 (fun y hy => k y (List.mem_cons_of_mem _ hy)) x e
theorem Rs.ones {e : E} {vs : List V} {ws : List Value} (h : Rs e vs ws) (k : ∀ v ∈ vs, v.one = true) : ∀ w ∈ ws, w.oneCell' = true := h.onesB fun v hv => oneB_of (k v hv)

theorem Rs.er0 {e : E} {v : V} {w : Value} (h : Rs e [v] [w]) : Rs e [v.er0] [w] := by
  cases v with
  | lst l t =>
    cases h with
    | lst0 t hb _ => exact .lst0 0 (by omega) .nil
    | lste t a ht _ => exact .lste 0 a ⟨by omega, by omega⟩ .nil
    | lst l t len cap b o sz c ty fz hlen hcap hb hsz ho hf hc hx ht _ => exact .lst l 0 len cap b o sz c ty fz hlen hcap hb hsz ho hf hc (by omega) (by omega) .nil
  | buf s t =>
    cases h with
    | buf0 t hb _ => exact .buf0 0 (by omega) .nil
    | buf s t cap b o c fz h0 hcap hb hf hc h1 ht _ => exact .buf s 0 cap b o c fz h0 hcap hb hf hc ⟨by omega, h1.2⟩ (by omega) .nil
  | _ => exact h

theorem Rs.er0s {e : E} : ∀ {vs : List V} {ws : List Value}, Rs e vs ws → Rs e (vs.map V.er0) ws
  | [], [], _ => .nil
  | [], _ :: _, h => by cases h
  | _ :: _, [], h => by cases h
  | v :: vs, w :: ws, h => by simpa using Rs.cons h.both.1.er0 (Rs.er0s h.both.2)

theorem V.er0_one (v : V) : v.er0.one = v.one := by cases v <;> rfl
theorem ones_er0 {cs : List V} (h : ∀ v ∈ cs, v.one = true) : ∀ v ∈ cs.map V.er0, v.one = true := by
  intro v hv
  obtain ⟨x, hx, rfl⟩ := List.mem_map.mp hv
  rw [V.er0_one]; exact h x hx

theorem Rs.er1 {e : E} {v : V} {w : Value} (h : Rs e [v] [w]) : Rs e [v.er1] [w] := by
  cases v with
  | agg cs => cases h with | agg cs A ho h1 _ => exact .agg _ A (ones_er0 ho) h1.er0s .nil
  | _ => exact h

theorem Rs.er {e : E} {v : V} {w : Value} (h : Rs e [v] [w]) : Rs e [v.er] [w] := by
  cases v with
  | agg cs => cases h with | agg cs A ho h1 _ => exact .agg _ A (ones_er0 ho) h1.er0s .nil
  | lst l t => exact h.er0
  | buf s t => exact h.er0
  | _ => exact h

theorem Rs.ers {e : E} : ∀ {vs : List V} {ws : List Value}, Rs e vs ws → Rs e (vs.map V.er) ws
  | [], [], _ => .nil
  | [], _ :: _, h => by cases h
  | _ :: _, [], h => by cases h
  | v :: vs, w :: ws, h => by simpa using Rs.cons h.both.1.er (Rs.ers h.both.2)
theorem Rs.er1s {e : E} : ∀ {vs : List V} {ws : List Value}, Rs e vs ws → Rs e (vs.map V.er1) ws
  | [], [], _ => .nil
  | [], _ :: _, h => by cases h
  | _ :: _, [], h => by cases h
  | v :: vs, w :: ws, h => by simpa using Rs.cons h.both.1.er1 (Rs.er1s h.both.2)

/-- The cells of a block are not frozen, from a place on. -/
def unfz (c : Array Value) (fz : Nat × Nat) (k : Nat) : Prop := ∀ i, k ≤ i → i < c.size → ¬ (fz.1 ≤ i ∧ i < fz.2)

/-- A Builder's block. -/
def BldOK (b : Nat) (cs : List V) (c : Array Value) (ty : TypeId) : Prop := ∀ k x, cs = .bld k :: x → ty = k ∧ c.size = 2 ∧ ((c[0]? : Option Value) = some (.pointer none) ∨ (c[0]? : Option Value) = some (.pointer (some ⟨b, 0, none⟩)))
theorem bldOK_of {b : Nat} {cs : List V} {c : Array Value} {ty : TypeId} (h : ∀ v ∈ cs, v.one = true) : BldOK b cs c ty := by
  intro k x hx
  have := h (.bld k) (by rw [hx]; simp)
  cases this
/-- The state is the world's. -/
structure Rel (W0 : World) (B : Nat) (e : E) : Prop where
  below : Below B W0 e.w
  hB : B ≤ W0.heap.size
  cells : ∀ id cs, e.st.ob id = some (.cells cs) → B ≤ e.σ id ∧ (∀ v ∈ cs, v.oneB = true) ∧ ∃ c ty fz, e.w.heap[e.σ id]? = some (.cells c ty fz) ∧ unfz c fz 0 ∧ cs.length ≤ c.size ∧ Rs e cs (c.toList.take cs.length) ∧ BldOK (e.σ id) cs c ty
  maps : ∀ id es, e.st.ob id = some (.map es) → B ≤ e.σ id ∧ ∃ ents clock, e.w.heap[e.σ id]? = some (.map ents clock) ∧ Rs e (es.map (·.1)) (ents.toList.map (·.key)) ∧ Rs e (es.map (·.2)) (ents.toList.map (·.val)) ∧ Go.MapKept.Stamped ents clock
  live : ∀ id o, e.st.ob id = some o → id < e.st.n ∧ e.fr (e.σ id) = 0
  inj : ∀ i j o o', e.st.ob i = some o → e.st.ob j = some o' → e.σ i = e.σ j → i = j
  tkn : ∀ t s, e.st.tk t = some s → t < e.st.nt
  toks : ∀ t s b k, e.st.tk t = some s → e.τ t = some (b, k) → B ≤ b ∧ e.fr b = k ∧ ∃ c ty fz, e.w.heap[b]? = some (.cells c ty fz) ∧ unfz c fz k
  tinj : ∀ t t' s s' b k k', e.st.tk t = some s → e.st.tk t' = some s' → e.τ t = some (b, k) → e.τ t' = some (b, k') → t = t'
  tob : ∀ t s b k id o, e.st.tk t = some s → e.τ t = some (b, k) → e.st.ob id = some o → e.σ id ≠ b
  frs : ∀ b c ty fz, e.w.heap[b]? = some (.cells c ty fz) → e.fr b ≤ c.size
  frn : ∀ b, e.w.heap.size ≤ b → e.fr b = 0
end Go.Ab
