import Derived.Test.YtmbaebedkobijaaAbOp4
/- Tokens; append; lists that are made. -/
namespace Go.Ab
open Go.RowKit
set_option linter.unusedVariables false
set_option linter.unusedSimpArgs false

def E.kill (e : E) (t : Nat) : E := { e with st := e.st.delTk t }
theorem Ext.kill (e : E) (t : Nat) : Ext e (e.kill t) := by
  refine ⟨Nat.le_refl _, Nat.le_refl _, fun _ _ => rfl, fun _ _ o h => ⟨o, h⟩, fun _ _ => rfl, fun i _ s h => ?_, fun _ => Nat.le_refl _, fun b c ty fz h => ⟨c, fz, h, rfl, fun _ _ => rfl⟩⟩
  simp only [E.kill, St.delTk] at h
  split at h
  · cases h
  · exact h
theorem kill_tk {e : E} {t i s : Nat} (h : (e.kill t).st.tk i = some s) : i ≠ t ∧ e.st.tk i = some s := by
  simp only [E.kill, St.delTk] at h
  split at h
  · cases h
  · exact ⟨‹_›, h⟩
theorem Rel.kill {W0 : World} {B : Nat} {e : E} (h : Rel W0 B e) (t : Nat) : Rel W0 B (e.kill t) := by
  have X := Ext.kill e t
  refine ⟨h.below, h.hB, fun id cs ho => ?_, fun id es ho => ?_, h.live, h.inj, fun i s hs => h.tkn i s (kill_tk hs).2, fun i s b k hs => h.toks i s b k (kill_tk hs).2, fun i j s s' b k k' h1 h2 => h.tinj i j s s' b k k' (kill_tk h1).2 (kill_tk h2).2, fun i s b k id o h1 => h.tob i s b k id o (kill_tk h1).2, h.frs, h.frn⟩
  · obtain ⟨a, b, c, ty, fz, d, f, g, k, kb⟩ := h.cells id cs ho; exact ⟨a, b, c, ty, fz, d, f, g, k.mono X, kb⟩
  · obtain ⟨a, ents, clock, b, c, d⟩ := h.maps id es ho; exact ⟨a, ents, clock, b, c.mono X, d.mono X⟩

def E.tok (e : E) (sz : Nat) (p : Option (Nat × Nat)) : E := { e with st := e.st.newTk sz, τ := fun i => if i = e.st.nt then p else e.τ i }
theorem tok_tk {e : E} {sz i s : Nat} {p : Option (Nat × Nat)} (h : (e.tok sz p).st.tk i = some s) : (i = e.st.nt ∧ s = sz) ∨ (i ≠ e.st.nt ∧ e.st.tk i = some s) := by
  simp only [E.tok, St.newTk] at h
  split at h
  · exact .inl ⟨‹_›, (Option.some.inj h).symm⟩
  · exact .inr ⟨‹_›, h⟩
theorem Ext.tok {W0 : World} {B : Nat} {e : E} (hr : Rel W0 B e) (sz : Nat) (p : Option (Nat × Nat)) : Ext e (e.tok sz p) := by
  refine ⟨Nat.le_refl _, Nat.le_succ _, fun _ _ => rfl, fun _ _ o h => ⟨o, h⟩, fun t ht => ?_, fun i hi s h => ?_, fun _ => Nat.le_refl _, fun b c ty fz h => ⟨c, fz, h, rfl, fun _ _ => rfl⟩⟩
  · simp only [E.tok]; rw [if_neg (by omega)]
  · rcases tok_tk h with ⟨g, _⟩ | ⟨_, g⟩
    · omega
    · exact g
theorem Rel.tok {W0 : World} {B : Nat} {e : E} (h : Rel W0 B e) (sz : Nat) (p : Option (Nat × Nat))
    (hp : ∀ b k, p = some (b, k) → B ≤ b ∧ e.fr b = k ∧ (∃ c ty fz, e.w.heap[b]? = some (.cells c ty fz) ∧ unfz c fz k) ∧ (∀ t s k', e.st.tk t = some s → e.τ t ≠ some (b, k')) ∧ (∀ id o, e.st.ob id = some o → e.σ id ≠ b)) : Rel W0 B (e.tok sz p) := by
  have X := Ext.tok h sz p
  have hnt : ∀ s, e.st.tk e.st.nt ≠ some s := fun s hs => by have := h.tkn _ _ hs; omega
  have hτ : ∀ i, i ≠ e.st.nt → (e.tok sz p).τ i = e.τ i := fun i hi => by simp [E.tok, hi]
  have hτn : (e.tok sz p).τ e.st.nt = p := by simp [E.tok]
  refine ⟨h.below, h.hB, fun id cs ho => ?_, fun id es ho => ?_, h.live, h.inj, fun i s hs => ?_, fun i s b k hs hq => ?_, fun i j s s' b k k' h1 h2 h3 h4 => ?_, fun i s b k id o h1 h2 h3 => ?_, h.frs, h.frn⟩
  · obtain ⟨a, b, c, ty, fz, d, f, g, k, kb⟩ := h.cells id cs ho; exact ⟨a, b, c, ty, fz, d, f, g, k.mono X, kb⟩
  · obtain ⟨a, ents, clock, b, c, d⟩ := h.maps id es ho; exact ⟨a, ents, clock, b, c.mono X, d.mono X⟩
  · rcases tok_tk hs with ⟨g, _⟩ | ⟨_, g⟩
    · rw [g]; exact Nat.lt_succ_self _
    · exact Nat.lt_succ_of_lt (h.tkn _ _ g)
  · rcases tok_tk hs with ⟨rfl, _⟩ | ⟨g0, g⟩
    · rw [hτn] at hq
      obtain ⟨a1, a2, a3, _⟩ := hp b k hq
      exact ⟨a1, a2, a3⟩
    · rw [hτ i g0] at hq; exact h.toks i s b k g hq
  · rcases tok_tk h1 with ⟨rfl, _⟩ | ⟨g0, g⟩ <;> rcases tok_tk h2 with ⟨rfl, _⟩ | ⟨f0, f⟩
    · rfl
    · rw [hτn] at h3; rw [hτ j f0] at h4
      exact absurd h4 ((hp b k h3).2.2.2.1 j s' k' f)
    · rw [hτn] at h4; rw [hτ i g0] at h3
      exact absurd h3 ((hp b k' h4).2.2.2.1 i s k g)
    · rw [hτ i g0] at h3; rw [hτ j f0] at h4
      exact h.tinj i j s s' b k k' g f h3 h4
  · rcases tok_tk h1 with ⟨rfl, _⟩ | ⟨g0, g⟩
    · rw [hτn] at h2; exact (hp b k h2).2.2.2.2 id o h3
    · rw [hτ i g0] at h2; exact h.tob i s b k id o g h2 h3

/-- Cells behind the frontier of a block that nothing owns are written; the frontier is behind them. -/
def E.raise (e : E) (b k : Nat) (x : Obj) : E := { e with w := setBlk e.w b x, fr := fun j => if j = b then k else e.fr j }
theorem Ext.raise {e : E} {b k : Nat} {c c' : Array Value} {ty : TypeId} {fz : Nat × Nat} (hb : e.w.heap[b]? = some (.cells c ty fz)) (hk : e.fr b ≤ k) (hsz : c'.size = c.size) (hs : ∀ i, i < e.fr b → c'[i]? = c[i]?) : Ext e (e.raise b k (.cells c' ty fz)) := by
  refine ⟨Nat.le_refl _, Nat.le_refl _, fun _ _ => rfl, fun _ _ o h => ⟨o, h⟩, fun _ _ => rfl, fun _ _ _ h => h, fun j => ?_, fun j c1 ty1 fz1 hj => ?_⟩
  · simp only [E.raise]; split
    · rename_i hj; subst hj; exact hk
    · exact Nat.le_refl _
  · by_cases hjb : j = b
    · subst hjb
      rw [hb] at hj; cases hj
      exact ⟨c', fz, setBlk_here hb, hsz, hs⟩
    · exact ⟨c1, fz1, (setBlk_other hjb).trans hj, rfl, fun _ _ => rfl⟩
theorem Rel.raise {W0 : World} {B : Nat} {e : E} (h : Rel W0 B e) {b k : Nat} {c c' : Array Value} {ty : TypeId} {fz : Nat × Nat} (hb : e.w.heap[b]? = some (.cells c ty fz)) (hk : e.fr b ≤ k) (hsz : c'.size = c.size) (hs : ∀ i, i < e.fr b → c'[i]? = c[i]?)
    (hB : B ≤ b) (hkc : k ≤ c.size) (h1 : ∀ t s k', e.st.tk t = some s → e.τ t ≠ some (b, k')) (h2 : ∀ id o, e.st.ob id = some o → e.σ id ≠ b) : Rel W0 B (e.raise b k (.cells c' ty fz)) := by
  have X := Ext.raise hb hk hsz hs
  have hfr : ∀ j, j ≠ b → (e.raise b k (.cells c' ty fz)).fr j = e.fr j := fun j hj => by simp [E.raise, hj]
  refine ⟨⟨h.below.os, h.below.tape, h.below.output, by simp only [E.raise, setBlk_size]; exact h.below.size, fun j hj => (setBlk_other (by omega)).trans (h.below.block j hj)⟩, h.hB, fun id cs ho => ?_, fun id es ho => ?_, fun id o ho => ?_, h.inj, h.tkn, fun t s j kk ht hτ => ?_, h.tinj, h.tob, fun j c1 ty1 fz1 hj => ?_, fun j hj => ?_⟩
  · obtain ⟨a, b', c, ty, fz, d, f, g, k, kb⟩ := h.cells id cs ho; exact ⟨a, b', c, ty, fz, (setBlk_other (h2 id _ ho)).trans d, f, g, k.mono X, kb⟩
  · obtain ⟨a, ents, clock, b', c, d⟩ := h.maps id es ho; exact ⟨a, ents, clock, (setBlk_other (h2 id _ ho)).trans b', c.mono X, d.mono X⟩
  · exact ⟨(h.live id o ho).1, (hfr _ (h2 id o ho)).trans (h.live id o ho).2⟩
  · have hjb : j ≠ b := fun e1 => h1 t s kk ht (e1 ▸ hτ)
    obtain ⟨a, b', c, ty, fz, d, f⟩ := h.toks t s j kk ht hτ
    exact ⟨a, (hfr j hjb).trans b', c, ty, fz, (setBlk_other hjb).trans d, f⟩
  · by_cases hjb : j = b
    · subst hjb
      simp only [E.raise] at hj ⊢
      rw [setBlk_here hb] at hj; cases hj
      simp; omega
    · rw [hfr j hjb]
      simp only [E.raise] at hj; rw [setBlk_other hjb] at hj; exact h.frs j c1 ty1 fz1 hj
  · simp only [E.raise, setBlk_size] at hj
    have : j ≠ b := by have := (Array.getElem?_eq_some_iff.mp hb).1; omega
    rw [hfr j this]; exact h.frn j hj

/-- An object is forgotten. -/
def E.drop (e : E) (id : Nat) : E := { e with st := e.st.del id }
theorem drop_ob {e : E} {id i : Nat} {o : Ob} (h : (e.drop id).st.ob i = some o) : i ≠ id ∧ e.st.ob i = some o := by
  simp only [E.drop, St.del] at h
  split at h
  · cases h
  · exact ⟨‹_›, h⟩
theorem Ext.drop (e : E) (id : Nat) : Ext e (e.drop id) :=
  ⟨Nat.le_refl _, Nat.le_refl _, fun _ _ => rfl, fun _ _ o h => ⟨o, (drop_ob h).2⟩, fun _ _ => rfl, fun _ _ _ h => h, fun _ => Nat.le_refl _, fun b c ty fz h => ⟨c, fz, h, rfl, fun _ _ => rfl⟩⟩
theorem Rel.drop {W0 : World} {B : Nat} {e : E} (h : Rel W0 B e) (id : Nat) : Rel W0 B (e.drop id) := by
  have X := Ext.drop e id
  refine ⟨h.below, h.hB, fun i cs ho => ?_, fun i es ho => ?_, fun i o ho => h.live i o (drop_ob ho).2, fun i j o o' h1 h2 => h.inj i j o o' (drop_ob h1).2 (drop_ob h2).2, h.tkn, h.toks, h.tinj, fun t s b k i o h1 h2 h3 => h.tob t s b k i o h1 h2 (drop_ob h3).2, h.frs, h.frn⟩
  · obtain ⟨a, b, c, ty, fz, d, f, g, k, kb⟩ := h.cells i cs (drop_ob ho).2; exact ⟨a, b, c, ty, fz, d, f, g, k.mono X, kb⟩
  · obtain ⟨a, ents, clock, b, c, d⟩ := h.maps i es (drop_ob ho).2; exact ⟨a, ents, clock, b, c.mono X, d.mono X⟩

/-- What is appended. -/
def elemsOf (ty : Nat) (sz : Nat) (x : V) (st : St) : Option (List V) :=
  match x with
  | .lst l _ => if ty = 5 ∧ szok sz l then some l else none
  | .str s => if ty = 3 ∧ sz = 1 then some (s.map fun b => .int .u8 b.toNat) else none
  | .sl id off len sz' => (match st.ob id with
    | some (.cells cs) => if ty = 5 ∧ sz' = 1 ∧ sz = 1 ∧ off + len ≤ cs.length ∧ ((cs.drop off).take len).all V.one = true then some ((cs.drop off).take len) else none
    | _ => none)
  | _ => none

structure News (P : Program) (e : E) (sz : Nat) (x' : Value) (new : List V) (news : List Value) : Prop where
  len : ∀ w2 : World, (Builtin.lenOf x').run P w2 = .ok new.length w2
  run : ∀ w2 : World, w2.heap = e.w.heap → (Builtin.firstCells sz new.length x').run P w2 = .ok news.toArray w2
  size : news.length = new.length * sz
  rs : Rs e (flat new) news
  sz : ∀ v ∈ new, v.cells.length = sz
  one : ∀ v ∈ flat new, v.one = true

theorem flat_ones {l : List V} (h : ∀ v ∈ l, v.one = true) : flat l = l ∧ ∀ v ∈ l, v.cells.length = 1 := by
  have hc : ∀ v : V, v.one = true → v.cells = [v] := by intro v hv; cases v <;> first | rfl | cases hv
  constructor
  · induction l with
    | nil => rfl
    | cons v l ih =>
      rw [show flat (v :: l) = v.cells ++ flat l from rfl, hc v (h v (by simp)), ih (fun x hx => h x (List.mem_cons_of_mem _ hx))]; rfl
  · intro v hv; rw [hc v (h v hv)]; rfl

theorem ints_rs (e : E) : ∀ s : List UInt8, Rs e (s.map fun b => V.int .u8 b.toNat) (s.map fun b => Value.int .u8 b.toNat)
  | [] => .nil
  | b :: s => .int _ _ (ints_rs e s)

theorem elemsOf_sound {P : Program} {W0 : World} {B : Nat} {e : E} {ty sz : Nat} {x : V} {x' : Value} {new : List V} (h : elemsOf ty sz x e.st = some new) (hr : Rel W0 B e) (hx : Rs e [x] [x']) : ∃ news, News P e sz x' new news := by
  unfold elemsOf at h
  split at h
  · rename_i l t
    split at h
    · rename_i hh
      cases h
      cases hx with
      | lst0 _ _ _ => exact ⟨[], fun w2 => by simp [Builtin.lenOf], fun w2 _ => by simp [Builtin.firstCells], by simp, .nil, by simp, by simp [flat]⟩
      | lste _ ad _ _ => exact ⟨[], fun w2 => by simp [Builtin.lenOf], fun w2 _ => by simp [Builtin.firstCells, loadCells, loadCellsFrom], by simp, .nil, by simp, by simp [flat]⟩
      | lst _ _ len cap b o sz' c ty2 fz hlen hcap hb hsz ho hf hc hx1 ht1 _ =>
        subst hlen
        have hfs := hr.frs b c ty2 fz hb
        have hs0 : new.length * sz' = new.length * sz := by
          rcases szok_eq hh.2 hsz with g | g
          · rw [g]; simp
          · rw [g]
        refine ⟨(c.toList.drop o).take (new.length * sz'), fun w2 => by simp [Builtin.lenOf], fun w2 hw => ?_, ?_, hc, ?_, ho⟩
        · have := loadCells_run (P := P) (w := w2) (n := new.length * sz') (by rw [hw]; exact hb) (show o + new.length * sz' ≤ c.size by omega)
          simp only [Builtin.firstCells]
          rw [← hs0]; exact this
        · simp; omega
        · intro v hv
          rcases szok_eq hh.2 hsz with g | g
          · rw [g] at hv; cases hv
          · rw [← g]; exact hsz v hv
    · cases h
  · rename_i s
    split at h
    · rename_i hh
      cases h
      cases hx with
      | str _ _ =>
        obtain ⟨_, rfl⟩ := hh
        have hz : (⟨s.toArray⟩ : ByteArray).size = s.length := by show s.toArray.size = s.length; simp
        have hone : ∀ v ∈ (s.map fun b => V.int .u8 b.toNat), v.one = true := by
          intro v hv; obtain ⟨b, _, rfl⟩ := List.mem_map.mp hv; rfl
        obtain ⟨f1, f2⟩ := flat_ones hone
        refine ⟨s.map fun b => Value.int .u8 b.toNat, fun w2 => ?_, fun w2 _ => ?_, by simp, by rw [f1]; exact ints_rs e s, f2, by rw [f1]; exact hone⟩
        · simp only [Builtin.lenOf, Sem.run_pure, hz, List.length_map]
        · simp only [Builtin.firstCells, Sem.run_pure, List.length_map]
          rw [extract_str]
          congr 1
          simp
    · cases h
  · rename_i id off len sz'
    split at h
    · rename_i cs hcs
      split at h
      · rename_i hh
        obtain ⟨_, rfl, rfl, h4, h5⟩ := hh
        cases h
        obtain ⟨_, ho, c, ty2, fz, hb, _, hle, hc, _⟩ := hr.cells id cs hcs
        have hone : ∀ v ∈ (cs.drop off).take len, v.one = true := List.all_eq_true.1 h5
        obtain ⟨f1, f2⟩ := flat_ones hone
        have hl : ((cs.drop off).take len).length = len := by simp; omega
        cases hx with
        | sl _ _ _ _ cap a hn hcap hl2 _ =>
          by_cases h0 : 0 < cap
          · obtain ⟨rfl, _⟩ := hl2 _ hcs h0
            refine ⟨(c.toList.drop off).take len, fun w2 => by rw [hl]; simp [Builtin.lenOf], fun w2 hw => ?_, by rw [hl]; simp; omega, ?_, f2, by rw [f1]; exact hone⟩
            · have := loadCells_run (P := P) (w := w2) (n := len) (by rw [hw]; exact hb) (show off + len ≤ c.size by omega)
              simp only [Builtin.firstCells]
              rw [hl, Nat.mul_one]; exact this
            · rw [f1]
              have := (hc.drop off).take len
              rw [List.drop_take, List.take_take, Nat.min_eq_left (by omega)] at this
              exact this
          · have hlen : len = 0 := by omega
            subst hlen
            refine ⟨[], fun w2 => by simp [Builtin.lenOf], fun w2 hw => ?_, by simp, by simp [flat]; exact .nil, by simp, by simp [flat]⟩
            simp [Builtin.firstCells, loadCells, loadCellsFrom]
      · cases h
    · cases h
  · cases h

def A.app (sz : Nat) (s : V) (new : Option (List V)) (st : St) (K : V → St → Res) : Res :=
  match new with
  | some new => (match s with
    | .lst l t =>
      if l.length + new.length ≤ 1073741824 ∧ szok sz l then
        (match t with
         | 0 => none
         | 1 => K (.lst (l ++ new) (st.nt + 3)) (st.newTk sz)
         | 2 => K (.lst (l ++ new) (st.nt + 3)) (st.newTk sz)
         | t + 3 => if st.tk t = some sz then K (.lst (l ++ new) (st.nt + 3)) ((st.delTk t).newTk sz) else none)
      else none
    | _ => none)
  | none => none
/-- .. as an object whose elements may be written. -/
def A.appM (sz : Nat) (s : V) (new : Option (List V)) (st : St) (K : V → St → Res) : Res :=
  match new with
  | some new => (match s with
    | .lst l t => if l.length + new.length ≤ 1073741824 ∧ szok sz l ∧ (t = 1 ∨ t = 2) ∧ new ≠ [] then K (.sl st.n 0 (l.length + new.length) sz) (st.new (.cells (flat l ++ flat new))) else none
    | .sl id off len sz' => (match st.ob id with
      | some (.cells cs) => if len + new.length ≤ 1073741824 ∧ off = 0 ∧ sz' = sz ∧ len * sz ≤ cs.length ∧ (0 < len ∨ new ≠ []) ∧ (cs.take (len * sz)).all V.one = true then K (.sl st.n 0 (len + new.length) sz) ((st.del id).new (.cells (cs.take (len * sz) ++ flat new))) else none
      | _ => none)
    | _ => none)
  | none => none

/-- What the model's append does: there is room. -/
theorem app_in {P : Program} {w : World} {t u ty x0 : TypeId} {i : TypeInfo} {base : Option Addr} {n m cap : Nat} {x' : Value} {news : List Value} (hs : sle P t = some x0) (hi : P.info? x0 = some i) (hu : known P u = true) (hu2 : tk P u ≠ 2)
    (hl : (Builtin.lenOf x').run P w = .ok m w) (hf : (Builtin.firstCells i.size m x').run P w = .ok news.toArray w) (hc : n + m ≤ cap) :
    (Builtin.append_ #[t, u] ty #[.slice base n cap, x']).run P w = (match base with | some a => (storeCells (a.add (n * i.size)) news).run P w | none => .ok () w).andThen fun _ w' => .ok (.slice base (n + m) cap) w' := by
  obtain ⟨d, hd⟩ := known_under hu
  have hint : ∀ k, d ≠ .int k := by intro k hk; subst hk; exact hu2 (by simp [tk, hd])
  have hmatch : (match d with | .int _ => true | _ => false) = false := by cases d <;> first | rfl | exact absurd rfl (hint _)
  have h1 := run_under (P := P) (sle_some hs) w
  have h2 := run_under (P := P) hd w
  unfold Builtin.append_
  simp only [List.getElem?_toArray, List.getElem?_cons_zero, List.getElem?_cons_succ, Sem.run_bind, h1, h2, Result.andThen, sizeOf_run hi, Sem.run_pure, hl, hmatch]
  simp only [Bool.false_eq_true, if_false, Sem.run_pure, hl, Result.andThen, Bool.not_false, if_true, if_pos hc, Sem.run_bind, hf]
  cases base with
  | none => simp [Result.andThen]
  | some a => simp [Result.andThen]

/-- There is none: a new row. -/
theorem app_out {P : Program} {w : World} {t u ty x0 : TypeId} {i : TypeInfo} {z : Value} {base : Option Addr} {n m cap : Nat} {x' : Value} {olds news : List Value} (hs : sle P t = some x0) (hi : P.info? x0 = some i) (hz : i.zero = some z) (hu : known P u = true) (hu2 : tk P u ≠ 2)
    (hl : (Builtin.lenOf x').run P w = .ok m w) (hf : (Builtin.firstCells i.size m x').run P w.drew = .ok news.toArray w.drew) (ho : (Builtin.firstCells i.size n (.slice base n cap)).run P w.drew = .ok olds.toArray w.drew) (hc : cap < n + m) (hn : n + m ≤ 1073741824) (hb : i.bytes ≤ 65536) :
    ∃ c, n + m ≤ c ∧ (Builtin.append_ #[t, u] ty #[.slice base n cap, x']).run P w = .ok (.slice (some ⟨w.heap.size, 0, none⟩) (n + m) c) (w.drew.alloc (.cells (olds.toArray ++ news.toArray ++ Builtin.zeroCells z.cells (c - (n + m))) x0)) := by
  obtain ⟨d, hd⟩ := known_under hu
  have hint : ∀ k, d ≠ .int k := by intro k hk; subst hk; exact hu2 (by simp [tk, hd])
  have hmatch : (match d with | .int _ => true | _ => false) = false := by cases d <;> first | rfl | exact absurd rfl (hint _)
  have h1 := run_under (P := P) (sle_some hs) w
  have h2 := run_under (P := P) hd w
  have hnb : (n + m) * i.bytes ≤ 1073741824 * 65536 := Nat.mul_le_mul hn hb
  have hfit : ¬ (Builtin.nextslicecap (n + m) cap * i.bytes > 2 ^ 48) := by
    have := growslice_fits hc (show (n + m) * i.bytes ≤ 140737488355328 by omega); omega
  have h63 : ¬ (((n + m : Nat) : Int) > IntKind.i64.max ∧ (False ∨ i.bytes = 0)) := by
    simp only [IntKind.max, IntKind.signed, IntKind.bits]; simp; omega
  refine ⟨grownCap w (n + m) cap x0, ?_, ?_⟩
  · simp only [grownCap, Question.cut]; exact Nat.le_add_right _ _
  · unfold Builtin.append_
    simp only [List.getElem?_toArray, List.getElem?_cons_zero, List.getElem?_cons_succ, Sem.run_bind, h1, h2, Result.andThen, sizeOf_run hi, Sem.run_pure, hl, hmatch, typeInfo, run_program, hi]
    simp only [Bool.false_eq_true, if_false, Sem.run_pure, hl, Result.andThen, Bool.not_false, if_true, if_neg (show ¬ (n + m ≤ cap) by omega), Sem.run_bind, typeInfo, run_program, hi, if_neg h63, if_neg hfit, Sem.run_ite, run_choose, Question.forced, run_askRoom, zeroValue, hz, newRow, run_newObj]
    simp only [show ({ heap := w.heap, tape := w.tape, drawn := w.drawn + 1, os := w.os, output := w.output } : World) = w.drew from rfl, ho, hf]
    rfl
end Go.Ab
