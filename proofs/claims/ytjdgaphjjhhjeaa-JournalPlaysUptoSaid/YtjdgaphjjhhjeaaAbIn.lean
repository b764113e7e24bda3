import Derived.Test.YtjdgaphjjhhjeaaAbRow
import Derived.OpenShut
/- From a row's arguments to the engine's, for all plain types: whole numbers, truth values, texts, slices, structs and arrays of such. -/
namespace Go.Ab
open Go.RowKit Go.ChangeShapes Go.WideShapes
set_option linter.unusedVariables false
set_option linter.unusedSimpArgs false

/-- A value of a type stands as one of that type does. -/
def fit (P : Program) (t : TypeId) (x : V) : Prop := if isAg P t then ∃ cs, x = .agg cs else x.cells = [x]
/-- The shape of a type's cells. -/
def Sh (P : Program) : Nat → TypeId → List V → Prop
  | 0, _, _ => False
  | n + 1, t, vs => match P.underlying t with
    | some .bool => ∃ b, vs = [.bool b]
    | some (.int k) => ∃ x, vs = [.int k x] ∧ (Lit.int k x).wf = true
    | some .string => ∃ s, vs = [.str s] ∧ s.length ≤ maxLen
    | some (.slice e) => ∃ l, vs = [.lst l 0] ∧ l.length ≤ maxLen ∧ ∀ v ∈ l, Sh P n e v.cells ∧ fit P e v
    | some (.struct fs) => vs.length = P.cellsOf t ∧ ∀ f ∈ fs.toList, Sh P n f.type ((vs.drop f.offset).take (P.cellsOf f.type))
    | some (.array m e) => vs.length = m * P.cellsOf e ∧ ∀ i, i < m → Sh P n e ((vs.drop (i * P.cellsOf e)).take (P.cellsOf e))
    | _ => False
def tiles (P : Program) : List Field → Nat → Nat → Bool
  | [], o, n => o == n
  | f :: fs, o, n => f.offset == o && tiles P fs (o + P.cellsOf f.type) n
/-- The types are plain, and have all of theirs. -/
def kids (P : Program) (ts : List TypeId) : Bool := ts.all fun t => match P.underlying t with
  | some .bool | some (.int _) | some .string => true
  | some (.slice e) => ts.contains e && P.cellsOf e != 0 && (isAg P e || P.cellsOf e == 1)
  | some (.struct fs) => tiles P fs.toList 0 (P.cellsOf t) && fs.toList.all fun f => ts.contains f.type
  | some (.array m e) => ts.contains e && P.cellsOf e != 0 && m * P.cellsOf e == P.cellsOf t
  | _ => false

theorem tiles_le {P : Program} : ∀ {fs : List Field} {o n : Nat}, tiles P fs o n = true → o ≤ n ∧ ∀ g ∈ fs, o ≤ g.offset
  | [], o, n, h => by simp [tiles] at h; exact ⟨by omega, by simp⟩
  | f :: fs, o, n, h => by
    simp only [tiles, Bool.and_eq_true, beq_iff_eq] at h
    obtain ⟨h1, h2⟩ := tiles_le h.2
    refine ⟨by omega, fun g hg => ?_⟩
    rcases List.mem_cons.1 hg with rfl | hg
    · omega
    · have := h2 g hg; omega
theorem tiles_in {P : Program} {e : E} {Q : Field → List V → Prop} : ∀ {fs : List Field} {o n : Nat} {cs : List Value}, tiles P fs o n = true → cs.length = n - o →
    (∀ f ∈ fs, ∃ vs, Rs e vs ((cs.drop (f.offset - o)).take (P.cellsOf f.type)) ∧ (∀ v ∈ vs, v.one = true) ∧ Q f vs) →
    ∃ vs, Rs e vs cs ∧ (∀ v ∈ vs, v.one = true) ∧ ∀ f ∈ fs, Q f ((vs.drop (f.offset - o)).take (P.cellsOf f.type))
  | [], o, n, cs, h, hl, _ => by
    simp [tiles] at h
    have : cs = [] := List.eq_nil_of_length_eq_zero (by omega)
    subst this
    exact ⟨[], .nil, by simp, by simp⟩
  | f :: fs, o, n, cs, h, hl, hq => by
    simp only [tiles, Bool.and_eq_true, beq_iff_eq] at h
    obtain ⟨ho, h⟩ := h
    obtain ⟨h1, h2⟩ := tiles_le h
    obtain ⟨v1, a1, a2, a3⟩ := hq f (by simp)
    rw [ho, Nat.sub_self, List.drop_zero] at a1
    obtain ⟨v2, b1, b2, b3⟩ := tiles_in (Q := Q) (cs := cs.drop (P.cellsOf f.type)) h (by rw [List.length_drop]; omega) (fun g hg => by
      obtain ⟨vs, c1, c2, c3⟩ := hq g (List.mem_cons_of_mem _ hg)
      have := h2 g hg
      rw [List.drop_drop, show P.cellsOf f.type + (g.offset - (o + P.cellsOf f.type)) = g.offset - o by omega]
      exact ⟨vs, c1, c2, c3⟩)
    have hv1 : v1.length = P.cellsOf f.type := by rw [a1.length, List.length_take]; omega
    refine ⟨v1 ++ v2, ?_, ?_, ?_⟩
    · have := Rs.append a1 b1; rwa [List.take_append_drop] at this
    · intro v hv; exact (List.mem_append.1 hv).elim (a2 v) (b2 v)
    · intro g hg
      rcases List.mem_cons.1 hg with rfl | hg
      · rw [ho, Nat.sub_self, List.drop_zero, ← hv1, List.take_left]; exact a3
      · have := h2 g hg
        have e1 : g.offset - o = v1.length + (g.offset - (o + P.cellsOf f.type)) := by omega
        rw [e1, List.drop_length_add_append]
        exact b3 g hg
/-- As many parts of one size. -/
theorem row_in {e : E} {Q : List V → Prop} {sz : Nat} {cs : List Value} : ∀ (m : Nat), m * sz ≤ cs.length → (∀ i, i < m → ∃ vs, Rs e vs ((cs.drop (i * sz)).take sz) ∧ (∀ v ∈ vs, v.one = true) ∧ Q vs) →
    ∃ vs, Rs e vs (cs.take (m * sz)) ∧ vs.length = m * sz ∧ (∀ v ∈ vs, v.one = true) ∧ ∀ i, i < m → Q ((vs.drop (i * sz)).take sz)
  | 0, _, _ => ⟨[], by simp; exact .nil, by simp, by simp, fun i hi => by omega⟩
  | m + 1, h, hq => by
    have hs : (m + 1) * sz = m * sz + sz := Nat.succ_mul _ _
    obtain ⟨v1, a1, a2, a3, a4⟩ := row_in m (by omega) (fun i hi => hq i (by omega))
    obtain ⟨v2, b1, b2, b3⟩ := hq m (by omega)
    have hv2 : v2.length = sz := by rw [b1.length, List.length_take, List.length_drop]; omega
    refine ⟨v1 ++ v2, ?_, by simp [a2, hv2, hs], ?_, ?_⟩
    · rw [hs, List.take_add]; exact Rs.append a1 b1
    · intro v hv; exact (List.mem_append.1 hv).elim (a3 v) (b2 v)
    · intro i hi
      by_cases h1 : i < m
      · have h2 : i * sz + sz ≤ m * sz := by rw [← Nat.succ_mul]; exact Nat.mul_le_mul_right _ h1
        rw [List.drop_append_of_le_length (by omega), List.take_append_of_le_length (by rw [List.length_drop]; omega)]
        exact a4 i h1
      · have : i = m := by omega
        subst this
        rw [← a2, List.drop_left, ← hv2, List.take_length]; exact b3
/-- An element out of its cells. -/
def mkEl (ag : Bool) (cs : List V) : V := if ag then .agg cs else cs.headD (.tup [])
theorem cells_of_one {v : V} (h : v.one = true) : v.cells = [v] := by cases v <;> first | rfl | cases h
theorem mkEl_cells {ag : Bool} {cs : List V} (h : ag = true ∨ cs.length = 1) (h1 : ∀ v ∈ cs, v.one = true) : (mkEl ag cs).cells = cs := by
  unfold mkEl
  by_cases ha : ag = true
  · rw [if_pos ha]; simp
  · rw [if_neg ha]
    obtain ⟨v, rfl⟩ := List.length_eq_one_iff.1 (h.resolve_left ha)
    exact cells_of_one (h1 v (by simp))
theorem chunks {sz : Nat} : ∀ (m : Nat) (vs : List V), vs.length = m * sz → (List.range m).flatMap (fun i => (vs.drop (i * sz)).take sz) = vs
  | 0, vs, h => by simp at h; simp [h]
  | m + 1, vs, h => by
    have hs : (m + 1) * sz = m * sz + sz := Nat.succ_mul _ _
    have ih := chunks (sz := sz) m (vs.take (m * sz)) (by rw [List.length_take]; omega)
    rw [List.range_succ, List.flatMap_append]
    have e1 : (List.range m).flatMap (fun i => (vs.drop (i * sz)).take sz) = (List.range m).flatMap (fun i => ((vs.take (m * sz)).drop (i * sz)).take sz) := by
      simp only [List.flatMap]
      congr 1
      apply List.map_congr_left
      intro i hi
      have : i < m := List.mem_range.1 hi
      have h2 : i * sz + sz ≤ m * sz := by rw [← Nat.succ_mul]; exact Nat.mul_le_mul_right _ this
      rw [List.drop_take, List.take_take, Nat.min_eq_left (by omega)]
    rw [e1, ih]
    simp only [List.flatMap_cons, List.flatMap_nil, List.append_nil]
    rw [List.take_of_length_le (l := vs.drop (m * sz)) (by simp; omega)]
    exact List.take_append_drop _ _

variable {H : Type} {enc : TypeId × Value → H} {P : Program} {W : World} {base : Nat} {held : Bool}
theorem cells?_at {a : Addr} {n : Nat} {cs : List Value} (h : W.cells? base a n = some cs) (hn : 0 < n) : a.spot = none ∧ ∃ c ty fz, W.heap[a.block]? = some (.cells c ty fz) ∧ a.off + n ≤ c.size ∧ cs = (c.toList.drop a.off).take n := by
  unfold World.cells? at h
  split at h
  case isFalse => cases h
  have hl : cs.length = n := by simpa using mapM_some_length h
  have each : ∀ i, i < n → W.cell? (a.add i) = cs[i]? := fun i hi => mapM_some_get h i i (by simp [hi])
  have h0 := each 0 hn
  rw [show a.add 0 = a from rfl] at h0
  unfold World.cell? at h0
  split at h0
  · rename_i c ty fz hb
    have hsp : a.spot = none := by
      cases hs : a.spot with
      | none => rfl
      | some x => rw [hs] at h0; simp at h0; rw [h0] at hl; simp at hl; omega
    have ea : ∀ i, a.add i = ⟨a.block, a.off + i, none⟩ := by
      intro i; unfold Addr.add; split
      · rename_i h; subst h; cases a; simp at hsp; subst hsp; rfl
      · rfl
    have ec : ∀ i, i < n → c[a.off + i]? = cs[i]? := by
      intro i hi
      have := each i hi
      rw [ea] at this
      simpa [World.cell?, hb] using this
    refine ⟨hsp, c, ty, fz, hb, ?_, ?_⟩
    · have := ec (n - 1) (by omega)
      rw [List.getElem?_eq_getElem (by omega)] at this
      have := (Array.getElem?_eq_some_iff.1 this).1
      omega
    · apply List.ext_getElem?
      intro i
      by_cases hi : i < n
      · rw [← ec i hi]; simp [hi]
      · rw [List.getElem?_eq_none (by omega), List.getElem?_eq_none (by simp; omega)]
  · rw [List.getElem?_eq_getElem (by omega)] at h0; cases h0

theorem isAg_of {t : TypeId} : isAg P t = true ↔ (∃ fs, P.underlying t = some (.struct fs)) ∨ ∃ n e, P.underlying t = some (.array n e) := by
  unfold isAg
  cases h : P.underlying t with
  | none => simp
  | some d => cases d <;> simp
theorem Sh.one {n : Nat} {t : TypeId} {vs : List V} (h : Sh P n t vs) (ha : isAg P t = false) : vs.length = 1 := by
  cases n with
  | zero => cases h
  | succ n =>
    unfold Sh at h
    split at h
    · obtain ⟨_, rfl⟩ := h; rfl
    · obtain ⟨_, rfl, _⟩ := h; rfl
    · obtain ⟨_, rfl, _⟩ := h; rfl
    · obtain ⟨_, rfl, _⟩ := h; rfl
    · rename_i hu; have := isAg_of.2 (.inl ⟨_, hu⟩); rw [ha] at this; cases this
    · rename_i hu; have := isAg_of.2 (.inr ⟨_, _, hu⟩); rw [ha] at this; cases this
    · cases h
theorem E0_fr {b : Nat} {c : Array Value} {ty : TypeId} {fz : Nat × Nat} (h : W.heap[b]? = some (.cells c ty fz)) : (E0 W).fr b = c.size := by simp only [E0]; rw [h]
/-- A row's cells, told. -/
theorem sh_in {ts : List TypeId} (hk : kids P ts = true) : ∀ (n : Nat) (t : TypeId) (cs : List Value) (x : DataW H × List MemPlace), t ∈ ts → DataW.trod enc P W base (fun _ => true) held n t cs = some x →
    ∃ vs, Rs (E0 W) vs cs ∧ (∀ v ∈ vs, v.one = true) ∧ Sh P n t vs := by
  intro n
  induction n with
  | zero => intro t cs x _ h; simp [DataW.trod] at h
  | succ n ih =>
    intro t cs x ht h
    have hkt := List.all_eq_true.1 hk t ht
    cases hu : P.underlying t with
    | none => rw [hu] at hkt; cases hkt
    | some d =>
      rw [hu] at hkt
      cases d with
      | bool =>
        obtain ⟨b, rfl, _⟩ := DataW.trod_bool hu h
        exact ⟨[.bool b], .bool b .nil, by simp, by unfold Sh; rw [hu]; exact ⟨b, rfl⟩⟩
      | int k =>
        obtain ⟨x, rfl, _, hw⟩ := DataW.trod_int hu h
        exact ⟨[.int k x], .int k x .nil, by simp, by unfold Sh; rw [hu]; exact ⟨x, rfl, hw⟩⟩
      | string =>
        obtain ⟨s, rfl, _, hs⟩ := DataW.trod_string hu h
        refine ⟨[.str s.data.toList], ?_, by simp, by unfold Sh; rw [hu]; exact ⟨_, rfl, by simpa using hs⟩⟩
        have : s = ⟨s.data.toList.toArray⟩ := by cases s; simp
        have q : Rs (E0 W) [.str s.data.toList] [.string ⟨s.data.toList.toArray⟩] := .str _ .nil
        rw [← this] at q; exact q
      | slice e =>
        simp only [Bool.and_eq_true, bne_iff_ne, ne_eq, Bool.or_eq_true, beq_iff_eq] at hkt
        obtain ⟨⟨he, hc0⟩, hag⟩ := hkt
        have he : e ∈ ts := by simpa using he
        have hpos : 0 < P.cellsOf e := Nat.pos_of_ne_zero hc0
        rcases DataW.trod_slice hu h with ⟨rfl, _⟩ | ⟨a, len, cap, elems, rest, n', hn, rfl, _, hb, hl, hm, hlen, hel, hsp, _⟩
        · exact ⟨[.lst [] 0], .lst0 0 (by omega) .nil, by simp, by unfold Sh; rw [hu]; exact ⟨[], rfl, by simp, by simp⟩⟩
        · cases hn
          obtain ⟨hrl, hre⟩ := hsp rfl
          by_cases hcap : cap = 0
          · subst hcap
            have : len = 0 := by omega
            subst this
            exact ⟨[.lst [] 0], .lste 0 a ⟨by omega, by omega⟩ .nil, by simp, by unfold Sh; rw [hu]; exact ⟨[], rfl, by simp, by simp⟩⟩
          · have each : ∀ i, i < cap → ∃ cs' y, W.cells? base (a.add (i * P.cellsOf e)) (P.cellsOf e) = some cs' ∧ DataW.trod enc P W base (fun _ => true) held n e cs' = some y := by
              intro i hi
              by_cases h1 : i < len
              · have := hel i h1
                rw [List.getElem?_eq_getElem (by omega)] at this
                obtain ⟨cs', q1, q2⟩ := Option.bind_eq_some_iff.1 this
                exact ⟨cs', _, q1, q2⟩
              · have := hre (i - len) (by omega)
                rw [List.getElem?_eq_getElem (by omega), show len + (i - len) = i by omega] at this
                obtain ⟨cs', q1, q2⟩ := Option.bind_eq_some_iff.1 this
                exact ⟨cs', _, q1, q2⟩
            obtain ⟨cs0, y0, z1, _⟩ := each 0 (by omega)
            rw [Nat.zero_mul, show a.add 0 = a from rfl] at z1
            obtain ⟨hspot, c, ty, fz, hbk, _, _⟩ := cells?_at z1 hpos
            have place : ∀ i, a.add i = ⟨a.block, a.off + i, none⟩ := by
              intro i; unfold Addr.add; split
              · rename_i h; subst h; cases a; simp at hspot; subst hspot; rfl
              · rfl
            have rd : ∀ i, i < cap → a.off + i * P.cellsOf e + P.cellsOf e ≤ c.size ∧ ∃ y, DataW.trod enc P W base (fun _ => true) held n e ((c.toList.drop (a.off + i * P.cellsOf e)).take (P.cellsOf e)) = some y := by
              intro i hi
              obtain ⟨cs', y, q1, q2⟩ := each i hi
              rw [place] at q1
              obtain ⟨_, c', ty', fz', q3, q4, q5⟩ := cells?_at q1 hpos
              simp only at q3 q4 q5
              rw [hbk] at q3; cases q3
              subst q5
              exact ⟨q4, y, q2⟩
            have hsize : a.off + len * P.cellsOf e ≤ c.size := by
              by_cases h0 : len = 0
              · subst h0; have := (rd 0 (by omega)).1; omega
              · have := (rd (len - 1) (by omega)).1
                have e1 : len * P.cellsOf e = (len - 1) * P.cellsOf e + P.cellsOf e := by rw [← Nat.succ_mul]; congr 1; omega
                omega
            obtain ⟨vs, r1, r2, r3, r4⟩ := row_in (e := E0 W) (Q := Sh P n e) (sz := P.cellsOf e) (cs := c.toList.drop a.off) len (by simp; omega) (fun i hi => by
              obtain ⟨_, y, q⟩ := rd i (by omega)
              rw [List.drop_drop]
              exact ih e _ y he q)
            have hch : ∀ i, i < len → ((vs.drop (i * P.cellsOf e)).take (P.cellsOf e)).length = P.cellsOf e := by
              intro i hi
              have : i * P.cellsOf e + P.cellsOf e ≤ len * P.cellsOf e := by rw [← Nat.succ_mul]; exact Nat.mul_le_mul_right _ hi
              rw [List.length_take, List.length_drop]; omega
            have hone : ∀ i, ∀ v ∈ (vs.drop (i * P.cellsOf e)).take (P.cellsOf e), v.one = true := fun i v hv => r3 v (List.mem_of_mem_drop (List.mem_of_mem_take hv))
            have hcl : ∀ i, i < len → (mkEl (isAg P e) ((vs.drop (i * P.cellsOf e)).take (P.cellsOf e))).cells = (vs.drop (i * P.cellsOf e)).take (P.cellsOf e) := by
              intro i hi
              refine mkEl_cells ?_ (hone i)
              rcases hag with g | g
              · exact .inl g
              · right; rw [hch i hi]; exact g
            have hflat : flat ((List.range len).map fun i => mkEl (isAg P e) ((vs.drop (i * P.cellsOf e)).take (P.cellsOf e))) = vs := by
              have := chunks (sz := P.cellsOf e) len vs r2
              refine Eq.trans ?_ this
              unfold flat
              rw [List.flatMap_map]
              simp only [List.flatMap]
              congr 1
              exact List.map_congr_left fun i hi => hcl i (List.mem_range.1 hi)
            refine ⟨[.lst ((List.range len).map fun i => mkEl (isAg P e) ((vs.drop (i * P.cellsOf e)).take (P.cellsOf e))) 0], ?_, by simp, ?_⟩
            · have ea : a = ⟨a.block, a.off, none⟩ := by cases a; simp at hspot; subst hspot; rfl
              rw [ea]
              refine .lst _ 0 len cap a.block a.off (P.cellsOf e) c ty fz (by simp) hl hbk ?_ ?_ ?_ ?_ (by omega) (by omega) .nil
              · intro v hv
                obtain ⟨i, hi, rfl⟩ := List.mem_map.1 hv
                have := List.mem_range.1 hi
                rw [hcl i this, hch i this]
              · rw [hflat]; exact r3
              · rw [E0_fr hbk]; exact hsize
              · rw [hflat]; exact r1
            · unfold Sh; rw [hu]
              refine ⟨_, rfl, by simp; omega, fun v hv => ?_⟩
              obtain ⟨i, hi, rfl⟩ := List.mem_map.1 hv
              have := List.mem_range.1 hi
              rw [hcl i this]
              refine ⟨r4 i this, ?_⟩
              unfold fit
              by_cases g : isAg P e = true
              · rw [if_pos g]; unfold mkEl; rw [if_pos g]; exact ⟨_, rfl⟩
              · rw [if_neg g, hcl i this]
                have h1 : P.cellsOf e = 1 := hag.resolve_left g
                have h2 := hch i this
                rw [h1] at h2
                obtain ⟨v, hv⟩ := List.length_eq_one_iff.1 h2
                rw [h1, hv]; unfold mkEl; rw [if_neg g]; rfl
      | struct fs =>
        simp only [Bool.and_eq_true] at hkt
        obtain ⟨htl, hall⟩ := hkt
        obtain ⟨xs, n', hn, _, hcs, hxs, hf⟩ := DataW.trod_struct hu h
        cases hn
        obtain ⟨vs, r1, r2, r3⟩ := tiles_in (e := E0 W) (Q := fun f vs => Sh P n f.type vs) (cs := cs) htl (by omega) (fun f hf' => by
          obtain ⟨i, hi, hif⟩ := List.mem_iff_getElem.1 hf'
          have hget : fs[i]? = some f := by rw [← hif]; simp at hi; simp [hi]
          have q := hf i f hget
          rw [List.getElem?_eq_getElem (by simp at hi; omega)] at q
          have hft : f.type ∈ ts := by have := List.all_eq_true.1 hall f hf'; simpa using this
          rw [Nat.sub_zero]
          exact ih f.type _ _ hft q)
        refine ⟨vs, r1, r2, ?_⟩
        unfold Sh; rw [hu]
        refine ⟨by rw [r1.length]; exact hcs, fun f hf' => ?_⟩
        have := r3 f hf'
        rwa [Nat.sub_zero] at this
      | array m e =>
        simp only [Bool.and_eq_true, bne_iff_ne, ne_eq, beq_iff_eq] at hkt
        obtain ⟨⟨he, hc0⟩, hme⟩ := hkt
        have he : e ∈ ts := by simpa using he
        obtain ⟨xs, n', hn, _, hcs, hxs, hf⟩ := DataW.trod_array hu h
        cases hn
        obtain ⟨vs, r1, r2, r3, r4⟩ := row_in (e := E0 W) (Q := Sh P n e) (sz := P.cellsOf e) (cs := cs) m (by omega) (fun i hi => by
          have q := hf i hi
          rw [List.getElem?_eq_getElem (by omega)] at q
          exact ih e _ _ he q)
        rw [List.take_of_length_le (by omega)] at r1
        refine ⟨vs, r1, r3, ?_⟩
        unfold Sh; rw [hu]
        exact ⟨r2, r4⟩
      | _ => cases hkt
/-- A row's argument. -/
theorem val_in {ts : List TypeId} (hk : kids P ts = true) {r : Reach} {b0 : Nat} {t : TypeId} {v : Value} {d : DataW H} {ps : List MemPlace} (ht : t ∈ ts) (hv : Value.okWide P W r b0 t v) (h : DataW.Trod enc P W base (fun _ => true) held t v d ps) :
    ∃ x n, Rs (E0 W) [x] [v] ∧ Sh P n t x.cells ∧ fit P t x := by
  obtain ⟨fuel, hf⟩ := h
  obtain ⟨vs, h1, h2, h3⟩ := sh_in hk fuel t _ _ ht hf
  by_cases ha : isAg P t = true
  · have : ∃ cs, v = .agg cs := by
      unfold Value.okWide at hv
      rcases isAg_of.1 ha with ⟨fs, hu⟩ | ⟨n, e, hu⟩ <;> rw [hu] at hv <;> obtain ⟨cs, rfl, _⟩ := hv <;> exact ⟨cs, rfl⟩
    obtain ⟨A, rfl⟩ := this
    refine ⟨.agg vs, fuel, .agg vs A h2 (by simpa [Value.cells] using h1) .nil, by simpa using h3, ?_⟩
    unfold fit; rw [if_pos ha]; exact ⟨_, rfl⟩
  · have hl := h3.one (by simpa using ha)
    obtain ⟨x, rfl⟩ := List.length_eq_one_iff.1 hl
    have hx := cells_of_one (h2 x (by simp))
    have hvc : v.cells.toList = [v] := by
      have := h1.length
      cases v with
      | agg A =>
        unfold Value.okWide at hv
        cases hu : P.underlying t with
        | none => rw [hu] at hv; simp [Cell.okWide, Cell.ok, hu] at hv
        | some d =>
          rw [hu] at hv
          cases d <;> first
            | (simp [Cell.okWide, Cell.ok, hu] at hv; done)
            | (exact absurd (isAg_of.2 (.inl ⟨_, hu⟩)) ha)
            | (exact absurd (isAg_of.2 (.inr ⟨_, _, hu⟩)) ha)
      | _ => simp [Value.cells]
    rw [hvc] at h1
    refine ⟨x, fuel, h1, by rw [hx]; exact h3, ?_⟩
    unfold fit; rw [if_neg ha]; exact hx
/-- What a shape says, type by type. -/
theorem Sh.int {n : Nat} {t : TypeId} {k : IntKind} {vs : List V} (h : Sh P n t vs) (hu : P.underlying t = some (.int k)) : ∃ x, vs = [.int k x] ∧ (Lit.int k x).wf = true := by
  cases n with
  | zero => cases h
  | succ n => unfold Sh at h; rw [hu] at h; exact h
theorem Sh.bool {n : Nat} {t : TypeId} {vs : List V} (h : Sh P n t vs) (hu : P.underlying t = some .bool) : ∃ b, vs = [.bool b] := by
  cases n with
  | zero => cases h
  | succ n => unfold Sh at h; rw [hu] at h; exact h
theorem Sh.str {n : Nat} {t : TypeId} {vs : List V} (h : Sh P n t vs) (hu : P.underlying t = some .string) : ∃ s, vs = [.str s] ∧ s.length ≤ maxLen := by
  cases n with
  | zero => cases h
  | succ n => unfold Sh at h; rw [hu] at h; exact h
theorem Sh.slice {n : Nat} {t e : TypeId} {vs : List V} (h : Sh P n t vs) (hu : P.underlying t = some (.slice e)) : ∃ l m, vs = [.lst l 0] ∧ l.length ≤ maxLen ∧ ∀ v ∈ l, Sh P m e v.cells ∧ fit P e v := by
  cases n with
  | zero => cases h
  | succ n => unfold Sh at h; rw [hu] at h; obtain ⟨l, a, b, c⟩ := h; exact ⟨l, n, a, b, c⟩
theorem Sh.struct {n : Nat} {t : TypeId} {fs : Array Field} {vs : List V} (h : Sh P n t vs) (hu : P.underlying t = some (.struct fs)) : ∃ m, vs.length = P.cellsOf t ∧ ∀ f ∈ fs.toList, Sh P m f.type ((vs.drop f.offset).take (P.cellsOf f.type)) := by
  cases n with
  | zero => cases h
  | succ n => unfold Sh at h; rw [hu] at h; exact ⟨n, h⟩
theorem Sh.array {n : Nat} {t e : TypeId} {m : Nat} {vs : List V} (h : Sh P n t vs) (hu : P.underlying t = some (.array m e)) : ∃ k, vs.length = m * P.cellsOf e ∧ ∀ i, i < m → Sh P k e ((vs.drop (i * P.cellsOf e)).take (P.cellsOf e)) := by
  cases n with
  | zero => cases h
  | succ n => unfold Sh at h; rw [hu] at h; exact ⟨n, h⟩
theorem fit_one {t : TypeId} {x : V} (h : fit P t x) (ha : isAg P t = false) : x.cells = [x] := by unfold fit at h; rwa [ha] at h
theorem fit_ag {t : TypeId} {x : V} (h : fit P t x) (ha : isAg P t = true) : ∃ cs, x = .agg cs := by unfold fit at h; rwa [if_pos ha] at h
/-- Choices, element by element. -/
theorem list_pick {α β : Type} {g : β → α} {Q : β → Prop} : ∀ {l : List α}, (∀ v ∈ l, ∃ y, v = g y ∧ Q y) → ∃ ys : List β, l = ys.map g ∧ ∀ y ∈ ys, Q y
  | [], _ => ⟨[], rfl, by simp⟩
  | v :: l, h => by
    obtain ⟨y, rfl, hy⟩ := h v (by simp)
    obtain ⟨ys, rfl, hs⟩ := list_pick (l := l) (fun w hw => h w (List.mem_cons_of_mem _ hw))
    exact ⟨y :: ys, rfl, by intro z hz; rcases List.mem_cons.1 hz with rfl | g; exact hy; exact hs z g⟩
theorem wf_i64 {x : Int} (h : (Lit.int .i64 x).wf = true) : -9223372036854775808 ≤ x ∧ x ≤ 9223372036854775807 := by
  simp [Lit.wf, IntKind.min, IntKind.max, IntKind.signed, IntKind.bits] at h; omega
end Go.Ab
