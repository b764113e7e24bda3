import Derived.Test.YtjdgaphjjhhjeaaAbIn2
/- How many values and letters a row's argument has. -/
namespace Go.Ab
open Go.RowKit Go.ChangeShapes Go.WideShapes
set_option linter.unusedVariables false
set_option linter.unusedSimpArgs false

mutual
def bulkD {H : Type} : DataW H → Nat
  | .lit (.string bytes) => bytes.length + 1
  | .lit _ => 1
  | .nil => 1
  | .ptr d => bulkD d + 1
  | .slice elems spare => bulkDs elems + bulkDs spare + 1
  | .agg parts => bulkDs parts + 1
  | .iface _ d => bulkD d + 1
  | .map entries => bulkDe entries + 1
  | .held _ => 1
def bulkDs {H : Type} : List (DataW H) → Nat
  | [] => 0
  | d :: r => bulkD d + bulkDs r
def bulkDe {H : Type} : List (Lit × DataW H) → Nat
  | [] => 0
  | x :: r => bulkD1 x + bulkDe r
def bulkD1 {H : Type} : Lit × DataW H → Nat
  | (.string bytes, d) => bytes.length + bulkD d + 1
  | (_, d) => bulkD d + 1
end
mutual
def V.bulk : V → Nat
  | .str s => s.length + 1
  | .lst l _ => bulkL l + 1
  | .agg cs => bulkL cs
  | _ => 1
def bulkL : List V → Nat
  | [] => 0
  | v :: l => v.bulk + bulkL l
end
theorem bulkL_app (a b : List V) : bulkL (a ++ b) = bulkL a + bulkL b := by
  induction a with
  | nil => simp [bulkL]
  | cons x a ih => simp only [List.cons_append, bulkL, ih]; omega
theorem bulk_cells (v : V) : v.bulk = bulkL v.cells := by
  cases v <;> simp [V.cells, bulkL, V.bulk]
theorem bulkD_pos {H : Type} (d : DataW H) : 1 ≤ bulkD d := by
  cases d with
  | lit l => cases l <;> simp [bulkD]
  | _ => simp [bulkD]
theorem bulkL_len (l : List V) (h : ∀ v ∈ l, 1 ≤ v.bulk) : l.length ≤ bulkL l := by
  induction l with
  | nil => simp
  | cons x l ih =>
    have := h x (by simp)
    have := ih fun v hv => h v (List.mem_cons_of_mem _ hv)
    simp only [List.length_cons, bulkL]; omega
theorem bulkL_mem {l : List V} {v : V} (h : v ∈ l) : v.bulk ≤ bulkL l := by
  induction l with
  | nil => cases h
  | cons x l ih =>
    simp only [bulkL]
    rcases List.mem_cons.1 h with rfl | h
    · omega
    · have := ih h; omega

variable {H : Type} {enc : TypeId × Value → H} {P : Program} {W : World} {base : Nat} {held : Bool}
/-- Chunk by chunk. -/
theorem chunk_le {sz : Nat} : ∀ (l : List V) (ds : List (DataW H)), l.length = ds.length → (∀ (i : Nat) (v : V) (d : DataW H), l[i]? = some v → ds[i]? = some d → bulkL v.cells ≤ bulkD d) → bulkL l ≤ bulkDs ds
  | [], [], _, _ => by simp [bulkL, bulkDs]
  | [], _ :: _, h, _ => by simp at h
  | _ :: _, [], h, _ => by simp at h
  | v :: l, d :: ds, h, hq => by
    have h0 := hq 0 v d rfl rfl
    have := chunk_le (sz := sz) l ds (by simpa using h) (fun i v d h1 h2 => hq (i + 1) v d (by simpa using h1) (by simpa using h2))
    simp only [bulkL, bulkDs, bulk_cells v]; omega
theorem flat_chunk {sz : Nat} : ∀ (l : List V) (i : Nat) (v : V), (∀ v ∈ l, v.cells.length = sz) → l[i]? = some v → ((flat l).drop (i * sz)).take sz = v.cells
  | [], i, v, _, h => by simp at h
  | x :: l, 0, v, hs, h => by
    simp at h; subst h
    have := hs x (by simp)
    simp only [flat, List.flatMap_cons, Nat.zero_mul, List.drop_zero]
    rw [← this, List.take_left]
  | x :: l, i + 1, v, hs, h => by
    have hx := hs x (by simp)
    have := flat_chunk l i v (fun w hw => hs w (List.mem_cons_of_mem _ hw)) (by simpa using h)
    have e : flat (x :: l) = x.cells ++ flat l := rfl
    rw [e, show (i + 1) * sz = x.cells.length + i * sz by rw [hx, Nat.succ_mul]; omega, List.drop_length_add_append]
    exact this
theorem sum_fields : ∀ (fs : List Field) (o n : Nat) (vs : List V) (ds : List (DataW H)), tiles P fs o n = true → vs.length = n - o → fs.length = ds.length →
    (∀ (i : Nat) (f : Field) (d : DataW H), fs[i]? = some f → ds[i]? = some d → bulkL ((vs.drop (f.offset - o)).take (P.cellsOf f.type)) ≤ bulkD d) → bulkL vs ≤ bulkDs ds
  | [], o, n, vs, ds, ht, hl, _, _ => by
    simp [tiles] at ht
    have : vs = [] := List.eq_nil_of_length_eq_zero (by omega)
    subst this; simp [bulkL]
  | f :: fs, o, n, vs, [], _, _, hl, _ => by simp at hl
  | f :: fs, o, n, vs, d :: ds, ht, hl, hd, hq => by
    simp only [tiles, Bool.and_eq_true, beq_iff_eq] at ht
    obtain ⟨ho, ht⟩ := ht
    obtain ⟨h1, h2⟩ := tiles_le ht
    have h0 := hq 0 f d rfl rfl
    rw [ho, Nat.sub_self, List.drop_zero] at h0
    have := sum_fields fs (o + P.cellsOf f.type) n (vs.drop (P.cellsOf f.type)) ds ht (by rw [List.length_drop]; omega) (by simpa using hd) (fun i g d' q1 q2 => by
      have q := hq (i + 1) g d' (by simpa using q1) (by simpa using q2)
      have := h2 g (List.mem_of_getElem? q1)
      rw [List.drop_drop, show P.cellsOf f.type + (g.offset - (o + P.cellsOf f.type)) = g.offset - o by omega]
      exact q)
    have e : bulkL vs = bulkL (vs.take (P.cellsOf f.type)) + bulkL (vs.drop (P.cellsOf f.type)) := by rw [← bulkL_app, List.take_append_drop]
    simp only [bulkDs]; omega
theorem sum_arr (sz : Nat) : ∀ (m : Nat) (vs : List V) (ds : List (DataW H)), vs.length = m * sz → ds.length = m → (∀ (i : Nat) (d : DataW H), ds[i]? = some d → bulkL ((vs.drop (i * sz)).take sz) ≤ bulkD d) → bulkL vs ≤ bulkDs ds
  | 0, vs, ds, hl, _, _ => by
    have : vs = [] := List.eq_nil_of_length_eq_zero (by omega)
    subst this; simp [bulkL]
  | m + 1, vs, [], _, hd, _ => by simp at hd
  | m + 1, vs, d :: ds, hl, hd, hq => by
    have hs : (m + 1) * sz = m * sz + sz := Nat.succ_mul _ _
    have h0 := hq 0 d rfl
    rw [Nat.zero_mul, List.drop_zero] at h0
    have := sum_arr sz m (vs.drop sz) ds (by rw [List.length_drop]; omega) (by simpa using hd) (fun i d' q => by
      have := hq (i + 1) d' (by simpa using q)
      rw [List.drop_drop, show sz + i * sz = (i + 1) * sz by rw [Nat.succ_mul]; omega]
      exact this)
    have e : bulkL vs = bulkL (vs.take sz) + bulkL (vs.drop sz) := by rw [← bulkL_app, List.take_append_drop]
    simp only [bulkDs]; omega
theorem Sh.len {ts : List TypeId} (hk : kids P ts = true) {n : Nat} {t : TypeId} {vs : List V} (h : Sh P n t vs) (ht : t ∈ ts) (hc : isAg P t = true ∨ P.cellsOf t = 1) : vs.length = P.cellsOf t := by
  by_cases ha : isAg P t = true
  · have hkt := List.all_eq_true.1 hk t ht
    rcases isAg_of.1 ha with ⟨fs, hu⟩ | ⟨m, e, hu⟩
    · exact (h.struct hu).choose_spec.1
    · rw [hu] at hkt
      simp only [Bool.and_eq_true, bne_iff_ne, ne_eq, beq_iff_eq] at hkt
      rw [(h.array hu).choose_spec.1]; exact hkt.2
  · rw [h.one (by simpa using ha), hc.resolve_left ha]
/-- A row's cells are of no more bulk than what was read. -/
theorem bulk_in {ts : List TypeId} (hk : kids P ts = true) : ∀ (n : Nat) (t : TypeId) (cs : List Value) (x : DataW H × List MemPlace) (vs : List V) (m : Nat), t ∈ ts → DataW.trod enc P W base (fun _ => true) held n t cs = some x →
    Rs (E0 W) vs cs → Sh P m t vs → bulkL vs ≤ bulkD x.1 := by
  intro n
  induction n with
  | zero => intro t cs x vs m _ h; simp [DataW.trod] at h
  | succ n ih =>
    intro t cs x vs m ht h hr hs
    have hkt := List.all_eq_true.1 hk t ht
    cases hu : P.underlying t with
    | none => rw [hu] at hkt; cases hkt
    | some d =>
      rw [hu] at hkt
      cases d with
      | bool =>
        obtain ⟨b, rfl⟩ := hs.bool hu
        have := bulkD_pos x.1
        simpa [bulkL, V.bulk] using this
      | int k =>
        obtain ⟨y, rfl, _⟩ := hs.int hu
        have := bulkD_pos x.1
        simpa [bulkL, V.bulk] using this
      | string =>
        obtain ⟨s, rfl, _⟩ := hs.str hu
        obtain ⟨s', rfl, hx, _⟩ := DataW.trod_string hu h
        have : s'.data.toList = s := by cases hr; simp
        rw [hx]
        simp [bulkL, V.bulk, bulkD, this]
      | slice e =>
        simp only [Bool.and_eq_true, bne_iff_ne, ne_eq, Bool.or_eq_true, beq_iff_eq] at hkt
        obtain ⟨⟨he, hc0⟩, hag⟩ := hkt
        have he : e ∈ ts := by simpa using he
        have hpos : 0 < P.cellsOf e := Nat.pos_of_ne_zero hc0
        obtain ⟨l, m', rfl, _, hl⟩ := hs.slice hu
        by_cases hn : l = []
        · subst hn
          have := bulkD_pos x.1
          simpa [bulkL, V.bulk] using this
        have hsz : ∀ v ∈ l, v.cells.length = P.cellsOf e := fun v hv => (hl v hv).1.len hk he hag
        rcases DataW.trod_slice hu h with ⟨rfl, _⟩ | ⟨a, len, cap, elems, rest, n', hn', rfl, hx, hb, hle, hm, hlen, hel, hsp, _⟩
        · cases hr; exact absurd rfl hn
        · cases hn'
          cases hr with
          | lste t a ht _ => exact absurd rfl hn
          | lst l t len cap b o sz c ty fz hlen' hcap hbk hsz' ho hf hc hx' htk _ =>
            have e1 : sz = P.cellsOf e := by
              cases l with
              | nil => exact absurd rfl hn
              | cons v l => rw [← hsz' v (by simp), hsz v (by simp)]
            subst e1
            rw [hx]
            have : bulkL l ≤ bulkDs (elems.map (·.1)) := by
              refine chunk_le (sz := P.cellsOf e) l _ (by simp; omega) (fun i v d h1 h2 => ?_)
              rw [List.getElem?_map] at h2
              obtain ⟨y, h3, rfl⟩ := Option.map_eq_some_iff.1 h2
              have hi : i < len := by have := (List.getElem?_eq_some_iff.1 h1).1; omega
              have q := hel i hi
              rw [h3] at q
              obtain ⟨cs', q1, q2⟩ := Option.bind_eq_some_iff.1 q
              obtain ⟨_, c', ty', fz', q3, q4, q5⟩ := cells?_at q1 hpos
              have pl : (Addr.add ⟨b, o, none⟩ (i * P.cellsOf e)) = ⟨b, o + i * P.cellsOf e, none⟩ := by unfold Addr.add; split <;> first | rfl | simp_all
              rw [pl] at q3 q4 q5
              simp only at q3 q4 q5
              have hbk' : W.heap[b]? = some (.cells c ty fz) := hbk
              rw [hbk'] at q3; cases q3
              have r2 := Rs.take (P.cellsOf e) (Rs.drop (i * P.cellsOf e) hc)
              rw [flat_chunk l i v hsz h1] at r2
              have e2 : (((c.toList.drop o).take (len * P.cellsOf e)).drop (i * P.cellsOf e)).take (P.cellsOf e) = cs' := by
                have : i * P.cellsOf e + P.cellsOf e ≤ len * P.cellsOf e := by rw [← Nat.succ_mul]; exact Nat.mul_le_mul_right _ hi
                rw [q5, List.drop_take, List.take_take, Nat.min_eq_left (by omega), List.drop_drop]
              rw [e2] at r2
              exact ih e cs' y v.cells m' he q2 r2 (hl v (List.mem_of_getElem? h1)).1
            simp only [bulkL, V.bulk, bulkD]; omega
      | struct fs =>
        simp only [Bool.and_eq_true] at hkt
        obtain ⟨htl, hall⟩ := hkt
        obtain ⟨xs, n', hn, hx, hcs, hxs, hf⟩ := DataW.trod_struct hu h
        cases hn
        obtain ⟨m', g1, g2⟩ := hs.struct hu
        have := sum_fields (P := P) fs.toList 0 (P.cellsOf t) vs (xs.map (·.1)) htl (by omega) (by simp; omega) (fun i f d h1 h2 => by
          rw [List.getElem?_map] at h2
          obtain ⟨y, h3, rfl⟩ := Option.map_eq_some_iff.1 h2
          have q := hf i f (by simpa using h1)
          rw [h3] at q
          have hmem : f ∈ fs.toList := List.mem_of_getElem? h1
          have hft : f.type ∈ ts := by have := List.all_eq_true.1 hall f hmem; simpa using this
          rw [Nat.sub_zero]
          exact ih f.type _ y _ m' hft q (Rs.take _ (Rs.drop _ hr)) (g2 f hmem))
        rw [hx]; simp only [bulkD]; omega
      | array k e =>
        simp only [Bool.and_eq_true, bne_iff_ne, ne_eq, beq_iff_eq] at hkt
        obtain ⟨⟨he, hc0⟩, hme⟩ := hkt
        have he : e ∈ ts := by simpa using he
        obtain ⟨xs, n', hn, hx, hcs, hxs, hf⟩ := DataW.trod_array hu h
        cases hn
        obtain ⟨m', g1, g2⟩ := hs.array hu
        have := sum_arr (P.cellsOf e) k vs (xs.map (·.1)) g1 (by simp; omega) (fun i d h2 => by
          rw [List.getElem?_map] at h2
          obtain ⟨y, h3, rfl⟩ := Option.map_eq_some_iff.1 h2
          have hi : i < k := by have := (List.getElem?_eq_some_iff.1 h3).1; omega
          have q := hf i hi
          rw [h3] at q
          exact ih e _ y _ m' he q (Rs.take _ (Rs.drop _ hr)) (g2 i hi))
        rw [hx]; simp only [bulkD]; omega
      | _ => cases hkt
/-- A row's argument, and its bulk. -/
theorem val_inB {ts : List TypeId} (hk : kids P ts = true) {r : Reach} {b0 : Nat} {t : TypeId} {v : Value} {d : DataW H} {ps : List MemPlace} (ht : t ∈ ts) (hv : Value.okWide P W r b0 t v) (h : DataW.Trod enc P W base (fun _ => true) held t v d ps) :
    ∃ x n, Rs (E0 W) [x] [v] ∧ Sh P n t x.cells ∧ fit P t x ∧ x.bulk ≤ bulkD d := by
  obtain ⟨x, n, h1, h2, h3⟩ := val_in hk ht hv h
  refine ⟨x, n, h1, h2, h3, ?_⟩
  obtain ⟨fuel, hf⟩ := h
  rw [bulk_cells]
  exact bulk_in hk fuel t _ _ x.cells n ht hf h1.cells h2
end Go.Ab
