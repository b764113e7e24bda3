import Derived.Test.YtimidokohhiacaaAbSimp
import Derived.ChangeSlices
import Derived.WideShapes
/- From a row's arguments to the engine's. -/
namespace Go.Ab
open Go.RowKit Go.ChangeShapes Go.WideShapes
set_option linter.unusedVariables false
set_option linter.unusedSimpArgs false

theorem rowAt_le {p : Program} {fits : TypeId → Bool} {d : Nat} {e : TypeId} {count off n : Nat} (h : rowAt p fits d e count off n = true) : off ≤ count * p.cellsOf e := by
  cases d with
  | zero => simp [rowAt] at h
  | succ d =>
    unfold rowAt at h
    by_cases hs : p.cellsOf e = 0
    · simp [hs] at h
    · have hpos : 0 < p.cellsOf e := Nat.pos_of_ne_zero hs
      have hd := Nat.div_add_mod off (p.cellsOf e)
      have hm := Nat.mod_lt off hpos
      simp only [hs, if_false, Bool.or_eq_true, Bool.and_eq_true] at h
      rcases h with h | h
      · have h1 : off % p.cellsOf e = 0 := by simpa using h.1.1
        have h2 : off / p.cellsOf e + n ≤ count := by simpa using h.1.2
        have := Nat.mul_le_mul_left (p.cellsOf e) (show off / p.cellsOf e ≤ count by omega)
        rw [Nat.mul_comm count]; omega
      · have h2 : off / p.cellsOf e < count := by simpa using h.1
        have := Nat.mul_le_mul_left (p.cellsOf e) (show off / p.cellsOf e + 1 ≤ count by omega)
        rw [Nat.mul_add] at this
        rw [Nat.mul_comm count]; omega
theorem liesAt_le {p : Program} : ∀ {d : Nat} {e : TypeId} {count off : Nat} {u : TypeId} {n : Nat}, liesAt p d e count off u n = true → off ≤ count * p.cellsOf e
  | 0, _, _, _, _, _, h => by simp [liesAt] at h
  | d + 1, e, count, off, u, n, h => by
    unfold liesAt at h
    simp only [Bool.or_eq_true] at h
    rcases h with h | h
    · exact rowAt_le h
    · split at h
      · exact liesAt_le h
      · cases h
theorem slice_block {P : Program} {W : World} {r : Reach} {base : Nat} {t e : TypeId} {a : Addr} {len cap : Nat} (ht : P.underlying t = some (.slice e)) (h : Value.okWide P W r base t (.slice (some a) len cap)) :
    a.spot = none ∧ ∃ c ty fz, W.heap[a.block]? = some (.cells c ty fz) ∧ a.off ≤ c.size := by
  simp only [Value.okWide, ht, Cell.okWide, Cell.ok] at h
  obtain ⟨_, _, _, hs, row, cells, h1, h2⟩ := h
  refine ⟨hs, ?_⟩
  unfold World.shape? at h1
  split at h1
  · rename_i c elem fz hb
    cases h1
    refine ⟨c, _, fz, hb, ?_⟩
    exact Nat.le_trans (liesAt_le h2) (Nat.div_mul_le_self _ _)
  · cases h1

/-- The state at a row's start: nothing is known but what stands. -/
def St0 : St := ⟨fun _ => none, 0, fun _ => none, 0⟩
def E0 (W : World) : E := ⟨St0, W, fun _ => 0, fun _ => none, fun b => match W.heap[b]? with | some (.cells c _ _) => c.size | _ => 0⟩
theorem rel0 (W : World) : Rel W W.heap.size (E0 W) := by
  refine ⟨Below.refl _ _, Nat.le_refl _, fun id cs h => (by cases h), fun id es h => (by cases h), fun id o h => (by cases h), fun i j o o' h => (by cases h), fun t s h => (by cases h), fun t s b k h => (by cases h), fun t t' s s' b k k' h => (by cases h), fun t s b k id o h => (by cases h), fun b c ty fz h => ?_, fun b h => ?_⟩
  · simp only [E0] at h ⊢; rw [h]; exact Nat.le_refl _
  · have h' : W.heap.size ≤ b := h
    simp only [E0]; rw [Array.getElem?_eq_none h']
theorem rs_ints (e : E) (k : IntKind) : ∀ xs : List Int, Rs e (xs.map fun x => .int k x) (xs.map fun x => .int k x)
  | [] => .nil
  | x :: xs => .int k x (rs_ints e k xs)
theorem flat_ints (xs : List Int) : flat (intsV xs) = intsV xs := by
  induction xs with
  | nil => rfl
  | cons x xs ih => simp only [flat, intsV, List.map_cons, List.flatMap_cons, cells_int] at ih ⊢; rw [ih]; rfl
/-- A row's slice of integers. -/
theorem ints_in {H : Type} {enc : TypeId × Value → H} {P : Program} {W : World} {base b0 : Nat} {spare : Nat → Bool} {held : Bool} {r : Reach} {t e : TypeId} {v : Value} {d : DataW H} {ps : List MemPlace}
    (ht : P.underlying t = some (.slice e)) (he : P.underlying e = some (.int .i64)) (hc : P.cellsOf e = 1) (hv : Value.okWide P W r b0 t v) (h : DataW.Trod enc P W base spare held t v d ps) :
    ∃ xs, Rs (E0 W) [.lst (intsV xs) 0] [v] := by
  obtain ⟨a, len, cap, rfl⟩ := okWide_slice ht hv
  obtain ⟨fuel, hf⟩ := h
  rcases open_ints ht he hc hf with ⟨hcs, _⟩ | ⟨x, l, c', zs, hcs, _, hl, hm, hz, _, hcell, _⟩
  · simp [Value.cells] at hcs
    obtain ⟨rfl, rfl, rfl⟩ := hcs
    exact ⟨[], .lst0 0 (by omega) .nil⟩
  · simp [Value.cells] at hcs
    obtain ⟨rfl, rfl, rfl⟩ := hcs
    obtain ⟨hs, c, ty, fz, hb, hoff⟩ := slice_block ht hv
    obtain ⟨blk, off, spot⟩ := x
    simp only at hs hb hoff
    subst hs
    have hlz : len ≤ zs.length := by rw [hz]; split <;> omega
    have at_ : ∀ i, i < len → c[off + i]? = some (.int .i64 (zs.getD i 0)) := by
      intro i hi
      have := hcell i (by omega)
      rw [Go.WideShapes.add_plain] at this
      simpa [World.cell?, hb] using this
    refine ⟨zs.take len, .lst _ 0 len cap blk off 1 c ty fz (by simp; omega) hl hb ?_ ?_ ?_ ?_ (by omega) (by omega) .nil⟩
    · intro w hw; obtain ⟨y, _, rfl⟩ := List.mem_map.1 hw; rfl
    · rw [flat_ints]; intro w hw; obtain ⟨y, _, rfl⟩ := List.mem_map.1 hw; rfl
    · have hfr : (E0 W).fr blk = c.size := by simp only [E0]; rw [hb]
      rw [hfr]
      by_cases h0 : len = 0
      · simp [h0]; exact hoff
      · have := (Array.getElem?_eq_some_iff.1 (at_ (len - 1) (by omega))).1
        omega
    · rw [flat_ints]
      have : (c.toList.drop off).take (len * 1) = (zs.take len).map fun x => .int .i64 x := by
        apply List.ext_getElem?
        intro i
        simp only [Nat.mul_one, List.getElem?_take, List.getElem?_map, List.getElem?_drop]
        by_cases hi : i < len
        · have := at_ i hi
          simp only [hi, if_true]
          rw [Array.getElem?_toList, this]
          simp [List.getD, List.getElem?_eq_getElem (show i < zs.length by omega)]
        · simp [hi]
      rw [this]
      exact rs_ints _ _ _
/-- A law's contract. -/
theorem bool_row {P : Program} {f : FuncId} {s : Fn} (hs : Sim P f s) (W : World) (args : List V) (cargs : Array Value) (st' : St) (h : s args St0 = some (.ret (.bool true), st')) (ha : Rs (E0 W) args cargs.toList) :
    Calls P f cargs W fun e w' => e = .returned (.bool true) ∧ Below W.heap.size W w' := by
  have := hs.run W W.heap.size (E0 W) args cargs _ _ h (rel0 W) ha
  refine this.mono fun en w' hh => ?_
  obtain ⟨e', _, rfl, _, hr, ho⟩ := hh
  refine ⟨?_, hr.below⟩
  obtain ⟨v', rfl, hv⟩ := ho
  cases hv
  rfl
end Go.Ab
