import Derived.Test.YtnnjfbbflfbcaaaAbForget
/- A call whose arguments' lists lose their tokens, one level deeper. -/
namespace Go.Ab
open Go.RowKit
set_option linter.unusedVariables false
set_option linter.unusedSimpArgs false

def V.er00 : V → V
  | .lst l _ => .lst (l.map V.er0) 0
  | v => v
/-- The rights to append are struck, within a struct's lists too. -/
def V.erD : V → V
  | .agg cs => .agg (cs.map V.er00)
  | v => v
theorem Rs.er0_cells {e : E} {v : V} {ws : List Value} (h : Rs e v.cells ws) : Rs e v.er0.cells ws := by
  cases v with
  | lst l t =>
    match ws, h with
    | [w], h => exact h.er0
    | [], h => cases h
    | a :: b :: c, h => have := h.length; simp [V.cells] at this
  | buf s t =>
    match ws, h with
    | [w], h => exact h.er0
    | [], h => cases h
    | a :: b :: c, h => have := h.length; simp [V.cells] at this
  | _ => exact h
theorem er0_clen (v : V) : v.er0.cells.length = v.cells.length := by cases v <;> rfl
theorem Rs.er0_flat {e : E} : ∀ {l : List V} {ws : List Value}, Rs e (flat l) ws → Rs e (flat (l.map V.er0)) ws
  | [], ws, h => h
  | v :: l, ws, h => by
    have h1 : Rs e v.cells (ws.take v.cells.length) := by
      have := h.take v.cells.length
      rwa [show flat (v :: l) = v.cells ++ flat l from rfl, List.take_left' rfl] at this
    have h2 : Rs e (flat l) (ws.drop v.cells.length) := by
      have := h.drop v.cells.length
      rwa [show flat (v :: l) = v.cells ++ flat l from rfl, List.drop_left' rfl] at this
    have := Rs.append h1.er0_cells (Rs.er0_flat h2)
    rwa [List.take_append_drop] at this
theorem er0_ones {l : List V} (h : ∀ v ∈ flat l, v.one = true) : ∀ v ∈ flat (l.map V.er0), v.one = true := by
  intro v hv
  obtain ⟨y, hy, hvy⟩ := List.mem_flatMap.1 hv
  obtain ⟨x, hx, rfl⟩ := List.mem_map.1 hy
  have hall : ∀ u ∈ x.cells, u.one = true := fun u hu => h u (List.mem_flatMap.2 ⟨x, hx, hu⟩)
  cases x <;> first
    | exact hall v hvy
    | (simp only [V.er0, V.cells, List.mem_singleton] at hvy; rw [hvy]; rfl)
theorem Rs.er00 {e : E} {v : V} {w : Value} (h : Rs e [v] [w]) : Rs e [v.er00] [w] := by
  cases v with
  | lst l t =>
    cases h with
    | lst0 t hb _ => exact .lst0 0 (by omega) .nil
    | lste t a ht _ => exact .lste 0 a ⟨by omega, by omega⟩ .nil
    | lst l t len cap b o sz c ty fz hlen hcap hb hsz ho hf hc hx ht _ =>
      refine .lst (l.map V.er0) 0 len cap b o sz c ty fz (by rw [List.length_map]; exact hlen) hcap hb ?_ (er0_ones ho) hf hc.er0_flat (by omega) (by omega) .nil
      intro v hv
      obtain ⟨x, hx, rfl⟩ := List.mem_map.1 hv
      rw [er0_clen]; exact hsz x hx
  | _ => exact h
theorem Rs.er00s {e : E} : ∀ {vs : List V} {ws : List Value}, Rs e vs ws → Rs e (vs.map V.er00) ws
  | [], [], _ => .nil
  | [], _ :: _, h => by cases h
  | _ :: _, [], h => by cases h
  | v :: vs, w :: ws, h => by simpa using Rs.cons h.both.1.er00 (Rs.er00s h.both.2)
theorem V.er00_one (v : V) : v.er00.one = v.one := by cases v <;> rfl
theorem Rs.erD {e : E} {v : V} {w : Value} (h : Rs e [v] [w]) : Rs e [v.erD] [w] := by
  cases v with
  | agg cs =>
    cases h with
    | agg cs A ho h1 _ =>
      refine .agg _ A ?_ h1.er00s .nil
      intro v hv
      obtain ⟨x, hx, rfl⟩ := List.mem_map.1 hv
      rw [V.er00_one]; exact ho x hx
  | _ => exact h
theorem Rs.erDs {e : E} : ∀ {vs : List V} {ws : List Value}, Rs e vs ws → Rs e (vs.map V.erD) ws
  | [], [], _ => .nil
  | [], _ :: _, h => by cases h
  | _ :: _, [], h => by cases h
  | v :: vs, w :: ws, h => by simpa using Rs.cons h.both.1.erD (Rs.erDs h.both.2)
/-- .. and the function is as good. -/
theorem Sim.deep {P : Program} {f : FuncId} {s : Fn} (h : Sim P f s) : Sim P f (fun args st => s (args.map V.erD) st) :=
  ⟨h.ok, fun W0 B e args cargs out st' hs hr ha => h.run W0 B e (args.map V.erD) cargs out st' hs hr ha.erDs⟩
end Go.Ab
