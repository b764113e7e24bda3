import Derived.Test.YtimidokohhiacaaAbN09h
/- sinewlaw09: QueryBatch, the row. -/
namespace Go.Ab
open Go.Proofs Go.RowKit
set_option linter.unusedVariables false
set_option linter.unusedSimpArgs false
set_option maxRecDepth 100000
theorem in_change {n : Nat} {x : V} (s : Sh Try.prog n 46 x.cells) (f : fit Try.prog 46 x) : ∃ c, x = chV c := by
  obtain ⟨cs, rfl⟩ := fit_ag f (isAg_of.2 (.inl ⟨_, Try.underlying46⟩))
  obtain ⟨k, h1, h2⟩ := s.struct Try.underlying46
  rw [cells_agg] at h1 h2
  have c46 : Try.prog.cellsOf 46 = 4 := by kernel_rfl
  have c44 : Try.prog.cellsOf 44 = 3 := by kernel_rfl
  have c4 : Try.prog.cellsOf 4 = 1 := by kernel_rfl
  have c9 : Try.prog.cellsOf 9 = 1 := by kernel_rfl
  rw [c46] at h1
  obtain ⟨a, b, c, d, rfl⟩ : ∃ a b c d, cs = [a, b, c, d] := by
    match cs, h1 with
    | [a, b, c, d], _ => exact ⟨a, b, c, d, rfl⟩
  have q0 := h2 ⟨ "Gone", 4, 0, false, "", "", 0⟩ (by simp)
  have q1 := h2 ⟨ "T", 44, 1, false, "", "", 8⟩ (by simp)
  simp only [c4, c44, List.drop_zero, List.drop_succ_cons, List.take_succ_cons, List.take_zero] at q0 q1
  obtain ⟨v, e0⟩ := q0.bool Try.underlying4
  obtain ⟨k2, g1, g2⟩ := q1.struct Try.underlying44
  have p0 := g2 ⟨ "S", 9, 0, false, "", "", 0⟩ (by simp)
  have p1 := g2 ⟨ "P", 9, 1, false, "", "", 16⟩ (by simp)
  have p2 := g2 ⟨ "O", 9, 2, false, "", "", 32⟩ (by simp)
  simp only [c9, List.drop_zero, List.drop_succ_cons, List.take_succ_cons, List.take_zero] at p0 p1 p2
  obtain ⟨s0, e1, _⟩ := p0.str Try.underlying9
  obtain ⟨s1, e2, _⟩ := p1.str Try.underlying9
  obtain ⟨s2, e3, _⟩ := p2.str Try.underlying9
  cases e0; cases e1; cases e2; cases e3
  exact ⟨⟨v, s0, s1, s2⟩, rfl⟩
theorem in_changes {n : Nat} {x : V} (s : Sh Try.prog n 26 x.cells) (f : fit Try.prog 26 x) : ∃ cs : List Chg, x = .lst (cs.map chV) 0 := by
  obtain ⟨l, m, rfl, h2, h3⟩ := in_slice s f Try.underlying26
  obtain ⟨cs, rfl, _⟩ := list_pick (g := chV) (Q := fun _ => True) (l := l) (fun v hv => by
    obtain ⟨c, r1⟩ := in_change (h3 v hv).1 (h3 v hv).2
    exact ⟨c, r1, trivial⟩)
  exact ⟨cs, rfl⟩
theorem queryBatch_row {W : World} {v0 : Value} {x0 : V} {n0 : Nat}
    (r0 : Rs (E0 W) [x0] [v0]) (s0 : Sh Try.prog n0 26 x0.cells) (f0 : fit Try.prog 26 x0) (hb : x0.bulk ≤ 1048576) :
    Calls Try.prog 8 #[v0] W fun e w' => e = .returned (.bool true) ∧ Below W.heap.size W w' := by
  obtain ⟨cs, rfl⟩ := in_changes s0 f0
  have hb' : bulkL (cs.map chV) + 1 ≤ 1048576 := hb
  have hcb : ∀ c : Chg, (chV c).bulk = 4 + c.s.length + c.p.length + c.o.length := fun c => by
    show bulkL (chC c) = _
    simp [chC, bulkL, V.bulk]; omega
  have hl := bulkL_len (cs.map chV) (fun v hv => by obtain ⟨c, _, rfl⟩ := List.mem_map.1 hv; rw [hcb]; omega)
  rw [List.length_map] at hl
  have hl2 : 4 * cs.length ≤ bulkL (cs.map chV) := by
    clear hb hb' hl r0 s0 f0
    induction cs with
    | nil => simp [bulkL]
    | cons c cs ih =>
      have := hcb c
      show 4 * (cs.length + 1) ≤ (chV c).bulk + bulkL (cs.map chV)
      omega
  obtain ⟨st', hs⟩ := batch_law cs (by omega) (fun c hc => by
    have h1 := bulkL_mem (List.mem_map_of_mem (f := chV) hc)
    have h2 := hcb c
    exact ⟨by omega, by omega, by omega⟩) St0
  exact bool_row sim8 W _ _ _ hs r0
end Go.Ab
