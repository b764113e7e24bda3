import Derived.Test.YtimidokohhiacaaAbN09a
/- sinewlaw09.QueryNames: all variables of a query, in their order. -/
namespace Go.Ab
open Go.Proofs Go.RowKit
set_option linter.unusedVariables false
set_option linter.unusedSimpArgs false
set_option maxRecDepth 100000
theorem in_term {n : Nat} {cs : List V} (s : Sh Try.prog n 63 cs) : ∃ v t, cs = [.bool v, .str t] := by
  obtain ⟨k, h1, h2⟩ := s.struct Try.underlying63
  have c63 : Try.prog.cellsOf 63 = 2 := by kernel_rfl
  have c4 : Try.prog.cellsOf 4 = 1 := by kernel_rfl
  have c9 : Try.prog.cellsOf 9 = 1 := by kernel_rfl
  rw [c63] at h1
  obtain ⟨a, b, rfl⟩ : ∃ a b, cs = [a, b] := by
    match cs, h1 with
    | [a, b], _ => exact ⟨a, b, rfl⟩
  have q0 := h2 ⟨ "Var", 4, 0, false, "", "", 0⟩ (by simp)
  have q1 := h2 ⟨ "Name", 9, 1, false, "", "", 8⟩ (by simp)
  simp only [c4, c9, List.drop_zero, List.drop_succ_cons, List.take_succ_cons, List.take_zero] at q0 q1
  obtain ⟨v, e0⟩ := q0.bool Try.underlying4
  obtain ⟨t, e1, _⟩ := q1.str Try.underlying9
  cases e0; cases e1
  exact ⟨v, t, rfl⟩
theorem in_path {n : Nat} {cs : List V} (s : Sh Try.prog n 61 cs) : ∃ k w l, cs = [.int .i64 k, .str w, .lst l 0] := by
  obtain ⟨k, h1, h2⟩ := s.struct Try.underlying61
  have c61 : Try.prog.cellsOf 61 = 3 := by kernel_rfl
  have c3 : Try.prog.cellsOf 3 = 1 := by kernel_rfl
  have c9 : Try.prog.cellsOf 9 = 1 := by kernel_rfl
  have c59 : Try.prog.cellsOf 59 = 1 := by kernel_rfl
  rw [c61] at h1
  obtain ⟨a, b, c, rfl⟩ : ∃ a b c, cs = [a, b, c] := by
    match cs, h1 with
    | [a, b, c], _ => exact ⟨a, b, c, rfl⟩
  have q0 := h2 ⟨ "Kind", 3, 0, false, "", "", 0⟩ (by simp)
  have q1 := h2 ⟨ "Word", 9, 1, false, "", "", 8⟩ (by simp)
  have q2 := h2 ⟨ "Kids", 59, 2, false, "", "", 24⟩ (by simp)
  simp only [c3, c9, c59, List.drop_zero, List.drop_succ_cons, List.take_succ_cons, List.take_zero] at q0 q1 q2
  obtain ⟨x, e0, _⟩ := q0.int Try.underlying3
  obtain ⟨t, e1, _⟩ := q1.str Try.underlying9
  obtain ⟨l, m, e2, _⟩ := q2.slice Try.underlying59
  cases e0; cases e1; cases e2
  exact ⟨x, t, l, rfl⟩
theorem in_atom {n : Nat} {x : V} (s : Sh Try.prog n 65 x.cells) (f : fit Try.prog 65 x) : ∃ a : Atm, x = .agg (atC a) ∧ True := by
  obtain ⟨cs, rfl⟩ := fit_ag f (isAg_of.2 (.inl ⟨_, Try.underlying65⟩))
  obtain ⟨k, h1, h2⟩ := s.struct Try.underlying65
  rw [cells_agg] at h1 h2
  have c65 : Try.prog.cellsOf 65 = 7 := by kernel_rfl
  have c63 : Try.prog.cellsOf 63 = 2 := by kernel_rfl
  have c61 : Try.prog.cellsOf 61 = 3 := by kernel_rfl
  rw [c65] at h1
  obtain ⟨a1, a2, p1, p2, p3, b1, b2, rfl⟩ : ∃ a1 a2 p1 p2 p3 b1 b2, cs = [a1, a2, p1, p2, p3, b1, b2] := by
    match cs, h1 with
    | [a1, a2, p1, p2, p3, b1, b2], _ => exact ⟨a1, a2, p1, p2, p3, b1, b2, rfl⟩
  have q0 := h2 ⟨ "S", 63, 0, false, "", "", 0⟩ (by simp)
  have q1 := h2 ⟨ "Path", 61, 2, false, "", "", 24⟩ (by simp)
  have q2 := h2 ⟨ "O", 63, 5, false, "", "", 72⟩ (by simp)
  simp only [c63, c61, List.drop_zero, List.drop_succ_cons, List.take_succ_cons, List.take_zero] at q0 q1 q2
  obtain ⟨sv, sn, e0⟩ := in_term q0
  obtain ⟨pk, pw, pl, e1⟩ := in_path q1
  obtain ⟨ov, on, e2⟩ := in_term q2
  cases e0; cases e1; cases e2
  exact ⟨⟨sv, sn, pk, pw, pl, 0, ov, on⟩, rfl, trivial⟩
theorem in_query {n : Nat} {x : V} (s : Sh Try.prog n 25 x.cells) (f : fit Try.prog 25 x) : ∃ vs l, x = .agg (qyC vs 0 l 0) ∧ l.length ≤ 9223372036854775807 := by
  obtain ⟨cs, rfl⟩ := fit_ag f (isAg_of.2 (.inl ⟨_, Try.underlying25⟩))
  obtain ⟨k, h1, h2⟩ := s.struct Try.underlying25
  rw [cells_agg] at h1 h2
  have c25 : Try.prog.cellsOf 25 = 2 := by kernel_rfl
  have c22 : Try.prog.cellsOf 22 = 1 := by kernel_rfl
  have c23 : Try.prog.cellsOf 23 = 1 := by kernel_rfl
  rw [c25] at h1
  obtain ⟨a, b, rfl⟩ : ∃ a b, cs = [a, b] := by
    match cs, h1 with
    | [a, b], _ => exact ⟨a, b, rfl⟩
  have q0 := h2 ⟨ "Vars", 22, 0, false, "", "", 0⟩ (by simp)
  have q1 := h2 ⟨ "Atoms", 23, 1, false, "", "", 24⟩ (by simp)
  simp only [c22, c23, List.drop_zero, List.drop_succ_cons, List.take_succ_cons, List.take_zero] at q0 q1
  obtain ⟨l0, m0, e0, g0, w0⟩ := q0.slice Try.underlying22
  obtain ⟨l1, m1, e1, g1, w1⟩ := q1.slice Try.underlying23
  cases e0; cases e1
  obtain ⟨vs, rfl, _⟩ := list_pick (g := V.str) (Q := fun _ => True) (l := l0) (fun v hv => by
    obtain ⟨y, r1, _⟩ := in_str (w0 v hv).1 (w0 v hv).2 Try.underlying9
    exact ⟨y, r1, trivial⟩)
  obtain ⟨l, rfl, _⟩ := list_pick (g := fun a => V.agg (atC a)) (Q := fun _ => True) (l := l1) (fun v hv => in_atom (w1 v hv).1 (w1 v hv).2)
  exact ⟨vs, l, rfl, by simpa [maxLen] using g1⟩
theorem queryNames_row {W : World} {v0 : Value} {x0 : V} {n0 : Nat}
    (r0 : Rs (E0 W) [x0] [v0]) (s0 : Sh Try.prog n0 25 x0.cells) (f0 : fit Try.prog 25 x0) :
    Calls Try.prog 6 #[v0] W fun e w' => e = .returned (.bool true) ∧ Below W.heap.size W w' := by
  obtain ⟨vs, l, rfl, h1⟩ := in_query s0 f0
  obtain ⟨st', hs⟩ := queryNames_law vs l h1 St0
  exact bool_row sim6 W _ _ _ hs r0
end Go.Ab
