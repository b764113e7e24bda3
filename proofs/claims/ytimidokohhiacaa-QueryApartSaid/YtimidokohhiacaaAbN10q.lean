import Derived.Test.YtimidokohhiacaaAbN10e
/- sinewlaw09: requests that are given. -/
namespace Go.Ab
open Go.Proofs Go.RowKit
set_option linter.unusedVariables false
set_option linter.unusedSimpArgs false
set_option maxRecDepth 100000
theorem box_rq (st : St) (r : Rq) (K : V → St → Res) : A.box (rqV r) st K = K (.ptr st.n 0) (st.new (.cells (rqC r))) := rfl
theorem er_rq (r : Rq) : (rqV r).er1 = rqV r := rfl
/-! requests that are given -/
def atWok (a : AtP) : Prop := a.s.n.length ≤ 9223372036854775807 ∧ a.p.wok ∧ a.o.n.length ≤ 9223372036854775807
def chWok (c : Chg) : Prop := c.s.length ≤ 9223372036854775807 ∧ c.p.length ≤ 9223372036854775807 ∧ c.o.length ≤ 9223372036854775807
def rqWok (r : Rq) : Prop := (∀ v ∈ r.vars, v.length ≤ 9223372036854775807) ∧ (∀ a ∈ r.atoms, atWok a) ∧ ∀ c ∈ r.ch, chWok c
theorem in_term2 {n : Nat} {cs : List V} (s : Sh Try.prog n 63 cs) : ∃ t : Tm, cs = [.bool t.v, .str t.n] ∧ t.n.length ≤ 9223372036854775807 := by
  obtain ⟨k, h1, h2⟩ := s.struct Try.underlying63
  have c63 : Try.prog.cellsOf 63 = 2 := by kernel_rfl
  have c4 : Try.prog.cellsOf 4 = 1 := by kernel_rfl
  have c9 : Try.prog.cellsOf 9 = 1 := by kernel_rfl
  rw [c63] at h1
  obtain ⟨a, b, rfl⟩ : ∃ a b, cs = [a, b] := by
    match cs, h1 with
    | [a, b], _ => exact ⟨a, b, rfl⟩
  have q0 := h2 ⟨ "Var", 4, 0, false, "", "", 0⟩ (by simp)
  have q1 := h2 ⟨ "Name", 9, 1, false, "", "", 8⟩ (by simp)
  simp only [c4, c9, List.drop_zero, List.drop_succ_cons, List.take_succ_cons, List.take_zero] at q0 q1
  obtain ⟨v, e0⟩ := q0.bool Try.underlying4
  obtain ⟨t, e1, ht⟩ := q1.str Try.underlying9
  cases e0; cases e1
  exact ⟨⟨v, t⟩, rfl, by simpa [maxLen] using ht⟩
theorem in_atp {n : Nat} {x : V} (s : Sh Try.prog n 65 x.cells) (f : fit Try.prog 65 x) : ∃ a : AtP, x = atpV a ∧ atWok a := by
  obtain ⟨cs, rfl⟩ := fit_ag f (isAg_of.2 (.inl ⟨_, Try.underlying65⟩))
  obtain ⟨k, h1, h2⟩ := s.struct Try.underlying65
  rw [cells_agg] at h1 h2
  have c65 : Try.prog.cellsOf 65 = 7 := by kernel_rfl
  have c63 : Try.prog.cellsOf 63 = 2 := by kernel_rfl
  have c61 : Try.prog.cellsOf 61 = 3 := by kernel_rfl
  rw [c65] at h1
  obtain ⟨a1, a2, p1, p2, p3, b1, b2, rfl⟩ : ∃ a1 a2 p1 p2 p3 b1 b2, cs = [a1, a2, p1, p2, p3, b1, b2] := by
    match cs, h1 with
    | [a1, a2, p1, p2, p3, b1, b2], _ => exact ⟨a1, a2, p1, p2, p3, b1, b2, rfl⟩
  have q0 := h2 ⟨ "S", 63, 0, false, "", "", 0⟩ (by simp)
  have q1 := h2 ⟨ "Path", 61, 2, false, "", "", 24⟩ (by simp)
  have q2 := h2 ⟨ "O", 63, 5, false, "", "", 72⟩ (by simp)
  simp only [c63, c61, List.drop_zero, List.drop_succ_cons, List.take_succ_cons, List.take_zero] at q0 q1 q2
  obtain ⟨t0, e0, w0⟩ := in_term2 q0
  obtain ⟨p, e1, w1⟩ := in_pth (.agg [p1, p2, p3]) k (by rw [cells_agg]; exact q1) (by unfold fit; rw [if_pos (isAg_of.2 (.inl ⟨_, Try.underlying61⟩))]; exact ⟨_, rfl⟩)
  obtain ⟨t2, e2, w2⟩ := in_term2 q2
  rw [pth_c] at e1
  cases e0; cases e2; cases e1
  exact ⟨⟨t0, p, t2⟩, rfl, w0, w1, w2⟩
theorem in_change2 {n : Nat} {x : V} (s : Sh Try.prog n 46 x.cells) (f : fit Try.prog 46 x) : ∃ c, x = chV c ∧ chWok c := by
  obtain ⟨cs, rfl⟩ := fit_ag f (isAg_of.2 (.inl ⟨_, Try.underlying46⟩))
  obtain ⟨k, h1, h2⟩ := s.struct Try.underlying46
  rw [cells_agg] at h1 h2
  have c46 : Try.prog.cellsOf 46 = 4 := by kernel_rfl
  have c44 : Try.prog.cellsOf 44 = 3 := by kernel_rfl
  have c4 : Try.prog.cellsOf 4 = 1 := by kernel_rfl
  have c9 : Try.prog.cellsOf 9 = 1 := by kernel_rfl
  rw [c46] at h1
  obtain ⟨a, b, c, d, rfl⟩ : ∃ a b c d, cs = [a, b, c, d] := by
    match cs, h1 with
    | [a, b, c, d], _ => exact ⟨a, b, c, d, rfl⟩
  have q0 := h2 ⟨ "Gone", 4, 0, false, "", "", 0⟩ (by simp)
  have q1 := h2 ⟨ "T", 44, 1, false, "", "", 8⟩ (by simp)
  simp only [c4, c44, List.drop_zero, List.drop_succ_cons, List.take_succ_cons, List.take_zero] at q0 q1
  obtain ⟨v, e0⟩ := q0.bool Try.underlying4
  obtain ⟨k2, g1, g2⟩ := q1.struct Try.underlying44
  have p0 := g2 ⟨ "S", 9, 0, false, "", "", 0⟩ (by simp)
  have p1 := g2 ⟨ "P", 9, 1, false, "", "", 16⟩ (by simp)
  have p2 := g2 ⟨ "O", 9, 2, false, "", "", 32⟩ (by simp)
  simp only [c9, List.drop_zero, List.drop_succ_cons, List.take_succ_cons, List.take_zero] at p0 p1 p2
  obtain ⟨s0, e1, w0⟩ := p0.str Try.underlying9
  obtain ⟨s1, e2, w1⟩ := p1.str Try.underlying9
  obtain ⟨s2, e3, w2⟩ := p2.str Try.underlying9
  cases e0; cases e1; cases e2; cases e3
  exact ⟨⟨v, s0, s1, s2⟩, rfl, by simpa [maxLen] using w0, by simpa [maxLen] using w1, by simpa [maxLen] using w2⟩
theorem in_request {n : Nat} {x : V} (s : Sh Try.prog n 28 x.cells) (f : fit Try.prog 28 x) : ∃ r : Rq, x = rqV r ∧ rqWok r := by
  obtain ⟨cs, rfl⟩ := fit_ag f (isAg_of.2 (.inl ⟨_, Try.underlying28⟩))
  obtain ⟨k, h1, h2⟩ := s.struct Try.underlying28
  rw [cells_agg] at h1 h2
  have c28 : Try.prog.cellsOf 28 = 4 := by kernel_rfl
  have c25 : Try.prog.cellsOf 25 = 2 := by kernel_rfl
  have c22 : Try.prog.cellsOf 22 = 1 := by kernel_rfl
  have c23 : Try.prog.cellsOf 23 = 1 := by kernel_rfl
  have c26 : Try.prog.cellsOf 26 = 1 := by kernel_rfl
  have c3 : Try.prog.cellsOf 3 = 1 := by kernel_rfl
  rw [c28] at h1
  obtain ⟨a, b, c, d, rfl⟩ : ∃ a b c d, cs = [a, b, c, d] := by
    match cs, h1 with
    | [a, b, c, d], _ => exact ⟨a, b, c, d, rfl⟩
  have q0 := h2 ⟨ "Kind", 3, 0, false, "", "", 0⟩ (by simp)
  have q1 := h2 ⟨ "Query", 25, 1, false, "", "", 8⟩ (by simp)
  have q2 := h2 ⟨ "Changes", 26, 3, false, "", "", 56⟩ (by simp)
  simp only [c3, c25, c26, List.drop_zero, List.drop_succ_cons, List.take_succ_cons, List.take_zero] at q0 q1 q2
  obtain ⟨kind, e0, _⟩ := q0.int Try.underlying3
  obtain ⟨k2, g1, g2⟩ := q1.struct Try.underlying25
  have p0 := g2 ⟨ "Vars", 22, 0, false, "", "", 0⟩ (by simp)
  have p1 := g2 ⟨ "Atoms", 23, 1, false, "", "", 24⟩ (by simp)
  simp only [c22, c23, List.drop_zero, List.drop_succ_cons, List.take_succ_cons, List.take_zero] at p0 p1
  obtain ⟨l0, m0, e1, _, w0⟩ := p0.slice Try.underlying22
  obtain ⟨l1, m1, e2, _, w1⟩ := p1.slice Try.underlying23
  obtain ⟨l2, m2, e3, _, w2⟩ := q2.slice Try.underlying26
  cases e0; cases e1; cases e2; cases e3
  obtain ⟨vs, rfl, hv⟩ := list_pick (g := V.str) (Q := fun v => v.length ≤ 9223372036854775807) (l := l0) (fun v hv => by
    obtain ⟨y, r1, r2⟩ := in_str (w0 v hv).1 (w0 v hv).2 Try.underlying9
    exact ⟨y, r1, by simpa [maxLen] using r2⟩)
  obtain ⟨ats, rfl, ha⟩ := list_pick (g := atpV) (Q := atWok) (l := l1) (fun v hv => in_atp (w1 v hv).1 (w1 v hv).2)
  obtain ⟨chs, rfl, hc⟩ := list_pick (g := chV) (Q := chWok) (l := l2) (fun v hv => in_change2 (w2 v hv).1 (w2 v hv).2)
  exact ⟨⟨kind, vs, ats, chs⟩, rfl, hv, ha, hc⟩
end Go.Ab
