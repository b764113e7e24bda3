import Derived.Test.YtjdgaphjjhhjeaaAbIn
import Derived.Test.YtjdgaphjjhhjeaaAbSpec
/- A row's arguments: numbers, texts, lists of them. -/
namespace Go.Ab
open Go.RowKit
set_option linter.unusedVariables false
set_option linter.unusedSimpArgs false
variable {P : Program}
theorem notAg {t : TypeId} {d : TypeDesc} (h : P.underlying t = some d) (h2 : (match d with | .struct _ | .array _ _ => true | _ => false) = false) : isAg P t = false := by
  unfold isAg; rw [h]; cases d <;> simp_all
theorem in_int {n : Nat} {t : TypeId} {k : IntKind} {x : V} (s : Sh P n t x.cells) (f : fit P t x) (h : P.underlying t = some (.int k)) : ∃ a, x = .int k a ∧ (Lit.int k a).wf = true := by
  obtain ⟨a, h1, h2⟩ := s.int h
  rw [fit_one f (notAg h rfl)] at h1
  cases h1; exact ⟨a, rfl, h2⟩
theorem in_bool {n : Nat} {t : TypeId} {x : V} (s : Sh P n t x.cells) (f : fit P t x) (h : P.underlying t = some .bool) : ∃ a, x = .bool a := by
  obtain ⟨a, h1⟩ := s.bool h
  rw [fit_one f (notAg h rfl)] at h1
  cases h1; exact ⟨a, rfl⟩
theorem in_str {n : Nat} {t : TypeId} {x : V} (s : Sh P n t x.cells) (f : fit P t x) (h : P.underlying t = some .string) : ∃ a, x = .str a ∧ a.length ≤ 9223372036854775807 := by
  obtain ⟨a, h1, h2⟩ := s.str h
  rw [fit_one f (notAg h rfl)] at h1
  cases h1; exact ⟨a, rfl, h2⟩
theorem in_slice {n : Nat} {t e : TypeId} {x : V} (s : Sh P n t x.cells) (f : fit P t x) (h : P.underlying t = some (.slice e)) : ∃ l m, x = .lst l 0 ∧ l.length ≤ 9223372036854775807 ∧ ∀ v ∈ l, Sh P m e v.cells ∧ fit P e v := by
  obtain ⟨l, m, h1, h2, h3⟩ := s.slice h
  rw [fit_one f (notAg h rfl)] at h1
  cases h1; exact ⟨l, m, rfl, h2, h3⟩
theorem in_ints {n : Nat} {t e : TypeId} {x : V} (s : Sh P n t x.cells) (f : fit P t x) (h : P.underlying t = some (.slice e)) (he : P.underlying e = some (.int .i64)) : ∃ xs, x = .lst (intsV xs) 0 ∧ xs.length ≤ 9223372036854775807 ∧ ∀ y ∈ xs, -9223372036854775808 ≤ y ∧ y ≤ 9223372036854775807 := by
  obtain ⟨l, m, rfl, h2, h3⟩ := in_slice s f h
  obtain ⟨xs, rfl, h4⟩ := list_pick (g := fun x => V.int .i64 x) (Q := fun y => -9223372036854775808 ≤ y ∧ y ≤ 9223372036854775807) (l := l) (fun v hv => by
    obtain ⟨a, q1, q2⟩ := in_int (h3 v hv).1 (h3 v hv).2 he
    exact ⟨a, q1, wf_i64 q2⟩)
  exact ⟨xs, rfl, by simpa using h2, h4⟩
theorem in_strs {n : Nat} {t e : TypeId} {x : V} (s : Sh P n t x.cells) (f : fit P t x) (h : P.underlying t = some (.slice e)) (he : P.underlying e = some .string) : ∃ xs, x = .lst (strsV xs) 0 ∧ xs.length ≤ 9223372036854775807 ∧ ∀ y ∈ xs, y.length ≤ 9223372036854775807 := by
  obtain ⟨l, m, rfl, h2, h3⟩ := in_slice s f h
  obtain ⟨xs, rfl, h4⟩ := list_pick (g := V.str) (Q := fun y => y.length ≤ 9223372036854775807) (l := l) (fun v hv => in_str (h3 v hv).1 (h3 v hv).2 he)
  exact ⟨xs, rfl, by simpa using h2, h4⟩
theorem in_intss {n : Nat} {t e e' : TypeId} {x : V} (s : Sh P n t x.cells) (f : fit P t x) (h : P.underlying t = some (.slice e)) (he : P.underlying e = some (.slice e')) (he' : P.underlying e' = some (.int .i64)) : ∃ xs, x = .lst (intssV xs) 0 ∧ xs.length ≤ 9223372036854775807 ∧ ∀ y ∈ xs, y.length ≤ 9223372036854775807 := by
  obtain ⟨l, m, rfl, h2, h3⟩ := in_slice s f h
  obtain ⟨xs, rfl, h4⟩ := list_pick (g := fun l => V.lst (intsV l) 0) (Q := fun y => y.length ≤ 9223372036854775807) (l := l) (fun v hv => by
    obtain ⟨a, q1, q2, _⟩ := in_ints (h3 v hv).1 (h3 v hv).2 he he'
    exact ⟨a, q1, q2⟩)
  exact ⟨xs, rfl, by simpa using h2, h4⟩
theorem in_arr2 {n : Nat} {t e : TypeId} {x : V} (s : Sh P n t x.cells) (f : fit P t x) (h : P.underlying t = some (.array 2 e)) (he : P.underlying e = some (.int .i64)) (hc : P.cellsOf e = 1) : ∃ a b, x = .agg [.int .i64 a, .int .i64 b] ∧ (-9223372036854775808 ≤ a ∧ a ≤ 9223372036854775807) ∧ -9223372036854775808 ≤ b ∧ b ≤ 9223372036854775807 := by
  obtain ⟨cs, rfl⟩ := fit_ag f (isAg_of.2 (.inr ⟨_, _, h⟩))
  obtain ⟨k, h1, h2⟩ := s.array h
  rw [cells_agg] at h1 h2
  rw [hc] at h1 h2
  have h3 := h2 0 (by omega)
  have h4 := h2 1 (by omega)
  obtain ⟨x, y, rfl⟩ : ∃ x y, cs = [x, y] := by
    match cs, h1 with
    | [x, y], _ => exact ⟨x, y, rfl⟩
  simp at h3 h4
  obtain ⟨a, q1, q2⟩ := h3.int he
  obtain ⟨b, q3, q4⟩ := h4.int he
  cases q1; cases q3
  exact ⟨a, b, rfl, wf_i64 q2, wf_i64 q4⟩
end Go.Ab
