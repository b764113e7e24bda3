import Derived.Test.YtimidokohhiacaaAbA09
/- sinew/token: signs, in plain words. -/
namespace Go.Ab
open Go.RowKit
set_option linter.unusedVariables false
set_option linter.unusedSimpArgs false
set_option maxRecDepth 100000
def partI (n : Int) : Bool := (decide ((48 : Int) ≤ n) && decide (n ≤ 57)) || ((decide ((97 : Int) ≤ n) && decide (n ≤ 122)) || (n == 45 || n == 58))
def partB (b : UInt8) : Bool := partI b.toNat
def blI (n : Int) : Bool := n == 32 || (n == 9 || n == 10)
def blB (b : UInt8) : Bool := blI b.toNat
def marksL : List UInt8 := [123, 125, 40, 41, 46, 47, 124, 42, 43, 63]
def runL (s : List UInt8) : List UInt8 := s.takeWhile partB
inductive LR where
  | ok (l : List Sg)
  | bad (k : Nat)
def LR.cons (x : Sg) (r : LR) : LR := match r with | .ok l => .ok (x :: l) | .bad k => .bad k
/-- The signs of what a text goes on with, from a place on. -/
def lex : Nat → Nat → List UInt8 → LR
  | 0, i, _ => .bad i
  | _ + 1, _, [] => .ok []
  | n + 1, i, b :: s =>
    if blB b = true then lex n (i + 1) s
    else if partB b = true then (if 16 < (runL (b :: s)).length then .bad i else (lex n (i + (runL (b :: s)).length) ((b :: s).drop (runL (b :: s)).length)).cons ⟨1, runL (b :: s), i⟩)
    else if b = 63 ∧ runL s ≠ [] then (if 16 < (runL s).length then .bad i else (lex n (i + (runL s).length + 1) (s.drop (runL s).length)).cons ⟨2, runL s, i⟩)
    else if marksL.contains b = true then (lex n (i + 1) s).cons ⟨3, [b], i⟩ else .bad i
def lexA (s : List UInt8) : LR := lex (s.length + 1) 0 s
theorem all256 {P : UInt8 → Prop} [DecidablePred P] (h : ((List.range 256).all fun n => decide (P n.toUInt8)) = true) (b : UInt8) : P b := by
  have := List.all_eq_true.1 h b.toNat (List.mem_range.2 (UInt8.toNat_lt b))
  simpa using this
theorem runL_le (s : List UInt8) : (runL s).length ≤ s.length := by
  unfold runL
  exact (List.takeWhile_prefix _).length_le
theorem runL_cons {b : UInt8} {s : List UInt8} (h : partB b = true) : runL (b :: s) = b :: runL s := by unfold runL; rw [List.takeWhile_cons, if_pos h]
theorem runL_no {b : UInt8} {s : List UInt8} (h : partB b = false) : runL (b :: s) = [] := by unfold runL; rw [List.takeWhile_cons, if_neg (by simp [h])]
theorem runL_part (s : List UInt8) : ∀ b ∈ runL s, partB b = true := fun b hb => by
  unfold runL at hb
  induction s with
  | nil => cases hb
  | cons a s ih =>
    rw [List.takeWhile_cons] at hb
    split at hb
    · rename_i ha
      rcases List.mem_cons.1 hb with rfl | g
      · exact ha
      · exact ih g
    · cases hb
theorem lex_ok {n i : Nat} {s : List UInt8} {l : List Sg} : ∀ (h : lex n i s = .ok l), ∀ x ∈ l, (x.k = 1 ∧ (∀ b ∈ x.tx, partB b = true) ∧ x.tx ≠ [] ∧ x.tx.length ≤ 16) ∨ (x.k = 2 ∧ (∀ b ∈ x.tx, partB b = true) ∧ x.tx ≠ [] ∧ x.tx.length ≤ 16) ∨ (x.k = 3 ∧ ∃ b, x.tx = [b] ∧ marksL.contains b = true) := by
  induction n generalizing i s l with
  | zero => intro h; cases h
  | succ n ih =>
    intro h
    have cons : ∀ {x : Sg} {r : LR}, r.cons x = .ok l → ∃ l', r = .ok l' ∧ l = x :: l' := by
      intro x r hr
      cases r with
      | ok l' => cases hr; exact ⟨l', rfl, rfl⟩
      | bad k => cases hr
    cases s with
    | nil => cases h; intro x hx; cases hx
    | cons b s =>
      rw [lex] at h
      split at h
      · exact ih h
      split at h
      · rename_i hb
        split at h
        · cases h
        · rename_i hl
          obtain ⟨l', h1, rfl⟩ := cons h
          intro x hx
          rcases List.mem_cons.1 hx with rfl | g
          · exact .inl ⟨rfl, runL_part _, by rw [runL_cons hb]; simp, by simpa using hl⟩
          · exact ih h1 x g
      split at h
      · rename_i hb
        split at h
        · cases h
        · rename_i hl
          obtain ⟨l', h1, rfl⟩ := cons h
          intro x hx
          rcases List.mem_cons.1 hx with rfl | g
          · exact .inr (.inl ⟨rfl, runL_part _, hb.2, by simpa using hl⟩)
          · exact ih h1 x g
      split at h
      · rename_i hm
        obtain ⟨l', h1, rfl⟩ := cons h
        intro x hx
        rcases List.mem_cons.1 hx with rfl | g
        · exact .inr (.inr ⟨rfl, b, rfl, hm⟩)
        · exact ih h1 x g
      · cases h
theorem lex_len {n i : Nat} {s : List UInt8} {l : List Sg} : ∀ (h : lex n i s = .ok l), l.length ≤ s.length := by
  induction n generalizing i s l with
  | zero => intro h; cases h
  | succ n ih =>
    intro h
    have cons : ∀ {x : Sg} {r : LR}, r.cons x = .ok l → ∃ l', r = .ok l' ∧ l = x :: l' := by
      intro x r hr
      cases r with
      | ok l' => cases hr; exact ⟨l', rfl, rfl⟩
      | bad k => cases hr
    cases s with
    | nil => cases h; exact Nat.le_refl _
    | cons b s =>
      have h1 := runL_le s
      rw [lex] at h
      split at h
      · have := ih h; simp only [List.length_cons]; omega
      split at h
      · rename_i hb
        split at h
        · cases h
        · obtain ⟨l', h1, rfl⟩ := cons h
          have := ih h1
          rw [runL_cons hb] at this
          simp at this ⊢; omega
      split at h
      · rename_i hb
        split at h
        · cases h
        · obtain ⟨l', h1, rfl⟩ := cons h
          have := ih h1
          simp at this ⊢; omega
      split at h
      · obtain ⟨l', h1, rfl⟩ := cons h
        have := ih h1
        simp only [List.length_cons]; omega
      · cases h
end Go.Ab
