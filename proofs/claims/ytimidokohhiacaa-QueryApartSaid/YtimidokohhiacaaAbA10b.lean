import Derived.Test.YtimidokohhiacaaAbA09p
import Derived.Test.YtimidokohhiacaaAbA10p
import Derived.Test.YtimidokohhiacaaAbN10a
/- sinew/query: paths as text, and as signs. -/
namespace Go.Ab
open Go.RowKit
set_option linter.unusedVariables false
set_option linter.unusedSimpArgs false
def tlL {α : Type} (sep : List α) : List (List α) → List α
  | [] => []
  | t :: ts => sep ++ (t ++ tlL sep ts)
def joinL {α : Type} (sep : List α) : List (List α) → List α
  | [] => []
  | t :: ts => t ++ tlL sep ts
structure Rend (α : Type) where
  word : List UInt8 → List α
  mark : UInt8 → α
def sgnB (k : Int) : UInt8 := if k = 4 then 42 else if k = 5 then 43 else 63
/-- Does a kid stand in brackets? -/
def wrap (m k : Int) : Bool := if m = 3 then k == 3 else if m = 2 then k == 3 || k == 2 else k != 1
def brk {α : Type} (R : Rend α) (b : Bool) (t : List α) : List α := if b = true then R.mark 40 :: (t ++ [R.mark 41]) else t
def Pth.rend {α : Type} (R : Rend α) : Pth → List α
  | .mk k w l => if k = 1 then R.word w else if k = 3 then joinL [R.mark 124] (rends R 3 l) else if k = 2 then joinL [R.mark 47] (rends R 2 l) else (rends R 4 l).headD [] ++ [R.mark (sgnB k)]
where rends {α : Type} (R : Rend α) (m : Int) : List Pth → List (List α)
  | [] => []
  | p :: l => brk R (wrap m p.kind) (p.rend R) :: rends R m l
abbrev Pth.rends {α : Type} := @Pth.rend.rends α
def kidR {α : Type} (R : Rend α) (m : Int) (p : Pth) : List α := brk R (wrap m p.kind) (p.rend R)
theorem rend_eq {α : Type} (R : Rend α) (k : Int) (w : List UInt8) (l : List Pth) : (Pth.mk k w l).rend R = if k = 1 then R.word w else if k = 3 then joinL [R.mark 124] (Pth.rends R 3 l) else if k = 2 then joinL [R.mark 47] (Pth.rends R 2 l) else (Pth.rends R 4 l).headD [] ++ [R.mark (sgnB k)] := rfl
theorem rends_map {α : Type} (R : Rend α) (m : Int) : ∀ l : List Pth, Pth.rends R m l = l.map (kidR R m)
  | [] => rfl
  | p :: l => by show kidR R m p :: Pth.rends R m l = _; rw [rends_map R m l]; rfl
/-- As text; as signs. -/
def RT : Rend UInt8 := ⟨id, id⟩
def RK : Rend Sg := ⟨fun w => [⟨1, w, 0⟩], fun b => ⟨3, [b], 0⟩⟩
abbrev Pth.text (p : Pth) : List UInt8 := p.rend RT
abbrev Pth.tk (p : Pth) : List Sg := p.rend RK
/-- Has a path kids as its kinds want them, and words? -/
def Pth.shP : Pth → Bool
  | .mk k w l => if k = 1 then l.isEmpty && isWord w else shape1 k w l.length && shPl l
where shPl : List Pth → Bool
  | [] => true
  | p :: l => p.shP && shPl l
abbrev Pth.shPl := Pth.shP.shPl
theorem shP_eq (k : Int) (w : List UInt8) (l : List Pth) : (Pth.mk k w l).shP = if k = 1 then l.isEmpty && isWord w else shape1 k w l.length && Pth.shPl l := rfl
theorem shPl_all : ∀ l : List Pth, Pth.shPl l = l.all Pth.shP
  | [] => rfl
  | p :: l => by show (p.shP && Pth.shPl l) = _; rw [shPl_all l]; rfl
/-- The kinds of a path that is well. -/
theorem shP_cases {k : Int} {w : List UInt8} {l : List Pth} (h : (Pth.mk k w l).shP = true) : (k = 1 ∧ l = [] ∧ isWord w = true) ∨ ((k = 2 ∨ k = 3) ∧ w = [] ∧ 2 ≤ l.length ∧ ∀ p ∈ l, p.shP = true) ∨ ((k = 4 ∨ k = 5 ∨ k = 6) ∧ w = [] ∧ ∃ q, l = [q] ∧ q.shP = true) := by
  rw [shP_eq] at h
  by_cases hk : k = 1
  · rw [if_pos hk, Bool.and_eq_true, List.isEmpty_iff] at h
    exact .inl ⟨hk, h⟩
  · rw [if_neg hk, Bool.and_eq_true, shPl_all, List.all_eq_true] at h
    obtain ⟨h1, h2⟩ := h
    unfold shape1 at h1
    simp only [Bool.and_eq_true, Bool.or_eq_true, beq_iff_eq, decide_eq_true_eq] at h1
    obtain ⟨h1 | h1, h3⟩ := h1
    · exact .inr (.inl ⟨h1.1, h3, h1.2, h2⟩)
    · obtain ⟨h1, h4⟩ := h1
      match l, h4 with
      | [q], _ => exact .inr (.inr ⟨h1, h3, q, rfl, h2 q (by simp)⟩)
mutual
theorem fits_iff : ∀ (p : Pth) (d : Nat) (left x : Int), 0 ≤ left → (p.fitsP d left = some x ↔ p.shP = true ∧ (p.pl : Int) ≤ left ∧ p.sz.2 ≤ d ∧ x = left - p.pl)
  | .mk k w l, d, left, x, h0 => by
    rw [fits_eq, shP_eq, pl_eq, sz_eq]
    by_cases hk : k = 1
    · rw [if_pos hk, if_pos hk, if_pos hk, Bool.and_eq_true, List.isEmpty_iff]
      simp only
      constructor
      · intro h
        split at h
        · rename_i hc
          obtain ⟨c1, c2, c3, c4⟩ := hc
          have hl : l = [] := List.length_eq_zero_iff.1 c2
          subst hl
          cases h
          exact ⟨⟨rfl, c3⟩, by omega, by rw [szl_nil]; simp only; omega, rfl⟩
        · cases h
      · rintro ⟨⟨rfl, h2⟩, h3, h4, rfl⟩
        rw [szl_nil] at h4
        simp only at h4
        rw [if_pos ⟨by omega, rfl, h2, by omega⟩]
        rfl
    · rw [if_neg hk, if_neg hk, if_neg hk, Bool.and_eq_true]
      simp only
      have ih := fitsL_iff l (d - 1) left x h0
      by_cases hs : shape1 k w l.length = true ∧ 0 < d
      · rw [if_pos hs, ih]
        constructor
        · rintro ⟨a, b, c, e⟩; exact ⟨⟨hs.1, a⟩, b, by omega, e⟩
        · rintro ⟨⟨_, a⟩, b, c, e⟩; exact ⟨a, b, by omega, e⟩
      · rw [if_neg hs]
        constructor
        · intro h; cases h
        · rintro ⟨⟨a, _⟩, _, c, _⟩; exact absurd ⟨a, by omega⟩ hs
theorem fitsL_iff : ∀ (l : List Pth) (d : Nat) (left x : Int), 0 ≤ left → (Pth.fitsL l d left = some x ↔ Pth.shPl l = true ∧ (Pth.pll l : Int) ≤ left ∧ (Pth.szl l).2 ≤ d ∧ x = left - Pth.pll l)
  | [], d, left, x, h0 => by
    rw [fitsL_nil, szl_nil, pll_nil]
    constructor
    · intro h; cases h; exact ⟨rfl, by omega, Nat.zero_le _, by omega⟩
    · rintro ⟨_, _, _, rfl⟩; simp
  | p :: l, d, left, x, h0 => by
    rw [fitsL_cons, szl_cons, pll_cons]
    show _ ↔ (p.shP && Pth.shPl l) = true ∧ _
    rw [Bool.and_eq_true]
    simp only
    cases hp : p.fitsP d left with
    | none =>
      constructor
      · intro h; cases h
      · rintro ⟨⟨a, b⟩, c, e, f⟩
        have := (fits_iff p d left (left - p.pl) h0).2 ⟨a, by omega, by omega, rfl⟩
        rw [hp] at this; cases this
    | some y =>
      obtain ⟨g1, g2, g3, g4⟩ := (fits_iff p d left y h0).1 hp
      have ih := fitsL_iff l d y x (by omega)
      show Pth.fitsL l d y = some x ↔ _
      rw [ih]
      constructor
      · rintro ⟨a, b, c, e⟩; exact ⟨⟨g1, a⟩, by omega, by omega, by omega⟩
      · rintro ⟨⟨_, a⟩, b, c, e⟩; exact ⟨a, by omega, by omega, by omega⟩
end
theorem fits_some (p : Pth) : (p.fitsP 12 24).isSome = true ↔ p.shP = true ∧ p.pl ≤ 24 ∧ p.sz.2 ≤ 12 := by
  rw [Option.isSome_iff_exists]
  constructor
  · rintro ⟨x, h⟩
    obtain ⟨a, b, c, _⟩ := (fits_iff p 12 24 x (by omega)).1 h
    exact ⟨a, by omega, c⟩
  · rintro ⟨a, b, c⟩
    exact ⟨_, (fits_iff p 12 24 (24 - p.pl) (by omega)).2 ⟨a, by omega, c, rfl⟩⟩
/-! how long -/
mutual
theorem text_len : ∀ p : Pth, p.shP = true → p.text.length + 3 ≤ 20 * p.nd
  | .mk k w l, h => by
    rw [Pth.text, rend_eq, nd_eq]
    rcases shP_cases h with ⟨rfl, rfl, hw⟩ | ⟨hk, rfl, hl, hq⟩ | ⟨hk, rfl, q, rfl, hq⟩
    · rw [if_pos rfl, ndl_nil]
      have := (isWord_some hw).2.1
      show w.length + 3 ≤ _; omega
    · have hk1 : k ≠ 1 := by rcases hk with rfl | rfl <;> decide
      rw [if_neg hk1]
      have key : ∀ m (b : UInt8), (joinL [RT.mark b] (Pth.rends RT m l)).length + 3 ≤ 20 * (Pth.ndl l + 1) := fun m b => by
        have := texts_len l m b (fun p hp => hq p hp)
        match l, hl with
        | p :: l, _ =>
          show (brk RT (wrap m p.kind) (p.rend RT) ++ tlL [RT.mark b] (Pth.rends RT m l)).length + 3 ≤ _
          have e : tlL [RT.mark b] (Pth.rends RT m (p :: l)) = [RT.mark b] ++ (brk RT (wrap m p.kind) (p.rend RT) ++ tlL [RT.mark b] (Pth.rends RT m l)) := rfl
          rw [e] at this
          simp only [List.length_append, List.length_cons, List.length_nil] at this ⊢
          omega
      split
      · exact key 3 124
      · rcases hk with rfl | rfl
        · rw [if_pos rfl]; exact key 2 47
        · rename_i h; exact absurd rfl h
    · have hk1 : k ≠ 1 ∧ k ≠ 3 ∧ k ≠ 2 := by rcases hk with rfl | rfl | rfl <;> decide
      rw [if_neg hk1.1, if_neg hk1.2.1, if_neg hk1.2.2, ndl_cons, ndl_nil]
      have : (q.rend RT).length + 3 ≤ 20 * q.nd := text_len q hq
      show (brk RT (wrap 4 q.kind) (q.rend RT) ++ [RT.mark (sgnB k)]).length + 3 ≤ _
      unfold brk
      split <;> simp only [List.length_append, List.length_cons, List.length_nil] <;> omega
theorem texts_len : ∀ (l : List Pth) (m : Int) (b : UInt8), (∀ p ∈ l, p.shP = true) → (tlL [RT.mark b] (Pth.rends RT m l)).length ≤ 20 * Pth.ndl l
  | [], m, b, h => by show 0 ≤ _; omega
  | p :: l, m, b, h => by
    have h1 : (p.rend RT).length + 3 ≤ 20 * p.nd := text_len p (h p (by simp))
    have h2 := texts_len l m b fun q hq => h q (by simp [hq])
    have e : tlL [RT.mark b] (Pth.rends RT m (p :: l)) = [RT.mark b] ++ (brk RT (wrap m p.kind) (p.rend RT) ++ tlL [RT.mark b] (Pth.rends RT m l)) := rfl
    rw [e, ndl_cons]
    unfold brk
    split <;> simp only [List.length_append, List.length_cons, List.length_nil] <;> omega
end
mutual
theorem tk_nd : ∀ p : Pth, p.shP = true → p.nd ≤ p.tk.length
  | .mk k w l, h => by
    rw [Pth.tk, rend_eq, nd_eq]
    rcases shP_cases h with ⟨rfl, rfl, hw⟩ | ⟨hk, rfl, hl, hq⟩ | ⟨hk, rfl, q, rfl, hq⟩
    · rw [if_pos rfl, ndl_nil]; exact Nat.le_refl _
    · have hk1 : k ≠ 1 := by rcases hk with rfl | rfl <;> decide
      rw [if_neg hk1]
      have key : ∀ m (b : UInt8), Pth.ndl l + 1 ≤ (joinL [RK.mark b] (Pth.rends RK m l)).length := fun m b => by
        have := tks_nd l m b (fun p hp => hq p hp)
        match l, hl with
        | p :: l, hl =>
          show _ ≤ (brk RK (wrap m p.kind) (p.rend RK) ++ tlL [RK.mark b] (Pth.rends RK m l)).length
          have e : tlL [RK.mark b] (Pth.rends RK m (p :: l)) = [RK.mark b] ++ (brk RK (wrap m p.kind) (p.rend RK) ++ tlL [RK.mark b] (Pth.rends RK m l)) := rfl
          rw [e] at this
          simp only [List.length_append, List.length_cons, List.length_nil] at this hl ⊢
          omega
      split
      · exact key 3 124
      · rcases hk with rfl | rfl
        · rw [if_pos rfl]; exact key 2 47
        · rename_i h; exact absurd rfl h
    · have hk1 : k ≠ 1 ∧ k ≠ 3 ∧ k ≠ 2 := by rcases hk with rfl | rfl | rfl <;> decide
      rw [if_neg hk1.1, if_neg hk1.2.1, if_neg hk1.2.2, ndl_cons, ndl_nil]
      have : q.nd ≤ (q.rend RK).length := tk_nd q hq
      show _ ≤ (brk RK (wrap 4 q.kind) (q.rend RK) ++ [RK.mark (sgnB k)]).length
      unfold brk
      split <;> simp only [List.length_append, List.length_cons, List.length_nil] <;> omega
theorem tks_nd : ∀ (l : List Pth) (m : Int) (b : UInt8), (∀ p ∈ l, p.shP = true) → Pth.ndl l + l.length ≤ (tlL [RK.mark b] (Pth.rends RK m l)).length
  | [], m, b, h => Nat.le_refl _
  | p :: l, m, b, h => by
    have h1 : p.nd ≤ (p.rend RK).length := tk_nd p (h p (by simp))
    have h2 := tks_nd l m b fun q hq => h q (by simp [hq])
    have e : tlL [RK.mark b] (Pth.rends RK m (p :: l)) = [RK.mark b] ++ (brk RK (wrap m p.kind) (p.rend RK) ++ tlL [RK.mark b] (Pth.rends RK m l)) := rfl
    rw [e, ndl_cons]
    unfold brk
    split <;> simp only [List.length_append, List.length_cons, List.length_nil] <;> omega
end
/-! the signs of the text -/
theorem brk_lex {p : Pth} {b : Bool} (h : ∀ (rest : List UInt8) (tk : List Sg), NoPart rest → LexT rest tk → LexT (p.text ++ rest) (p.tk ++ tk)) {rest : List UInt8} {tk : List Sg} (hr : NoPart rest) (hl : LexT rest tk) : LexT (brk RT b p.text ++ rest) (brk RK b p.tk ++ tk) := by
  cases b with
  | false => exact h rest tk hr hl
  | true =>
    show LexT ((40 :: (p.text ++ [41])) ++ rest) (((⟨3, [40], 0⟩ : Sg) :: (p.tk ++ [⟨3, [41], 0⟩])) ++ tk)
    rw [List.cons_append, List.cons_append, List.append_assoc, List.append_assoc]
    refine .mark (by decide) (.inl (by decide)) (h _ _ (.cons (by decide)) ?_)
    exact .mark (by decide) (.inl (by decide)) hl
mutual
theorem text_lex : ∀ (p : Pth), p.shP = true → ∀ (rest : List UInt8) (tk : List Sg), NoPart rest → LexT rest tk → LexT (p.text ++ rest) (p.tk ++ tk)
  | .mk k w l, h, rest, tk, hr, hlx => by
    rw [Pth.text, Pth.tk, rend_eq, rend_eq]
    rcases shP_cases h with ⟨rfl, rfl, hw⟩ | ⟨hk, rfl, hl, hq⟩ | ⟨hk, rfl, q, rfl, hq⟩
    · rw [if_pos rfl, if_pos rfl]
      exact .word hw hr hlx
    · have hk1 : k ≠ 1 := by rcases hk with rfl | rfl <;> decide
      rw [if_neg hk1, if_neg hk1]
      by_cases h3 : k = 3
      · rw [if_pos h3, if_pos h3]; exact join_lex l 3 124 (by decide) (by decide) hl hq rest tk hr hlx
      · have h2 : k = 2 := hk.resolve_right h3
        rw [if_neg h3, if_neg h3, if_pos h2, if_pos h2]; exact join_lex l 2 47 (by decide) (by decide) hl hq rest tk hr hlx
    · have hk1 : k ≠ 1 ∧ k ≠ 3 ∧ k ≠ 2 := by rcases hk with rfl | rfl | rfl <;> decide
      rw [if_neg hk1.1, if_neg hk1.2.1, if_neg hk1.2.2, if_neg hk1.1, if_neg hk1.2.1, if_neg hk1.2.2]
      show LexT ((brk RT (wrap 4 q.kind) q.text ++ [sgnB k]) ++ rest) ((brk RK (wrap 4 q.kind) q.tk ++ [⟨3, [sgnB k], 0⟩]) ++ tk)
      rw [List.append_assoc, List.append_assoc]
      have hm : marksL.contains (sgnB k) = true ∧ partB (sgnB k) = false := by rcases hk with rfl | rfl | rfl <;> decide
      exact brk_lex (text_lex q hq) (.cons hm.2) (.mark hm.1 (.inr hr) hlx)
theorem join_lex : ∀ (l : List Pth) (m : Int) (b : UInt8), marksL.contains b = true → b ≠ 63 → 2 ≤ l.length → (∀ p ∈ l, p.shP = true) → ∀ (rest : List UInt8) (tk : List Sg), NoPart rest → LexT rest tk → LexT (joinL [RT.mark b] (Pth.rends RT m l) ++ rest) (joinL [RK.mark b] (Pth.rends RK m l) ++ tk)
  | [], m, b, hb, hb2, hl, h, rest, tk, hr, hlx => absurd hl (by simp)
  | p :: l, m, b, hb, hb2, hl, h, rest, tk, hr, hlx => by
    show LexT ((brk RT (wrap m p.kind) p.text ++ tlL [RT.mark b] (Pth.rends RT m l)) ++ rest) ((brk RK (wrap m p.kind) p.tk ++ tlL [RK.mark b] (Pth.rends RK m l)) ++ tk)
    rw [List.append_assoc, List.append_assoc]
    obtain ⟨t1, t2⟩ := texts_lex l m b hb hb2 (fun q hq' => h q (by simp [hq'])) rest tk hr hlx
    exact brk_lex (text_lex p (h p (by simp))) t1 t2
theorem texts_lex : ∀ (l : List Pth) (m : Int) (b : UInt8), marksL.contains b = true → b ≠ 63 → (∀ p ∈ l, p.shP = true) → ∀ (rest : List UInt8) (tk : List Sg), NoPart rest → LexT rest tk → NoPart (tlL [RT.mark b] (Pth.rends RT m l) ++ rest) ∧ LexT (tlL [RT.mark b] (Pth.rends RT m l) ++ rest) (tlL [RK.mark b] (Pth.rends RK m l) ++ tk)
  | [], m, b, hb, hb2, h, rest, tk, hr, hlx => ⟨hr, hlx⟩
  | p :: l, m, b, hb, hb2, h, rest, tk, hr, hlx => by
    obtain ⟨t1, t2⟩ := texts_lex l m b hb hb2 (fun q hq' => h q (by simp [hq'])) rest tk hr hlx
    have e1 : tlL [RT.mark b] (Pth.rends RT m (p :: l)) ++ rest = b :: (brk RT (wrap m p.kind) p.text ++ (tlL [RT.mark b] (Pth.rends RT m l) ++ rest)) := by
      show ([b] ++ (brk RT (wrap m p.kind) p.text ++ tlL [RT.mark b] (Pth.rends RT m l))) ++ rest = _
      simp
    have e2 : tlL [RK.mark b] (Pth.rends RK m (p :: l)) ++ tk = ⟨3, [b], 0⟩ :: (brk RK (wrap m p.kind) p.tk ++ (tlL [RK.mark b] (Pth.rends RK m l) ++ tk)) := by
      show ([(⟨3, [b], 0⟩ : Sg)] ++ (brk RK (wrap m p.kind) p.tk ++ tlL [RK.mark b] (Pth.rends RK m l))) ++ tk = _
      simp
    rw [e1, e2]
    exact ⟨.cons (mark_kind b hb).2, .mark hb (.inl hb2) (brk_lex (text_lex p (h p (by simp))) t1 t2)⟩
end
end Go.Ab
