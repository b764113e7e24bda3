import Derived.Test.YtimidokohhiacaaAbA09o
/- sinew/query: texts of signs. -/
namespace Go.Ab
open Go.RowKit
set_option linter.unusedVariables false
set_option linter.unusedSimpArgs false
def isWord (s : List UInt8) : Bool := s != [] && (decide (s.length ≤ 16) && s.all partB)
theorem isWord_some {s : List UInt8} (h : isWord s = true) : s ≠ [] ∧ s.length ≤ 16 ∧ ∀ b ∈ s, partB b = true := by
  unfold isWord at h
  simp only [Bool.and_eq_true, bne_iff_ne, ne_eq, decide_eq_true_eq, List.all_eq_true] at h
  exact ⟨h.1, h.2.1, h.2.2⟩
/-- A text that has these signs. -/
def LexT (s : List UInt8) (tk : List Sg) : Prop := ∀ n i, s.length < n → ∃ l, lex n i s = .ok l ∧ l.map strip = tk
/-- It does not begin with a byte of a word. -/
def NoPart (s : List UInt8) : Prop := runL s = []
theorem NoPart.nil : NoPart [] := rfl
theorem NoPart.cons {b : UInt8} {s : List UInt8} (h : partB b = false) : NoPart (b :: s) := runL_no h
theorem runL_word {w rest : List UInt8} (hw : ∀ b ∈ w, partB b = true) (hr : NoPart rest) : runL (w ++ rest) = w := by
  induction w with
  | nil => exact hr
  | cons b w ih => rw [List.cons_append, runL_cons (hw b (by simp)), ih (fun c hc => hw c (by simp [hc]))]
theorem part_blank (b : UInt8) (h : partB b = true) : blB b = false := by
  revert h
  exact all256 (P := fun b => partB b = true → blB b = false) (by decide +kernel) b
theorem LexT.nil : LexT [] [] := fun n i h => by
  obtain ⟨m, rfl⟩ : ∃ m, n = m + 1 := ⟨n - 1, by simp at h; omega⟩
  exact ⟨[], rfl, rfl⟩
theorem LexT.blank {b : UInt8} {s : List UInt8} {tk : List Sg} (hb : blB b = true) (h : LexT s tk) : LexT (b :: s) tk := fun n i hn => by
  obtain ⟨m, rfl⟩ : ∃ m, n = m + 1 := ⟨n - 1, by omega⟩
  rw [lex, if_pos hb]
  exact h m (i + 1) (by simp at hn; omega)
theorem LexT.word {w rest : List UInt8} {tk : List Sg} (hw : isWord w = true) (hr : NoPart rest) (h : LexT rest tk) : LexT (w ++ rest) (⟨1, w, 0⟩ :: tk) := fun n i hn => by
  obtain ⟨m, rfl⟩ : ∃ m, n = m + 1 := ⟨n - 1, by omega⟩
  obtain ⟨h1, h2, h3⟩ := isWord_some hw
  cases w with
  | nil => exact absurd rfl h1
  | cons b w =>
    have hrun := runL_word h3 hr
    rw [List.cons_append] at hrun hn ⊢
    have hb := h3 b (by simp)
    rw [lex, if_neg (by rw [part_blank b hb]; exact Bool.false_ne_true), if_pos hb, hrun, if_neg (by omega)]
    have hd : (b :: (w ++ rest)).drop (b :: w).length = rest := by rw [← List.cons_append, List.drop_left]
    rw [hd]
    simp only [List.length_cons, List.length_append] at hn
    obtain ⟨l, g1, g2⟩ := h m (i + (b :: w).length) (by omega)
    rw [g1]
    exact ⟨_, rfl, by simp [g2, strip]⟩
theorem LexT.name {w rest : List UInt8} {tk : List Sg} (hw : isWord w = true) (hr : NoPart rest) (h : LexT rest tk) : LexT (63 :: (w ++ rest)) (⟨2, w, 0⟩ :: tk) := fun n i hn => by
  obtain ⟨m, rfl⟩ : ∃ m, n = m + 1 := ⟨n - 1, by omega⟩
  obtain ⟨h1, h2, h3⟩ := isWord_some hw
  have hrun := runL_word h3 hr
  rw [lex, if_neg (by decide), if_neg (by decide), hrun, if_pos ⟨rfl, h1⟩, if_neg (by omega), List.drop_left]
  simp only [List.length_cons, List.length_append] at hn
  obtain ⟨l, g1, g2⟩ := h m (i + w.length + 1) (by omega)
  rw [g1]
  exact ⟨_, rfl, by simp [g2, strip]⟩
theorem mark_kind (b : UInt8) (h : marksL.contains b = true) : blB b = false ∧ partB b = false := by
  revert h
  exact all256 (P := fun b => marksL.contains b = true → blB b = false ∧ partB b = false) (by decide +kernel) b
theorem LexT.mark {b : UInt8} {rest : List UInt8} {tk : List Sg} (hb : marksL.contains b = true) (hr : b ≠ 63 ∨ NoPart rest) (h : LexT rest tk) : LexT (b :: rest) (⟨3, [b], 0⟩ :: tk) := fun n i hn => by
  obtain ⟨m, rfl⟩ : ∃ m, n = m + 1 := ⟨n - 1, by omega⟩
  obtain ⟨k1, k2⟩ := mark_kind b hb
  have hn' : ¬ (b = 63 ∧ runL rest ≠ []) := by
    rintro ⟨g1, g2⟩
    rcases hr with g | g
    · exact g g1
    · exact g2 g
  rw [lex, if_neg (by rw [k1]; exact Bool.false_ne_true), if_neg (by rw [k2]; exact Bool.false_ne_true), if_neg hn', if_pos hb]
  obtain ⟨l, g1, g2⟩ := h m (i + 1) (by simp at hn; omega)
  rw [g1]
  exact ⟨_, rfl, by simp [g2, strip]⟩
/-! changes -/
def howW (c : Chg) : List UInt8 := if c.gone = true then delW else insW
def chTk (c : Chg) : List Sg := [⟨1, howW c, 0⟩, ⟨1, c.s, 0⟩, ⟨1, c.p, 0⟩, ⟨1, c.o, 0⟩]
def dotS : Sg := ⟨3, [46], 0⟩
def chsTk : List Chg → List Sg
  | [] => []
  | [c] => chTk c
  | c :: cs => chTk c ++ dotS :: chsTk cs
theorem pChg_tk (c : Chg) (rest : List Sg) : pChg (chTk c ++ rest) = .ok c rest := by
  obtain ⟨g, s, p, o⟩ := c
  unfold pChg chTk
  cases g <;> rfl
theorem pChs_tk : ∀ (cs : List Chg) (n : Nat) (acc : List Chg), cs ≠ [] → cs.length < n → pChs n acc (chsTk cs) = .ok (acc ++ cs) []
  | [], _, _, h, _ => absurd rfl h
  | [c], n, acc, _, hn => by
    obtain ⟨m, rfl⟩ : ∃ m, n = m + 1 := ⟨n - 1, by omega⟩
    have : chsTk [c] = chTk c ++ [] := by simp [chsTk]
    rw [this, pChs, pChg_tk]; rfl
  | c :: d :: cs, n, acc, _, hn => by
    obtain ⟨m, rfl⟩ : ∃ m, n = m + 1 := ⟨n - 1, by omega⟩
    have : chsTk (c :: d :: cs) = chTk c ++ dotS :: chsTk (d :: cs) := rfl
    rw [this, pChs, pChg_tk, PR.bind_ok]
    have hp : pIs [46] (dotS :: chsTk (d :: cs)) = some (chsTk (d :: cs)) := rfl
    rw [hp]
    simp only
    rw [pChs_tk (d :: cs) m (acc ++ [c]) (by simp) (by simp at hn ⊢; omega)]
    simp
theorem pReq_chs {cs : List Chg} (h : cs ≠ []) {N : Nat} (hN : cs.length < N) : pReq N (chsTk cs) = .ok ⟨2, [], [], cs⟩ [] := by
  have hsel : isSel (chsTk cs) = false := by
    match cs, h with
    | [c], _ => obtain ⟨g, s, p, o⟩ := c; cases g <;> rfl
    | c :: d :: cs, _ => obtain ⟨g, s, p, o⟩ := c; cases g <;> rfl
  unfold pReq
  rw [hsel, if_neg Bool.false_ne_true, pChs_tk cs N [] h hN]
  rfl
theorem chsTk_len : ∀ cs : List Chg, cs.length ≤ (chsTk cs).length
  | [] => Nat.le_refl _
  | [c] => by simp [chsTk, chTk]
  | c :: d :: cs => by
    have := chsTk_len (d :: cs)
    have h : chsTk (c :: d :: cs) = chTk c ++ dotS :: chsTk (d :: cs) := rfl
    rw [h]
    simp [chTk] at this ⊢; omega
def okCh (c : Chg) : Bool := isWord c.s && (isWord c.p && isWord c.o)
theorem how_word (c : Chg) : isWord (howW c) = true := by unfold howW; split <;> decide
/-- A change's text, ahead of some other. -/
theorem LexT.ch {c : Chg} (h : okCh c = true) (b : UInt8) (hb : blB b = true) {rest : List UInt8} {tk : List Sg} (hr : NoPart rest) (hl : LexT rest tk) : LexT (howW c ++ (32 :: (c.s ++ (b :: (c.p ++ (32 :: (c.o ++ rest))))))) (chTk c ++ tk) := by
  unfold okCh at h
  rw [Bool.and_eq_true, Bool.and_eq_true] at h
  have h32 : partB 32 = false := by decide
  have hbp := blank_part b hb
  exact .word (how_word c) (.cons h32) (.blank (by decide) (.word h.1 (.cons hbp) (.blank hb (.word h.2.1 (.cons h32) (.blank (by decide) (.word h.2.2 hr hl))))))
end Go.Ab
