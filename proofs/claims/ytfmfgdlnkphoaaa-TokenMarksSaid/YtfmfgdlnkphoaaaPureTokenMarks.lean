/- Proved: marks alone are signs each, in their order; blanks between do not matter. No condition. -/
import Derived.Test.YtfmfgdlnkphoaaaPureTokenLong
namespace Go.Proofs.Ytfmfgdlnkphoaaa.Pure
open Go.RowKit Go.Proofs.Ytfmfgdlnkphoaaa.Hand Go.Proofs.Ytfmfgdlnkphoaaa.Px Go.Proofs.YtfmfgdlnkphoaaaW.PrintWords Go.Proofs.YtfmfgdlnkphoaaaW.PrintLast
set_option linter.unusedVariables false
set_option linter.unusedSimpArgs false

/-- The signs of a text are the marks wanted. -/
def Q (s w : ByteArray) : Prop := ∃ l : List S30, sg (L s) 0 [] = (l, 0, 0) ∧ l.length = w.size ∧ ∀ j, j < w.size → (l.getD j z30).f0 = 3 ∧ (l.getD j z30).f1 = mkB [(L w).getD j 0]
theorem Q_nil : Q ⟨#[]⟩ ⟨#[]⟩ := ⟨[], by show sg [] 0 [] = _; rw [sg_nil], rfl, fun j h => absurd h (Nat.not_lt_zero _)⟩
theorem Q_mark (s w t : ByteArray) (m : UInt8) (ht : L t = [m]) (h1 : bl m = false) (h2 : pt m = false) (h3 : m ≠ 63) (h4 : mk m = true) (h : Q s w) : Q (s ++ t) (w ++ t) := by
  obtain ⟨l, hl, hn, hj⟩ := h
  have hr : rn [m] = [] := by rw [rn_cons, if_neg (by rw [h2]; decide)]
  have hts : t.size = 1 := by rw [← L_length, ht]; rfl
  refine ⟨l ++ [⟨3, mkB [m], ((L s).length : Int)⟩], ?_, ?_, ?_⟩
  · rw [L_append, ht, sg_left hr _ (L s) 0 [] (Nat.le_refl _), hl, if_pos rfl, sg_cons, if_neg (by rw [h1]; decide), if_neg (by rw [h2]; decide), if_neg (fun e => h3 e.1), if_pos h4, sg_nil, Nat.zero_add]
  · rw [List.length_append, ByteArray.size_append, hn, hts]; rfl
  · intro j hjl
    rw [ByteArray.size_append, hts] at hjl
    have hw := L_length w
    by_cases c : j < w.size
    · have e1 : (l ++ [(⟨3, mkB [m], ((L s).length : Int)⟩ : S30)]).getD j z30 = l.getD j z30 := by simp [List.getD, List.getElem?_append_left (show j < l.length by omega)]
      have e2 : (L (w ++ t)).getD j 0 = (L w).getD j 0 := by rw [L_append]; simp [List.getD, List.getElem?_append_left (show j < (L w).length by omega)]
      rw [e1, e2]; exact hj j c
    · have e0 : j = w.size := by omega
      have e1 : (l ++ [(⟨3, mkB [m], ((L s).length : Int)⟩ : S30)]).getD j z30 = ⟨3, mkB [m], ((L s).length : Int)⟩ := by rw [e0, ← hn]; simp [List.getD]
      have e2 : (L (w ++ t)).getD j 0 = m := by rw [L_append, ht, e0, ← hw]; simp [List.getD]
      rw [e1, e2]; exact ⟨rfl, rfl⟩
theorem Q_blank (s w : ByteArray) (h : Q s w) : Q (s ++ (⟨#[32]⟩ : ByteArray)) w := by
  obtain ⟨l, hl, hn, hj⟩ := h
  refine ⟨l, ?_, hn, hj⟩
  have ht : L (⟨#[32]⟩ : ByteArray) = [32] := rfl
  rw [L_append, ht, sg_left (by decide) _ (L s) 0 [] (Nat.le_refl _), hl, if_pos rfl, sg_cons, if_pos (by decide), sg_nil]
theorem marks_l1 (w : ByteArray) (hw : w.size ≤ 200) (l : List S30) (hn : l.length = w.size) (hj : ∀ j, j < w.size → (l.getD j z30).f0 = 3 ∧ (l.getD j z30).f1 = mkB [(L w).getD j 0]) : ∀ (d i k : Nat), i + d = w.size → 16500 ≤ k →
    sinewlaw08_TokenMarks.l1 (k + d + 1) w l i = some true := by
  intro d
  induction d with
  | zero =>
    intro i k hi hk
    show sinewlaw08_TokenMarks.l1 (k + 1) w l i = _
    rw [sinewlaw08_TokenMarks.l1, if_neg (by omega), awake_some _ hk]; rfl
  | succ d ih =>
    intro i k hi hk
    obtain ⟨h0, h1⟩ := hj i (by omega)
    have hL := L_length w
    rw [show k + (d + 1) + 1 = (k + d + 1) + 1 from rfl, sinewlaw08_TokenMarks.l1, if_pos (by omega), if_pos (by omega), rd_nat, h0, if_pos rfl, w64 _ (by omega) (by omega), if_pos (by omega), if_pos (by omega)]
    have e : (w.extract ((i : Int) : Int).toNat ((i : Int) + 1).toNat).toList = (mkB [(L w).getD i 0]).toList := by
      rw [toList_L, toList_L, L_extract, L_mkB, show ((i : Int) : Int).toNat = i from by omega, show ((i : Int) + 1).toNat - i = 1 from by omega]
      have hi' : i < (L w).length := by omega
      rw [List.drop_eq_getElem_cons hi', List.take_succ_cons, List.take_zero]
      simp only [List.getD, List.getElem?_eq_getElem hi', Option.getD_some]
    rw [h1, e, if_pos rfl]
    exact ih (i + 1) k (by omega) hk
theorem mark_nine : ∀ n : Nat, n < 9 → bl (UInt8.ofNat (bt (⟨#[123, 125, 40, 41, 46, 47, 124, 42, 43]⟩ : ByteArray) (n : Int)).toNat) = false ∧ pt (UInt8.ofNat (bt (⟨#[123, 125, 40, 41, 46, 47, 124, 42, 43]⟩ : ByteArray) (n : Int)).toNat) = false ∧
    UInt8.ofNat (bt (⟨#[123, 125, 40, 41, 46, 47, 124, 42, 43]⟩ : ByteArray) (n : Int)).toNat ≠ 63 ∧ mk (UInt8.ofNat (bt (⟨#[123, 125, 40, 41, 46, 47, 124, 42, 43]⟩ : ByteArray) (n : Int)).toNat) = true := by decide +kernel
theorem marks_end (x0 : List Int) (x1 : Bool) (s w : ByteArray) (h : Q s w) (hs : s.size ≤ 4096) (hw : w.size ≤ 200) (i k : Nat) (hk : 17000 ≤ k) :
    sinewlaw08_TokenMarks.j1 k x0 x1 (⟨#[123, 125, 40, 41, 46, 47, 124, 42, 43]⟩ : ByteArray) s w i false = some true := by
  obtain ⟨l, hl, hn, hj⟩ := h
  obtain ⟨k, rfl⟩ : ∃ j, k = (j + w.size + 1) + 1 + 1 := ⟨k - w.size - 3, by omega⟩
  rw [sinewlaw08_TokenMarks.j1, if_neg (by decide), signs_f _ _ (by omega), if_neg (by omega), Option.bind_some, hl, if_pos rfl]
  have e : ((l.length : Int) != (w.size : Int)) = false := bne_eq_false_iff_eq.mpr (by omega)
  rw [e, sinewlaw08_TokenMarks.j2, if_neg (by decide)]
  exact marks_l1 w hw l hn hj w.size 0 k (by omega) (by omega)
theorem marks_l0 (x0 : List Int) (h0 : x0.length ≤ 9000000000000000000) (x1 : Bool) : ∀ (d i k : Nat) (s w : ByteArray), i + d = 60 → Q s w → s.size ≤ 2 * i → w.size ≤ i → 17200 + 2 * d ≤ k →
    sinewlaw08_TokenMarks.l0 k x0 x1 (⟨#[123, 125, 40, 41, 46, 47, 124, 42, 43]⟩ : ByteArray) s w i = some true := by
  intro d
  induction d with
  | zero =>
    intro i k s w hi hq hs hw hk
    obtain ⟨k, rfl⟩ : ∃ j, k = j + 1 := ⟨k - 1, by omega⟩
    rw [sinewlaw08_TokenMarks.l0]
    have e : decide ((i : Int) < 60) = false := decide_eq_false (by omega)
    rw [e]
    split <;> exact marks_end x0 x1 s w hq (by omega) (by omega) i k (by omega)
  | succ d ih =>
    intro i k s w hi hq hs hw hk
    obtain ⟨k, rfl⟩ : ∃ j, k = j + 1 + 1 := ⟨k - 2, by omega⟩
    rw [sinewlaw08_TokenMarks.l0]
    have e : decide ((i : Int) < 60) = true := decide_eq_true (by omega)
    rw [e]
    by_cases c : (i : Int) < (x0.length : Int)
    · rw [if_pos c, sinewlaw08_TokenMarks.j1, if_pos rfl, if_pos (by omega), if_pos c, and65535]
      generalize rd x0 i = z
      obtain ⟨n, hn, h9⟩ : ∃ n : Nat, Int.tmod (z % 65536) 9 = (n : Int) ∧ n < 9 := by
        have h1 : 0 ≤ z % 65536 := Int.emod_nonneg _ (by decide)
        rw [Int.tmod_eq_emod_of_nonneg h1]
        exact ⟨(z % 65536 % 9).toNat, by omega, by omega⟩
      rw [hn]
      obtain ⟨m1, m2, m3, m4⟩ := mark_nine n h9
      have hL : L (strOfNums [bt (⟨#[123, 125, 40, 41, 46, 47, 124, 42, 43]⟩ : ByteArray) (n : Int)]) = [UInt8.ofNat (bt (⟨#[123, 125, 40, 41, 46, 47, 124, 42, 43]⟩ : ByteArray) (n : Int)).toNat] := by rw [L_str]; rfl
      have hz : (strOfNums [bt (⟨#[123, 125, 40, 41, 46, 47, 124, 42, 43]⟩ : ByteArray) (n : Int)]).size = 1 := by rw [← L_length, hL]; rfl
      have hq2 := Q_mark s w _ _ hL m1 m2 m3 m4 hq
      have h32 : (⟨#[32]⟩ : ByteArray).size = 1 := rfl
      have hz2 : ∀ x : ByteArray, (x ++ strOfNums [bt (⟨#[123, 125, 40, 41, 46, 47, 124, 42, 43]⟩ : ByteArray) (n : Int)]).size = x.size + 1 := fun x => by rw [ByteArray.size_append, hz]
      rw [if_pos (by omega), if_pos (by show (n : Int) < 9; omega), Option.bind_some, hz, if_pos (by omega), Option.bind_some, if_pos (by omega), w64 _ (by omega) (by omega)]
      by_cases cb : x1 = true
      · rw [if_pos cb, hz2, if_pos (by omega)]
        exact ih (i + 1) _ _ _ (by omega) (Q_blank _ _ hq2) (by rw [ByteArray.size_append, hz2, h32]; omega) (by rw [hz2]; omega) (by omega)
      · rw [if_neg cb]
        exact ih (i + 1) _ _ _ (by omega) hq2 (by rw [hz2]; omega) (by rw [hz2]; omega) (by omega)
    · rw [if_neg c]
      exact marks_end x0 x1 s w hq (by omega) (by omega) i _ (by omega)
theorem TokenMarks : sinewlaw08_TokenMarks.Pure := by
  intro l b h1 h2 h3
  refine ⟨20000, ?_⟩
  unfold sinewlaw08_TokenMarks.f
  exact marks_l0 l (by omega) b 60 0 20000 _ _ (by omega) Q_nil (by decide) (by decide) (by omega)
end Go.Proofs.Ytfmfgdlnkphoaaa.Pure
