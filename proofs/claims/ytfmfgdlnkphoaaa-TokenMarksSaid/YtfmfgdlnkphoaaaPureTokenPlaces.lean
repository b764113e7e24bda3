/- Proved: signs stand at their places, one behind the other, and between them there are blanks alone. No condition. -/
import Derived.Test.YtfmfgdlnkphoaaaPx6
import Derived.Test.YtfmfgdlnkphoaaaPureTokenSigns
namespace Go.Proofs.Ytfmfgdlnkphoaaa.Pure
open Go.RowKit Go.Proofs.Ytfmfgdlnkphoaaa.Hand Go.Proofs.Ytfmfgdlnkphoaaa.Px Go.Proofs.YtfmfgdlnkphoaaaW.PrintWords Go.Proofs.YtfmfgdlnkphoaaaW.PrintLast
set_option linter.unusedVariables false
set_option linter.unusedSimpArgs false

theorem toList_L (s : ByteArray) : s.toList = L s := ByteArray.toList_eq s
theorem rd_at (u : List UInt8) (n : Nat) (hn : u.length ≤ n) : True := trivial
/-- What is there stays. -/
theorem sg_prefix : ∀ (n : Nat) (u : List UInt8) (a : Nat) (acc : List S30), u.length ≤ n → (sg u a acc).2.2 = 0 → ∃ t, (sg u a acc).1 = acc ++ t := by
  intro n
  induction n with
  | zero =>
    intro u a acc h he
    cases u with
    | nil => rw [sg_nil]; exact ⟨[], by simp⟩
    | cons b r => simp at h
  | succ n ih =>
    intro u a acc h he
    cases u with
    | nil => rw [sg_nil]; exact ⟨[], by simp⟩
    | cons b r =>
      rw [List.length_cons] at h
      have h1 := rest_le r
      rw [sg_cons] at he ⊢
      split at he
      · rename_i c; rw [if_pos c]; exact ih r (a + 1) acc (by omega) he
      rename_i c; rw [if_neg c]
      split at he
      · rename_i c; rw [if_pos c]
        split at he
        · cases he
        · rename_i c; rw [if_neg c]
          obtain ⟨t, ht⟩ := ih _ _ _ (by omega) he
          exact ⟨_, by rw [ht, List.append_assoc]⟩
      rename_i c; rw [if_neg c]
      split at he
      · rename_i c; rw [if_pos c]
        split at he
        · cases he
        · rename_i c; rw [if_neg c]
          obtain ⟨t, ht⟩ := ih _ _ _ (by omega) he
          exact ⟨_, by rw [ht, List.append_assoc]⟩
      rename_i c; rw [if_neg c]
      split at he
      · rename_i c; rw [if_pos c]
        obtain ⟨t, ht⟩ := ih _ _ _ (by omega) he
        exact ⟨_, by rw [ht, List.append_assoc]⟩
      · cases he
/-- An error: no signs, and a place of the text. -/
theorem sg_err : ∀ (n : Nat) (u : List UInt8) (a : Nat) (acc : List S30), u.length ≤ n → (sg u a acc).2.2 ≠ 0 → ∃ p : Nat, sg u a acc = ([], (p : Int), 80) ∧ a ≤ p ∧ p < a + u.length := by
  intro n
  induction n with
  | zero =>
    intro u a acc h he
    cases u with
    | nil => rw [sg_nil] at he; exact absurd rfl he
    | cons b r => simp at h
  | succ n ih =>
    intro u a acc h he
    cases u with
    | nil => rw [sg_nil] at he; exact absurd rfl he
    | cons b r =>
      rw [List.length_cons] at h ⊢
      have h1 := congrArg List.length (rn_rest r)
      rw [List.length_append] at h1
      rw [sg_cons] at he ⊢
      split at he
      · rename_i c; rw [if_pos c]
        obtain ⟨p, hp, h2, h3⟩ := ih r (a + 1) acc (by omega) he
        exact ⟨p, hp, by omega, by omega⟩
      rename_i c; rw [if_neg c]
      split at he
      · rename_i c; rw [if_pos c]
        split at he
        · rename_i c; rw [if_pos c]; exact ⟨a, rfl, by omega, by omega⟩
        · rename_i c; rw [if_neg c]
          obtain ⟨p, hp, h2, h3⟩ := ih _ _ _ (by omega) he
          exact ⟨p, hp, by omega, by omega⟩
      rename_i c; rw [if_neg c]
      split at he
      · rename_i c; rw [if_pos c]
        split at he
        · rename_i c; rw [if_pos c]; exact ⟨a, rfl, by omega, by omega⟩
        · rename_i c; rw [if_neg c]
          obtain ⟨p, hp, h2, h3⟩ := ih _ _ _ (by omega) he
          exact ⟨p, hp, by omega, by omega⟩
      rename_i c; rw [if_neg c]
      split at he
      · rename_i c; rw [if_pos c]
        obtain ⟨p, hp, h2, h3⟩ := ih _ _ _ (by omega) he
        exact ⟨p, hp, by omega, by omega⟩
      · rename_i c; rw [if_neg c]; exact ⟨a, rfl, by omega, by omega⟩
theorem bl_cases {b : UInt8} (h : bl b = true) : (b.toNat : Int) = 32 ∨ (b.toNat : Int) = 9 ∨ (b.toNat : Int) = 10 := by
  rw [bl_int] at h
  simp only [Bool.or_eq_true, decide_eq_true_eq, beq_iff_eq] at h
  rcases h with (h | h) | h
  · exact .inl h
  · exact .inr (.inl h)
  · exact .inr (.inr h)
theorem ite3 {α : Type} {x : Int} (h : x = 32 ∨ x = 9 ∨ x = 10) (f g : α) : (if x = 32 then f else (if x = 9 then f else (if x = 10 then f else g))) = f := by
  rcases h with h | h | h <;> subst h <;> rfl
/-- The check of a sign's text. -/
theorem chk (s : ByteArray) (hs : s.size ≤ 4096) (i : Nat) (T : ByteArray) (v : List UInt8) (hT : (L s).drop i = L T ++ v) (hne : L T ≠ []) (F : Int → Option Bool) :
    (if (wrap64 ((s.size : Int) - (i : Int))) < (T.size : Int) then (some false) else (if 0 ≤ (i : Int) then (if (i : Int) ≤ (wrap64 ((i : Int) + (T.size : Int))) then (if (wrap64 ((i : Int) + (T.size : Int))) ≤ (s.size : Int) then (if (s.extract ((i : Int) : Int).toNat ((wrap64 ((i : Int) + (T.size : Int))) : Int).toNat).toList = T.toList then (if T.toList = ([] : List UInt8) then (some false) else F (wrap64 ((i : Int) + (T.size : Int)))) else (some false)) else (none)) else (none)) else (none))) = F ((i + (L T).length : Nat) : Int) := by
  have hl := congrArg List.length hT
  rw [List.length_drop, List.length_append, L_length] at hl
  have hn : 0 < (L T).length := List.length_pos_iff.mpr hne
  have hTs := L_length T
  rw [w64 ((s.size : Int) - (i : Int)) (by omega) (by omega), w64 ((i : Int) + (T.size : Int)) (by omega) (by omega)]
  rw [if_neg (by omega), if_pos (by omega), if_pos (by omega), if_pos (by omega)]
  have e : ((i : Int) + (T.size : Int)).toNat = i + (L T).length := by omega
  have e1 : ((i : Int)).toNat = i := by omega
  rw [e, e1, toList_L, toList_L, L_extract, hT, show i + (L T).length - i = (L T).length from by omega, List.take_left, if_pos rfl, if_neg hne]
  exact congrArg F (by omega)
theorem l1_sign (s : ByteArray) (hs : s.size ≤ 4096) (l : List S30) (j i k : Nat) (hj : j < l.length) (hjm : l.length ≤ 4096) (x : S30) (hx : l.getD j z30 = x) (h2 : x.f2 = (i : Int)) (v : List UInt8)
    (hT : (L s).drop i = L (if x.f0 = 2 then (⟨#[63]⟩ : ByteArray) ++ x.f1 else x.f1) ++ v) (hne : L (if x.f0 = 2 then (⟨#[63]⟩ : ByteArray) ++ x.f1 else x.f1) ≠ []) :
    sinewlaw08_TokenPlaces.l1 (k + 1) s l i j = sinewlaw08_TokenPlaces.l0 k s l ((i + (L (if x.f0 = 2 then (⟨#[63]⟩ : ByteArray) ++ x.f1 else x.f1)).length : Nat) : Int) ((j + 1 : Nat) : Int) := by
  have hl := congrArg List.length hT
  rw [List.length_drop, List.length_append, L_length] at hl
  rw [sinewlaw08_TokenPlaces.l1, if_pos (by omega), if_pos (by omega), rd_nat, hx, h2, if_neg (by omega)]
  have e : wrap64 ((j : Int) + 1) = ((j + 1 : Nat) : Int) := w64 _ (by omega) (by omega)
  by_cases c : x.f0 = 2
  · rw [if_pos c]
    simp only [if_pos c] at hT hne hl
    have hsz := L_length ((⟨#[63]⟩ : ByteArray) ++ x.f1)
    rw [ByteArray.size_append] at hsz
    have h1 : (⟨#[63]⟩ : ByteArray).size = 1 := rfl
    rw [if_pos (by omega), if_pos rfl, if_pos c, e]
    exact chk s hs i _ v hT hne (fun z => sinewlaw08_TokenPlaces.l0 k s l z ((j + 1 : Nat) : Int))
  · rw [if_neg c]
    simp only [if_neg c] at hT hne hl
    rw [if_pos rfl, if_neg c, e]
    exact chk s hs i _ v hT hne (fun z => sinewlaw08_TokenPlaces.l0 k s l z ((j + 1 : Nat) : Int))
/-- Blanks ahead of a sign are passed. -/
theorem l1_skip (s : ByteArray) (hs : s.size ≤ 4096) (l : List S30) (j i : Nat) (hj : j < l.length) (hjm : l.length ≤ 4096) (h2 : (l.getD j z30).f2 = (i : Int)) (hi : i ≤ s.size) : ∀ (d p k : Nat), p + d = i →
    (∀ q, p ≤ q → q < i → bl ((L s).getD q 0) = true) → sinewlaw08_TokenPlaces.l1 (k + d) s l p j = sinewlaw08_TokenPlaces.l1 k s l i j := by
  intro d
  induction d with
  | zero => intro p k hp hb; rw [show p = i by omega]; rfl
  | succ d ih =>
    intro p k hp hb
    rw [← ih (p + 1) k (by omega) (fun q h h' => hb q (by omega) h'), show k + (d + 1) = (k + d) + 1 from rfl, sinewlaw08_TokenPlaces.l1, if_pos (by omega), if_pos (by omega), rd_nat, h2, if_pos (by omega), if_neg (by omega), if_pos (by omega), if_pos (by omega), w64 ((p : Int) + 1) (by omega) (by omega), bt_L]
    exact ite3 (bl_cases (hb p (by omega) (by omega))) _ _
theorem l2_skip (s : ByteArray) (hs : s.size ≤ 4096) : ∀ (d p k : Nat), p + d = s.size → (∀ q, p ≤ q → q < s.size → bl ((L s).getD q 0) = true) → 16500 ≤ k → sinewlaw08_TokenPlaces.l2 (k + d + 1) s p = some true := by
  intro d
  induction d with
  | zero =>
    intro p k hp hb hk
    show sinewlaw08_TokenPlaces.l2 (k + 1) s p = _
    rw [sinewlaw08_TokenPlaces.l2, if_neg (by omega), awake_some _ hk]; rfl
  | succ d ih =>
    intro p k hp hb hk
    rw [← ih (p + 1) k (by omega) (fun q h h' => hb q (by omega) h') hk, show k + (d + 1) + 1 = (k + d + 1) + 1 from rfl, sinewlaw08_TokenPlaces.l2, if_pos (by omega), if_pos (by omega), w64 ((p : Int) + 1) (by omega) (by omega), bt_L]
    exact ite3 (bl_cases (hb p (by omega) (by omega))) _ _
theorem places_sign (s : ByteArray) (hs : s.size ≤ 4096) (l acc t : List S30) (x : S30) (i p k : Nat) (v : List UInt8) (hl : l = acc ++ [x] ++ t) (hm : l.length ≤ 4096) (h2 : x.f2 = (i : Int)) (hpi : p ≤ i) (hi : i ≤ s.size) (hb : ∀ q, p ≤ q → q < i → bl ((L s).getD q 0) = true)
    (hT : (L s).drop i = L (if x.f0 = 2 then (⟨#[63]⟩ : ByteArray) ++ x.f1 else x.f1) ++ v) (hne : L (if x.f0 = 2 then (⟨#[63]⟩ : ByteArray) ++ x.f1 else x.f1) ≠ []) :
    sinewlaw08_TokenPlaces.l0 (k + 1 + (i - p) + 1) s l p acc.length = sinewlaw08_TokenPlaces.l0 k s l ((i + (L (if x.f0 = 2 then (⟨#[63]⟩ : ByteArray) ++ x.f1 else x.f1)).length : Nat) : Int) ((acc.length + 1 : Nat) : Int) := by
  have hj : acc.length < l.length := by rw [hl]; simp
  have hx : l.getD acc.length z30 = x := by rw [hl]; simp [List.getD]
  rw [sinewlaw08_TokenPlaces.l0, if_pos (by omega), l1_skip s hs l acc.length i hj hm (by rw [hx]; exact h2) hi (i - p) p (k + 1) (by omega) hb, l1_sign s hs l acc.length i k hj hm x hx h2 v hT hne]
theorem places (s : ByteArray) (hs : s.size ≤ 4096) : ∀ (n : Nat) (u : List UInt8) (i p k : Nat) (acc l : List S30), u.length ≤ n → (L s).drop i = u → i ≤ s.size → p ≤ i → acc.length ≤ i → (∀ q, p ≤ q → q < i → bl ((L s).getD q 0) = true) → l.length ≤ 4096 →
    sg u i acc = (l, 0, 0) → 16510 + 3 * (s.size - p) ≤ k → sinewlaw08_TokenPlaces.l0 k s l p acc.length = some true := by
  have hL := L_length s
  intro n
  induction n with
  | zero =>
    intro u i p k acc l hn hu hi hp ha hb hl h hk
    have : u = [] := List.length_eq_zero_iff.mp (by omega)
    subst this
    rw [sg_nil] at h
    injection h with h _; subst h
    have : s.size ≤ i := by have := congrArg List.length hu; rw [List.length_drop] at this; simp at this; omega
    obtain ⟨k, rfl⟩ : ∃ j, k = j + (s.size - p) + 1 + 1 := ⟨k - (s.size - p) - 2, by omega⟩
    rw [sinewlaw08_TokenPlaces.l0, if_neg (by omega), l2_skip s hs (s.size - p) p k (by omega) (fun q h1 h2 => hb q h1 (by omega)) (by omega)]
  | succ n ih =>
    intro u i p k acc l hn hu hi hp ha hb hl h hk
    cases u with
    | nil =>
      rw [sg_nil] at h
      injection h with h _; subst h
      have : s.size ≤ i := by have := congrArg List.length hu; rw [List.length_drop] at this; simp at this; omega
      obtain ⟨k, rfl⟩ : ∃ j, k = j + (s.size - p) + 1 + 1 := ⟨k - (s.size - p) - 2, by omega⟩
      rw [sinewlaw08_TokenPlaces.l0, if_neg (by omega), l2_skip s hs (s.size - p) p k (by omega) (fun q h1 h2 => hb q h1 (by omega)) (by omega)]
    | cons b r =>
      obtain ⟨h1, h2, h3⟩ := getD_drop _ _ _ _ hu
      rw [List.length_cons] at hn
      have hr : r.length = s.size - i - 1 := by rw [← h2, List.length_drop]; omega
      have hrn := rn_le r
      have hrr := rest_le r
      have hdr := drop_rest _ _ _ _ hu
      rw [sg_cons] at h
      split at h
      · rename_i c
        refine ih r (i + 1) p k acc l (by omega) h2 (by omega) (by omega) (by omega) ?_ hl h hk
        intro q hq hq'
        by_cases e : q = i
        · subst e; rw [h1]; exact c
        · exact hb q hq (by omega)
      split at h
      · rename_i c
        split at h
        · injection h with _ h; injection h with _ h; cases h
        obtain ⟨t, ht⟩ := sg_prefix _ _ _ _ (Nat.le_refl _) (by rw [h])
        rw [h] at ht
        obtain ⟨k, rfl⟩ : ∃ j, k = j + 1 + (i - p) + 1 := ⟨k - (i - p) - 2, by omega⟩
        have hT : (L s).drop i = L (mkB (b :: rn r)) ++ rest r := by rw [hu, L_mkB, List.cons_append, rn_rest]
        rw [places_sign s hs l acc t ⟨1, mkB (b :: rn r), (i : Int)⟩ i p k (rest r) ht hl rfl hp hi hb hT (by rw [if_neg (by simp), L_mkB]; simp)]
        rw [if_neg (by simp), L_mkB, List.length_cons]
        have := ih (rest r) (i + ((rn r).length + 1)) (i + ((rn r).length + 1)) k (acc ++ [⟨1, mkB (b :: rn r), (i : Int)⟩]) l (by omega) hdr (by omega) (Nat.le_refl _) (by simp; omega) (fun q h1 h2 => by omega) hl h (by omega)
        rw [List.length_append] at this
        exact this
      split at h
      · rename_i c
        split at h
        · injection h with _ h; injection h with _ h; cases h
        obtain ⟨t, ht⟩ := sg_prefix _ _ _ _ (Nat.le_refl _) (by rw [h])
        rw [h] at ht
        obtain ⟨k, rfl⟩ : ∃ j, k = j + 1 + (i - p) + 1 := ⟨k - (i - p) - 2, by omega⟩
        have hL2 : L ((⟨#[63]⟩ : ByteArray) ++ mkB (rn r)) = 63 :: rn r := by
          unfold L; rw [ByteArray.data_append, Array.toList_append]
          show [63] ++ L (mkB (rn r)) = _
          rw [L_mkB]; rfl
        have hT : (L s).drop i = L ((⟨#[63]⟩ : ByteArray) ++ mkB (rn r)) ++ rest r := by rw [hu, hL2, List.cons_append, rn_rest, c.1]
        rw [places_sign s hs l acc t ⟨2, mkB (rn r), (i : Int)⟩ i p k (rest r) ht hl rfl hp hi hb (by rw [if_pos rfl]; exact hT) (by rw [if_pos rfl, hL2]; simp)]
        rw [if_pos rfl, hL2, List.length_cons]
        have := ih (rest r) (i + ((rn r).length + 1)) (i + ((rn r).length + 1)) k (acc ++ [⟨2, mkB (rn r), (i : Int)⟩]) l (by omega) hdr (by omega) (Nat.le_refl _) (by simp; omega) (fun q h1 h2 => by omega) hl h (by omega)
        rw [List.length_append] at this
        exact this
      split at h
      · obtain ⟨t, ht⟩ := sg_prefix _ _ _ _ (Nat.le_refl _) (by rw [h])
        rw [h] at ht
        obtain ⟨k, rfl⟩ : ∃ j, k = j + 1 + (i - p) + 1 := ⟨k - (i - p) - 2, by omega⟩
        have hT : (L s).drop i = L (mkB [b]) ++ r := by rw [hu, L_mkB]; rfl
        rw [places_sign s hs l acc t ⟨3, mkB [b], (i : Int)⟩ i p k r ht hl rfl hp hi hb hT (by rw [if_neg (by simp), L_mkB]; simp)]
        rw [if_neg (by simp), L_mkB]
        have := ih r (i + 1) (i + 1) k (acc ++ [⟨3, mkB [b], (i : Int)⟩]) l (by omega) h2 (by omega) (Nat.le_refl _) (by simp; omega) (fun q h1 h2 => by omega) hl h (by omega)
        rw [List.length_append] at this
        exact this
      · injection h with _ h; injection h with _ h; cases h
/-- The third: where all goes well it is the place 0. -/
theorem sg_ok : ∀ (n : Nat) (u : List UInt8) (a : Nat) (acc : List S30), u.length ≤ n → (sg u a acc).2.2 = 0 → (sg u a acc).2.1 = 0 := by
  intro n
  induction n with
  | zero =>
    intro u a acc h he
    cases u with
    | nil => rw [sg_nil]
    | cons b r => simp at h
  | succ n ih =>
    intro u a acc h he
    cases u with
    | nil => rw [sg_nil]
    | cons b r =>
      rw [List.length_cons] at h
      have h1 := rest_le r
      rw [sg_cons] at he ⊢
      repeat' split at he
      all_goals first | (cases he; done) | skip
      all_goals simp only [*, if_true, if_false]
      all_goals first | exact ih _ _ _ (by omega) he | skip
theorem TokenPlaces : sinewlaw08_TokenPlaces.Pure := by
  intro s hs
  refine ⟨40000, ?_⟩
  unfold sinewlaw08_TokenPlaces.f
  rw [signs_f s _ (by omega), Option.bind_some]
  by_cases h : 4096 < s.size
  · rw [if_pos h, if_neg (by decide), awake_some _ (by omega)]; rfl
  · rw [if_neg h]
    have hl := L_length s
    have h1 := sg_len _ (L s) 0 [] (Nat.le_refl _)
    by_cases e : (sg (L s) 0 []).2.2 = 0
    · rw [if_pos e]
      have h2 := sg_ok _ (L s) 0 [] (Nat.le_refl _) e
      refine places s (by omega) _ (L s) 0 0 _ [] _ (Nat.le_refl _) (by simp) (by omega) (Nat.le_refl _) (by simp) (fun q h1 h2 => by omega) (by simp at h1; omega) ?_ (by omega)
      exact Prod.ext rfl (Prod.ext h2 e)
    · rw [if_neg e]
      obtain ⟨p, hp, _⟩ := sg_err _ (L s) 0 [] (Nat.le_refl _) e
      rw [hp, if_pos (by rfl), awake_some _ (by omega)]; rfl
end Go.Proofs.Ytfmfgdlnkphoaaa.Pure
