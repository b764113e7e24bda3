/- Proved: signs of two texts with a newline between are those of both, the second one's places moved. No condition. -/
import Derived.Test.YtfmfgdlnkphoaaaPx7
import Derived.Test.YtfmfgdlnkphoaaaPureTokenPlaces
namespace Go.Proofs.Ytfmfgdlnkphoaaa.Pure
open Go.RowKit Go.Proofs.Ytfmfgdlnkphoaaa.Hand Go.Proofs.Ytfmfgdlnkphoaaa.Px Go.Proofs.YtfmfgdlnkphoaaaW.PrintWords Go.Proofs.YtfmfgdlnkphoaaaW.PrintLast
set_option linter.unusedVariables false
set_option linter.unusedSimpArgs false

theorem rn_append {t : List UInt8} (ht : rn t = []) : ∀ r : List UInt8, rn (r ++ t) = rn r
  | [] => by rw [List.nil_append, ht]; rfl
  | b :: r => by
    rw [List.cons_append, rn_cons, rn_cons, rn_append ht r]
theorem rest_append {t : List UInt8} (ht : rn t = []) (r : List UInt8) : rest (r ++ t) = rest r ++ t := by
  rw [rest_drop, rn_append ht, List.drop_append_of_le_length (rn_le r), ← rest_drop]
/-- Signs of a text that goes on with no byte of a word. -/
theorem sg_left {t : List UInt8} (ht : rn t = []) : ∀ (n : Nat) (u : List UInt8) (a : Nat) (acc : List S30), u.length ≤ n →
    sg (u ++ t) a acc = if (sg u a acc).2.2 = 0 then sg t (a + u.length) (sg u a acc).1 else sg u a acc := by
  intro n
  induction n with
  | zero =>
    intro u a acc h
    have : u = [] := List.length_eq_zero_iff.mp (by omega)
    subst this
    rw [sg_nil, if_pos rfl]; rfl
  | succ n ih =>
    intro u a acc h
    cases u with
    | nil => rw [sg_nil, if_pos rfl]; rfl
    | cons b r =>
      rw [List.length_cons] at h
      have h1 := congrArg List.length (rn_rest r)
      rw [List.length_append] at h1
      rw [List.cons_append, sg_cons, sg_cons b r, rn_append ht, rest_append ht, List.length_cons]
      split
      · rw [ih r _ _ (by omega), show a + 1 + r.length = a + (r.length + 1) from by omega]
      split
      · split
        · rw [if_neg (by simp)]
        · rw [ih (rest r) _ _ (by omega), show a + ((rn r).length + 1) + (rest r).length = a + (r.length + 1) from by omega]
      split
      · split
        · rw [if_neg (by simp)]
        · rw [ih (rest r) _ _ (by omega), show a + ((rn r).length + 1) + (rest r).length = a + (r.length + 1) from by omega]
      split
      · rw [ih r _ _ (by omega), show a + 1 + r.length = a + (r.length + 1) from by omega]
      · rw [if_neg (by simp)]
def sh (d : Nat) (x : S30) : S30 := ⟨x.f0, x.f1, x.f2 + (d : Int)⟩
theorem sg_shift (d : Nat) (A : List S30) : ∀ (n : Nat) (u : List UInt8) (a : Nat) (acc : List S30), u.length ≤ n →
    sg u (a + d) (A ++ acc.map (sh d)) = if (sg u a acc).2.2 = 0 then (A ++ (sg u a acc).1.map (sh d), 0, 0) else ([], (sg u a acc).2.1 + (d : Int), 80) := by
  intro n
  induction n with
  | zero =>
    intro u a acc h
    have : u = [] := List.length_eq_zero_iff.mp (by omega)
    subst this
    rw [sg_nil, sg_nil, if_pos rfl]
  | succ n ih =>
    intro u a acc h
    cases u with
    | nil => rw [sg_nil, sg_nil, if_pos rfl]
    | cons b r =>
      rw [List.length_cons] at h
      have h1 := rest_le r
      have hs : ∀ (q : Int) (w : ByteArray), A ++ acc.map (sh d) ++ [⟨q, w, ((a + d : Nat) : Int)⟩] = A ++ (acc ++ [(⟨q, w, (a : Int)⟩ : S30)]).map (sh d) := by
        intro q w
        rw [List.map_append, List.append_assoc]
        rfl
      rw [sg_cons, sg_cons b r a acc, hs, hs, hs]
      split
      · rw [show a + d + 1 = a + 1 + d from by omega, ih r _ _ (by omega)]
      split
      · split
        · rw [if_neg (by simp)]; rfl
        · rw [show a + d + ((rn r).length + 1) = a + ((rn r).length + 1) + d from by omega, ih (rest r) _ _ (by omega)]
      split
      · split
        · rw [if_neg (by simp)]; rfl
        · rw [show a + d + ((rn r).length + 1) = a + ((rn r).length + 1) + d from by omega, ih (rest r) _ _ (by omega)]
      split
      · rw [show a + d + 1 = a + 1 + d from by omega, ih r _ _ (by omega)]
      · rw [if_neg (by simp)]; rfl
theorem sg_at : ∀ (n : Nat) (u : List UInt8) (a : Nat) (acc : List S30), u.length ≤ n → (∀ x ∈ acc, 0 ≤ x.f2 ∧ x.f2 ≤ ((a + u.length : Nat) : Int)) → ∀ x ∈ (sg u a acc).1, 0 ≤ x.f2 ∧ x.f2 ≤ ((a + u.length : Nat) : Int) := by
  intro n
  induction n with
  | zero =>
    intro u a acc h hx
    have : u = [] := List.length_eq_zero_iff.mp (by omega)
    subst this
    rw [sg_nil]; exact hx
  | succ n ih =>
    intro u a acc h hx
    cases u with
    | nil => rw [sg_nil]; exact hx
    | cons b r =>
      rw [List.length_cons] at h hx ⊢
      have h1 := congrArg List.length (rn_rest r)
      rw [List.length_append] at h1
      have hy : ∀ (q : Int) (w : ByteArray), ∀ x ∈ acc ++ [(⟨q, w, (a : Int)⟩ : S30)], 0 ≤ x.f2 ∧ x.f2 ≤ ((a + (r.length + 1) : Nat) : Int) := by
        intro q w x hm
        rcases List.mem_append.mp hm with hm | hm
        · exact hx x hm
        · rw [List.mem_singleton.mp hm]; constructor
          · show (0 : Int) ≤ (a : Int); omega
          · show (a : Int) ≤ _; omega
      rw [sg_cons]
      split
      · have := ih r (a + 1) acc (by omega) (by rw [show a + 1 + r.length = a + (r.length + 1) from by omega]; exact hx)
        rw [show a + 1 + r.length = a + (r.length + 1) from by omega] at this; exact this
      split
      · split
        · intro x hm; cases hm
        · have := ih (rest r) (a + ((rn r).length + 1)) _ (by omega) (by rw [show a + ((rn r).length + 1) + (rest r).length = a + (r.length + 1) from by omega]; exact hy 1 (mkB (b :: rn r)))
          rw [show a + ((rn r).length + 1) + (rest r).length = a + (r.length + 1) from by omega] at this; exact this
      split
      · split
        · intro x hm; cases hm
        · have := ih (rest r) (a + ((rn r).length + 1)) _ (by omega) (by rw [show a + ((rn r).length + 1) + (rest r).length = a + (r.length + 1) from by omega]; exact hy 2 (mkB (rn r)))
          rw [show a + ((rn r).length + 1) + (rest r).length = a + (r.length + 1) from by omega] at this; exact this
      split
      · have := ih r (a + 1) _ (by omega) (by rw [show a + 1 + r.length = a + (r.length + 1) from by omega]; exact hy 3 (mkB [b]))
        rw [show a + 1 + r.length = a + (r.length + 1) from by omega] at this; exact this
      · intro x hm; cases hm
theorem joins_l0 (s : ByteArray) (hs : s.size ≤ 2000) (a b : List S30) (ha : a.length ≤ 4096) (hb : b.length ≤ 4096) (hat : ∀ x ∈ b, 0 ≤ x.f2 ∧ x.f2 ≤ 4096) : ∀ (d i k : Nat), i + d = b.length → 16500 ≤ k →
    sinewlaw08_TokenJoins.l0 (k + d + 1) s a b (a ++ b.map (sh (s.size + 1))) i = some true := by
  intro d
  induction d with
  | zero =>
    intro i k hi hk
    show sinewlaw08_TokenJoins.l0 (k + 1) s a b _ i = _
    rw [sinewlaw08_TokenJoins.l0, if_neg (by omega), awake_some _ hk]; rfl
  | succ d ih =>
    intro i k hi hk
    have hl : (a ++ b.map (sh (s.size + 1))).length = a.length + b.length := by rw [List.length_append, List.length_map]
    have hib : i < b.length := by omega
    have e1 : (a ++ b.map (sh (s.size + 1))).getD (a.length + i) z30 = sh (s.size + 1) (b.getD i z30) := by
      simp [List.getD, hib]
    have hm := hat (b.getD i z30) (by simp only [List.getD, List.getElem?_eq_getElem hib, Option.getD_some]; exact List.getElem_mem hib)
    rw [show k + (d + 1) + 1 = (k + d + 1) + 1 from rfl, sinewlaw08_TokenJoins.l0, if_pos (by omega), w64 ((a.length : Int) + (i : Int)) (by omega) (by omega), if_pos (by omega), if_pos (by rw [hl]; omega), if_pos (by omega)]
    rw [show ((a.length : Int) + (i : Int)) = ((a.length + i : Nat) : Int) from rfl, rd_nat, rd_nat, e1, if_pos (show (sh (s.size + 1) (b.getD i z30)).f0 = (b.getD i z30).f0 from rfl), if_pos (show (sh (s.size + 1) (b.getD i z30)).f1.toList = (b.getD i z30).f1.toList from rfl), w64 ((b.getD i z30).f2 + (s.size : Int)) (by omega) (by omega), w64 _ (by omega) (by omega), if_pos (by show (b.getD i z30).f2 + ((s.size + 1 : Nat) : Int) = _; omega), w64 _ (by omega) (by omega)]
    exact ih (i + 1) k (by omega) hk
theorem TokenJoins : sinewlaw08_TokenJoins.Pure := by
  intro s t hs ht
  refine ⟨40000, ?_⟩
  unfold sinewlaw08_TokenJoins.f
  have key : (s.size : Int) > 2000 ∨ (t.size : Int) > 2000 → sinewlaw08_TokenJoins.j0 40000 s t true = some true := by
    intro _
    rw [show 40000 = 39999 + 1 from rfl, sinewlaw08_TokenJoins.j0, if_pos rfl, awake_some _ (by omega)]; rfl
  by_cases c1 : (s.size : Int) > 2000
  · rw [if_pos c1]; exact key (.inl c1)
  rw [if_neg c1]
  by_cases c2 : (t.size : Int) > 2000
  · rw [decide_eq_true c2]; exact key (.inr c2)
  rw [decide_eq_false c2, show 40000 = 39999 + 1 from rfl, sinewlaw08_TokenJoins.j0, if_neg (by decide), signs_f s _ (by omega), signs_f t _ (by omega)]
  have h10 : (⟨#[10]⟩ : ByteArray).size = 1 := rfl
  have hz : ((s ++ (⟨#[10]⟩ : ByteArray)) ++ t).size = s.size + 1 + t.size := by rw [ByteArray.size_append, ByteArray.size_append]; rfl
  rw [signs_f ((s ++ (⟨#[10]⟩ : ByteArray)) ++ t) _ (by omega), hz, if_neg (by omega), if_neg (by omega), if_neg (by omega)]
  have hL : L ((s ++ (⟨#[10]⟩ : ByteArray)) ++ t) = L s ++ (10 :: L t) := by
    unfold L; rw [ByteArray.data_append, ByteArray.data_append, Array.toList_append, Array.toList_append, List.append_assoc]; rfl
  have hr : rn (10 :: L t) = [] := by rw [rn_cons, if_neg (by decide)]
  have hsz := L_length s
  have htz := L_length t
  simp only [Option.bind_some]
  rw [if_pos (by omega), if_pos (by rw [ByteArray.size_append]; omega), hL, sg_left hr _ (L s) 0 [] (Nat.le_refl _)]
  have hsl := sg_len _ (L s) 0 [] (Nat.le_refl _)
  have htl := sg_len _ (L t) 0 [] (Nat.le_refl _)
  rw [List.length_nil] at hsl htl
  by_cases e1 : (sg (L s) 0 []).2.2 = 0
  · rw [if_pos e1, e1, if_pos rfl, show sg (10 :: L t) (0 + (L s).length) (sg (L s) 0 []).1 = sg (L t) (s.size + 1) (sg (L s) 0 []).1 from by rw [sg_cons, if_pos (by decide), Nat.zero_add, hsz]]
    have hsh := sg_shift (s.size + 1) (sg (L s) 0 []).1 _ (L t) 0 [] (Nat.le_refl _)
    rw [List.map_nil, List.append_nil, Nat.zero_add] at hsh
    rw [hsh]
    by_cases e2 : (sg (L t) 0 []).2.2 = 0
    · rw [if_pos e2, if_pos e2, if_pos rfl]
      rw [List.length_append, List.length_map, w64 _ (by omega) (by omega), if_pos (by omega), if_pos (by omega), if_pos (by omega)]
      rw [show ((((sg (L s) 0 []).1.length : Int)) : Int).toNat = (sg (L s) 0 []).1.length from by omega, List.take_left, same_self _ (by omega) _ (by omega), Option.bind_some]
      rw [show 39999 = 39998 + 1 from rfl, sinewlaw08_TokenJoins.j1, if_neg (by decide)]
      have hat := sg_at _ (L t) 0 [] (Nat.le_refl _) (fun x h => by cases h)
      have := joins_l0 s (by omega) (sg (L s) 0 []).1 (sg (L t) 0 []).1 (by omega) (by omega) (fun x hx => ⟨(hat x hx).1, by have := (hat x hx).2; omega⟩) (sg (L t) 0 []).1.length 0 (39998 - (sg (L t) 0 []).1.length - 1) (by omega) (by omega)
      rw [show 39998 - (sg (L t) 0 []).1.length - 1 + (sg (L t) 0 []).1.length + 1 = 39998 from by omega] at this
      exact this
    · rw [if_neg e2, if_neg e2, if_pos rfl]
      obtain ⟨p, hp, _⟩ := sg_err _ (L t) 0 [] (Nat.le_refl _) e2
      rw [hp, if_pos (by show (p : Int) + ((s.size + 1 : Nat) : Int) > (s.size : Int); omega), awake_some _ (by omega)]; rfl
  · rw [if_neg e1, if_neg e1]
    obtain ⟨p, hp, h1, h2⟩ := sg_err _ (L s) 0 [] (Nat.le_refl _) e1
    rw [hp, if_pos rfl, if_pos (by show (p : Int) < (s.size : Int); omega), awake_some _ (by omega)]; rfl
end Go.Proofs.Ytfmfgdlnkphoaaa.Pure
