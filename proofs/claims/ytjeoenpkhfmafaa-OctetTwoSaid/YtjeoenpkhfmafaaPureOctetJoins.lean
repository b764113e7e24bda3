/- Proved: a list's bytes are the document's, and the list is read back from them, whatever follows. No condition. -/
import Derived.Test.YtjeoenpkhfmafaaPx5
import Derived.Test.YtjeoenpkhfmafaaHrow
import Derived.Test.YtjeoenpkhfmafaaPureOctetLists
namespace Go.Proofs.Ytjeoenpkhfmafaa.Pure
open Go.RowKit Go.Proofs.Ytjeoenpkhfmafaa.Hand Go.Proofs.Ytjeoenpkhfmafaa.Pa Go.Proofs.Ytjeoenpkhfmafaa.Px Go.Proofs.YtjeoenpkhfmafaaW.PrintWords Go.Proofs.YtjeoenpkhfmafaaW.PrintLast
set_option linter.unusedVariables false
set_option linter.unusedSimpArgs false

theorem mkB_size (l : List UInt8) : (mkB l).size = l.length := by rw [← L_length, L_mkB]
theorem putN_len (n : Nat) : (putN n).length ≤ 9 := by
  rw [putN_length]; have := nlen_le n; omega
theorem putS_len (s : List UInt8) : (putS s).length ≤ s.length + 9 := by
  unfold putS; rw [List.length_append]; have := putN_len s.length; omega
theorem catS_len (c : Nat) : ∀ l : List (List UInt8), (∀ s ∈ l, s.length ≤ c) → (catS l).length ≤ l.length * (c + 9)
  | [], _ => by simp [catS]
  | s :: r, h => by
    have h1 := catS_len c r (fun x hx => h x (List.mem_cons_of_mem _ hx))
    have h2 := h s List.mem_cons_self
    have h3 := putS_len s
    simp only [catS, List.length_append, List.length_cons, Nat.succ_mul] at *
    omega
theorem putL_len (c : Nat) (l : List (List UInt8)) (h : ∀ s ∈ l, s.length ≤ c) : (putL l).length ≤ l.length * (c + 9) + 9 := by
  unfold putL; rw [List.length_append]
  have := catS_len c l h; have := putN_len l.length; omega
theorem putL_pos (l : List (List UInt8)) : 0 < (putL l).length := by
  unfold putL; rw [List.length_append, putN_length]; omega
theorem sizes_map {l : List ByteArray} {c : Nat} (h : ∀ s ∈ l, s.size ≤ c) : ∀ s ∈ l.map L, s.length ≤ c := by
  intro s hs
  obtain ⟨x, hx, rfl⟩ := List.mem_map.mp hs
  rw [L_length]; exact h x hx
theorem mem_getD {l : List ByteArray} {c : Nat} (h : ∀ j, j < l.length → (l.getD j ByteArray.empty).size ≤ c) : ∀ s ∈ l, s.size ≤ c := by
  intro s hs
  obtain ⟨j, hj, e⟩ := List.getElem_of_mem hs
  have := h j hj
  simp only [List.getD, List.getElem?_eq_getElem hj, Option.getD_some, e] at this
  exact this
theorem joins_fin (l : List ByteArray) (a : ByteArray) (ha : a.size ≤ 140737488351232) (hm : l.length ≤ 9000000000000000000) (h : ∀ j, j < l.length → j < 5000 → (l.getD j ByteArray.empty).size ≤ 4096) (n i : Int) (k : Nat) (hk : 4200 ≤ k) :
    sinewlaw01_OctetJoins.j1 k l a n i false = some true := by
  obtain ⟨k, rfl⟩ : ∃ j, k = (j + 4108) + 1 + 1 + 1 := ⟨k - 4111, by omega⟩
  rw [sinewlaw01_OctetJoins.j1, if_neg (by decide)]
  by_cases c : 4096 < l.length
  · have e : octet_PutList.f l = some (⟨#[]⟩, 12) := by unfold octet_PutList.f; rw [if_pos c]
    have e2 : sinewref01_PutList.f l = some (⟨#[]⟩, 12) := e
    rw [e, e2, Option.bind_some, Option.bind_some, if_pos rfl]
    show sinewlaw01_OctetJoins.j2 _ l a _ 12 false = _
    rw [sinewlaw01_OctetJoins.j2, if_neg (by decide), if_neg (by decide), sinewlaw01_OctetJoins.j3, if_pos rfl, lists_some]; rfl
  have hall : ∀ s ∈ l, s.size ≤ 4096 := mem_getD (fun j hj => h j hj (by omega))
  have hall2 : ∀ s ∈ l, s.size ≤ 65536 := fun s hs => by have := hall s hs; omega
  have e := putlist_f l (by omega) hall2
  have e2 : sinewref01_PutList.f l = some (mkB (putL (l.map L)), 0) := e
  rw [e, e2, Option.bind_some, Option.bind_some, if_pos rfl]
  show sinewlaw01_OctetJoins.j2 _ l a _ 0 false = _
  rw [sinewlaw01_OctetJoins.j2, if_neg (by decide), if_pos rfl, sinewlaw01_OctetJoins.j3]
  by_cases c2 : (a.size : Int) > 16384
  · rw [decide_eq_true c2, if_pos rfl, lists_some]; rfl
  have hlen := putL_len 4096 (l.map L) (sizes_map hall)
  rw [List.length_map] at hlen
  have hmul : l.length * (4096 + 9) ≤ 4096 * (4096 + 9) := Nat.mul_le_mul_right _ (by omega)
  have hz : (mkB (putL (l.map L)) ++ a).size = (putL (l.map L)).length + a.size := by rw [ByteArray.size_append, mkB_size]
  rw [decide_eq_false c2, if_neg (by decide), mkB_size, if_pos (by omega), octet_list _ (by rw [hz]; omega), L_append, L_mkB, listL_put _ (by rw [List.length_map]; omega) (sizes_map hall2), Option.bind_some]
  have hR : R3 (l.map L, (putL (l.map L)).length, 0) = (l, ((putL (l.map L)).length : Int), 0) := by
    simp only [R3]; rw [map_mkB_L]; rfl
  rw [hR, same_f l l (by omega) _ (by omega), decide_eq_true rfl, Option.bind_some, if_pos rfl, if_pos rfl, if_pos rfl, lists_some]; rfl
theorem joins_l0 (l : List ByteArray) (a : ByteArray) (ha : a.size ≤ 140737488351232) (hm : l.length ≤ 9000000000000000000) : ∀ (d i n k : Nat), i + d = 5001 → i ≤ l.length → n ≤ 4096 → (∀ j, j < i → (l.getD j ByteArray.empty).size ≤ 4096) → 4300 + 2 * d ≤ k →
    sinewlaw01_OctetJoins.l0 k l a n i = some true := by
  intro d
  induction d with
  | zero =>
    intro i n k hi hil hn h hk
    obtain ⟨k, rfl⟩ : ∃ j, k = j + 1 := ⟨k - 1, by omega⟩
    rw [sinewlaw01_OctetJoins.l0]
    have e : decide ((i : Int) < 5000) = false := decide_eq_false (by omega)
    rw [e]
    split <;> exact joins_fin l a ha hm (fun j h1 h2 => h j (by omega)) _ _ _ (by omega)
  | succ d ih =>
    intro i n k hi hil hn h hk
    obtain ⟨k, rfl⟩ : ∃ j, k = j + 1 + 1 := ⟨k - 2, by omega⟩
    rw [sinewlaw01_OctetJoins.l0]
    by_cases c : (i : Int) < (l.length : Int)
    · rw [if_pos c]
      by_cases c5 : (i : Int) < 5000
      · rw [decide_eq_true c5, sinewlaw01_OctetJoins.j1, if_pos rfl, if_pos (by omega), if_pos c, rdOf_nat]
        by_cases c1 : ((l.getD i ByteArray.empty).size : Int) > 4096
        · rw [if_pos c1, lists_some]; rfl
        have hmn : mn ((l.getD i ByteArray.empty).size : Int) 4096 = ((l.getD i ByteArray.empty).size : Int) := by unfold mn; split <;> omega
        rw [if_neg c1, hmn, w64 _ (by omega) (by omega)]
        by_cases c2 : (n : Int) + ((l.getD i ByteArray.empty).size : Int) > 4096
        · rw [if_pos c2, lists_some]; rfl
        rw [if_neg c2, w64 _ (by omega) (by omega)]
        refine ih (i + 1) (n + (l.getD i ByteArray.empty).size) k (by omega) (by omega) (by omega) ?_ (by omega)
        intro j hj
        by_cases e : j = i
        · subst e; omega
        · exact h j (by omega)
      · rw [decide_eq_false c5]
        exact joins_fin l a ha hm (fun j h1 h2 => h j (by omega)) _ _ _ (by omega)
    · rw [if_neg c]
      exact joins_fin l a ha hm (fun j h1 h2 => h j (by omega)) _ _ _ (by omega)
theorem OctetJoins (l : List ByteArray) (a : ByteArray) (hm : l.length * 16 ≤ 140737488351232) (ha : a.size ≤ 140737488351232) : ∃ k, sinewlaw01_OctetJoins.f k l a = some true := by
  refine ⟨15000, ?_⟩
  unfold sinewlaw01_OctetJoins.f
  exact joins_l0 l a ha (by omega) 5001 0 0 15000 (by omega) (by omega) (by omega) (fun j h => by omega) (by omega)
theorem OctetJoins_call (A : Option Addr) (c : Nat) (l : List ByteArray) (a : ByteArray) (w : World) (hr : Kd.C Kd.string w A l.length l) (hc : l.length ≤ c) (hm : l.length * 16 ≤ 140737488351232) (hs : ∀ s ∈ l, s.size ≤ maxLen) (ha : a.size ≤ 140737488351232) :
    Calls Try.prog 9 #[.slice A l.length c, .string a] w fun e w' => e = .returned (.bool true) ∧ Below w.heap.size w w' := by
  obtain ⟨k, h⟩ := OctetJoins l a hm ha
  exact sinewlaw01_OctetJoins.calls k A c l a true w hr hc h
end Go.Proofs.Ytjeoenpkhfmafaa.Pure
