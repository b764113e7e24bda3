/- Proved: bytes that lack some are told to end too soon. No condition. -/
import Derived.Test.YtjeoenpkhfmafaaPx6
import Derived.Test.YtjeoenpkhfmafaaPureOctetJoins
namespace Go.Proofs.Ytjeoenpkhfmafaa.Pure
open Go.RowKit Go.Proofs.Ytjeoenpkhfmafaa.Hand Go.Proofs.Ytjeoenpkhfmafaa.Pa Go.Proofs.Ytjeoenpkhfmafaa.Px Go.Proofs.YtjeoenpkhfmafaaW.PrintWords Go.Proofs.YtjeoenpkhfmafaaW.PrintLast
set_option linter.unusedVariables false
set_option linter.unusedSimpArgs false

theorem and16 (z : Int) : 0 ≤ Go.bits .and .i64 z 65535 ∧ Go.bits .and .i64 z 65535 ≤ 65535 := by
  have h : Go.bits .and .i64 z 65535 = IntKind.i64.wrap (((BitVec.ofInt 64 z).toNat &&& 65535 : Nat) : Int) := by
    show IntKind.i64.wrap ((BitVec.ofInt 64 z &&& BitVec.ofInt 64 65535).toNat : Int) = _
    rw [BitVec.toNat_and]; rfl
  have h1 : (BitVec.ofInt 64 z).toNat &&& 65535 ≤ 65535 := Nat.and_le_right
  rw [h, IntKind.wrap_i64]
  omega
theorem cut_at (z : Int) (n : Nat) (hn : 0 < n) : ∃ j : Nat, Int.tmod (Go.bits .and .i64 z 65535) (n : Int) = (j : Int) ∧ j < n := by
  obtain ⟨h0, h1⟩ := and16 z
  rw [Int.tmod_eq_emod_of_nonneg h0]
  have h2 := Int.emod_nonneg (Go.bits .and .i64 z 65535) (show (n : Int) ≠ 0 by omega)
  have h3 := Int.emod_lt_of_pos (Go.bits .and .i64 z 65535) (show (0 : Int) < (n : Int) by omega)
  exact ⟨(Go.bits .and .i64 z 65535 % (n : Int)).toNat, by omega, by omega⟩
theorem cut_L (l : List UInt8) (j : Nat) : L ((mkB l).extract 0 ((j : Int) : Int).toNat) = l.take j := by
  rw [L_extract, L_mkB, show ((j : Int) : Int).toNat = j from by omega, List.drop_zero, Nat.sub_zero]
theorem cut_size (l : List UInt8) (j : Nat) : ((mkB l).extract 0 ((j : Int) : Int).toNat).size ≤ l.length := by
  rw [← L_length, cut_L, List.length_take]; omega
theorem cuts_l1 (l : List ByteArray) (x : Int) (hl : l.length ≤ 60) (h : ∀ s ∈ l, s.size ≤ 65536) : ∀ (d i k : Nat), i + d = l.length → 20 + 2 * d ≤ k → sinewlaw01_OctetCuts.l1 k l x i = some true := by
  intro d
  induction d with
  | zero =>
    intro i k hi hk
    obtain ⟨k, rfl⟩ : ∃ j, k = j + 1 := ⟨k - 1, by omega⟩
    rw [sinewlaw01_OctetCuts.l1, if_neg (by omega), lists_some]; rfl
  | succ d ih =>
    intro i k hi hk
    obtain ⟨k, rfl⟩ : ∃ j, k = (j + 11) + 1 + 1 := ⟨k - 13, by omega⟩
    have hs : (l.getD i ByteArray.empty).size ≤ 65536 := by
      have hi' : i < l.length := by omega
      simp only [List.getD, List.getElem?_eq_getElem hi', Option.getD_some]
      exact h _ (List.getElem_mem hi')
    have hp : 0 < (putS (L (l.getD i ByteArray.empty))).length := by unfold putS; rw [List.length_append, putN_length]; omega
    obtain ⟨j, hj, hjl⟩ := cut_at x _ hp
    have hne : (((putS (L (l.getD i ByteArray.empty))).length : Int) == 0) = false := beq_eq_false_iff_ne.mpr (by omega)
    have hlen := putS_len (L (l.getD i ByteArray.empty))
    have hLl := L_length (l.getD i ByteArray.empty)
    have hcs := cut_size (putS (L (l.getD i ByteArray.empty))) j
    rw [sinewlaw01_OctetCuts.l1, if_pos (by omega), if_pos (by omega), rdOf_nat, putstr_f _ hs, Option.bind_some, if_pos rfl]
    rw [sinewlaw01_OctetCuts.j6, mkB_size, hne, if_neg (by decide), if_neg (by omega), hj, if_pos (by omega), if_pos (by omega), octet_str _ (Nat.le_trans hcs (by omega)), cut_L, strL_cut _ (by omega) j hjl, Option.bind_some]
    rw [if_pos (show (S3 ([], 0, 11)).1.toList = [] from by rw [L_toList]; exact L_mkB []), if_pos (show (S3 ([], 0, 11)).2.1 = 0 from rfl), if_pos (show (S3 ([], 0, 11)).2.2 = 11 from rfl), w64 _ (by omega) (by omega)]
    exact ih (i + 1) _ (by omega) (by omega)
theorem cuts_fin (l : List ByteArray) (x : Int) (n : Int) (k : Nat) (hk : 4600 ≤ k) (h : n ≤ 1024 → l.length ≤ 60 → ∀ s ∈ l, s.size ≤ 1024) : sinewlaw01_OctetCuts.j1 k l x n = some true := by
  have key : ∀ k, sinewlaw01_OctetCuts.j2 (k + 1) l x true = some true := by
    intro k; rw [sinewlaw01_OctetCuts.j2, if_pos rfl, lists_some]; rfl
  obtain ⟨k, rfl⟩ : ∃ j, k = (j + 4108) + 1 + 1 + 1 := ⟨k - 4111, by omega⟩
  rw [sinewlaw01_OctetCuts.j1]
  by_cases c : n > 1024
  · rw [if_pos c]; exact key _
  rw [if_neg c]
  by_cases c2 : (l.length : Int) > 60
  · rw [decide_eq_true c2]; exact key _
  have hall := h (by omega) (by omega)
  have hall2 : ∀ s ∈ l, s.size ≤ 65536 := fun s hs => by have := hall s hs; omega
  have hp := putL_pos (l.map L)
  have hlen := putL_len 1024 (l.map L) (sizes_map hall)
  rw [List.length_map] at hlen
  have hmul : l.length * (1024 + 9) ≤ 60 * (1024 + 9) := Nat.mul_le_mul_right _ (by omega)
  have hne : (((putL (l.map L)).length : Int) == 0) = false := beq_eq_false_iff_ne.mpr (by omega)
  obtain ⟨j, hj, hjl⟩ := cut_at x _ hp
  have hcs := cut_size (putL (l.map L)) j
  rw [decide_eq_false c2, sinewlaw01_OctetCuts.j2, if_neg (by decide), putlist_f l (by omega) hall2, Option.bind_some, if_pos rfl]
  rw [sinewlaw01_OctetCuts.j3, mkB_size, hne, if_neg (by decide), if_neg (by omega), hj, if_pos (by omega), if_pos (by omega), octet_list _ (Nat.le_trans hcs (by omega)), cut_L, listL_cut _ (by rw [List.length_map]; omega) (sizes_map hall2) j hjl, Option.bind_some]
  have e : ((R3 ([], 0, 11)).2.2 != 11) = false := rfl
  rw [if_neg (show ¬ ((R3 ([], 0, 11)).1.length : Int) > 0 by decide), if_pos (show (R3 ([], 0, 11)).2.1 = 0 from rfl), e]
  rw [show k + 4108 = (k + 4107) + 1 from rfl, sinewlaw01_OctetCuts.j4, if_neg (by decide)]
  exact cuts_l1 l x (by omega) hall2 l.length 0 _ (by omega) (by omega)
theorem cuts_l0 (l : List ByteArray) (x : Int) (hm : l.length ≤ 9000000000000000000) : ∀ (d i n k : Nat), i + d = 100 → i ≤ l.length → n ≤ 2048 * i → (∀ j, j < i → (l.getD j ByteArray.empty).size ≤ n ∨ 2048 ≤ n) → 4700 + d ≤ k →
    sinewlaw01_OctetCuts.l0 k l x n i = some true := by
  intro d
  induction d with
  | zero =>
    intro i n k hi hil hn h hk
    obtain ⟨k, rfl⟩ : ∃ j, k = j + 1 := ⟨k - 1, by omega⟩
    rw [sinewlaw01_OctetCuts.l0]
    have fin := cuts_fin l x n k (by omega) (fun _ h2 => absurd h2 (by omega))
    split
    · rw [if_neg (by omega)]; exact fin
    · exact fin
  | succ d ih =>
    intro i n k hi hil hn h hk
    obtain ⟨k, rfl⟩ : ∃ j, k = j + 1 := ⟨k - 1, by omega⟩
    rw [sinewlaw01_OctetCuts.l0]
    by_cases c : (i : Int) < (l.length : Int)
    · have hmn : mn ((l.getD i ByteArray.empty).size : Int) 2048 = ((min (l.getD i ByteArray.empty).size 2048 : Nat) : Int) := by unfold mn; split <;> omega
      rw [if_pos c, if_pos (by omega), if_pos (by omega), rdOf_nat, hmn, w64 _ (by omega) (by omega), w64 _ (by omega) (by omega)]
      refine ih (i + 1) (n + min (l.getD i ByteArray.empty).size 2048) k (by omega) (by omega) (by omega) ?_ (by omega)
      intro j hj
      by_cases e : j = i
      · subst e; omega
      · have := h j (by omega); omega
    · rw [if_neg c]
      refine cuts_fin l x n k (by omega) (fun h1 h2 => mem_getD (fun j hj => ?_))
      have := h j (by omega); omega
theorem OctetCuts (l : List ByteArray) (x : Int) (hm : l.length * 16 ≤ 140737488351232) : ∃ k, sinewlaw01_OctetCuts.f k l x = some true := by
  refine ⟨5000, ?_⟩
  unfold sinewlaw01_OctetCuts.f
  exact cuts_l0 l x (by omega) 100 0 0 5000 (by omega) (by omega) (by omega) (fun j h => by omega) (by omega)
theorem OctetCuts_call (A : Option Addr) (c : Nat) (l : List ByteArray) (x : Int) (w : World) (hr : Kd.C Kd.string w A l.length l) (hc : l.length ≤ c) (hm : l.length * 16 ≤ 140737488351232) (hs : ∀ s ∈ l, s.size ≤ maxLen) (hx : (Lit.int .i64 x).wf = true) :
    Calls Try.prog 10 #[.slice A l.length c, .int .i64 x] w fun e w' => e = .returned (.bool true) ∧ Below w.heap.size w w' := by
  obtain ⟨k, h⟩ := OctetCuts l x hm
  exact sinewlaw01_OctetCuts.calls k A c l x true w hr hc h
end Go.Proofs.Ytjeoenpkhfmafaa.Pure
