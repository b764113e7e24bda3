/- Proved: two texts, and two lists, one behind the other, are read one by one. No condition. -/
import Derived.Test.YtjeoenpkhfmafaaPx7
import Derived.Test.YtjeoenpkhfmafaaPureOctetCuts
namespace Go.Proofs.Ytjeoenpkhfmafaa.Pure
open Go.RowKit Go.Proofs.Ytjeoenpkhfmafaa.Hand Go.Proofs.Ytjeoenpkhfmafaa.Pa Go.Proofs.Ytjeoenpkhfmafaa.Px Go.Proofs.YtjeoenpkhfmafaaW.PrintWords Go.Proofs.YtjeoenpkhfmafaaW.PrintLast
set_option linter.unusedVariables false
set_option linter.unusedSimpArgs false

theorem two_j5 (l : List ByteArray) (hl : l.length ≤ 60) (h : ∀ s ∈ l, s.size ≤ 1024) (all : ByteArray) (p q : List UInt8) (t : List UInt8) (hall : L all = p ++ (q ++ (putL (l.map L) ++ t))) (hsz : all.size ≤ 4611686018427387903) (k : Nat) (hk : 4200 ≤ k) :
    sinewlaw01_OctetTwo.j5 k l (mkB (putL (l.map L))) all (p.length : Int) (q.length : Int) false = some true := by
  obtain ⟨k, rfl⟩ : ∃ j, k = (j + 4108) + 1 := ⟨k - 4109, by omega⟩
  have hlen := congrArg List.length hall
  simp only [List.length_append, L_length] at hlen
  have e : ((p.length : Int) + (q.length : Int)).toNat = p.length + q.length := by omega
  have hd : L (all.extract (p.length + q.length) all.size) = putL (l.map L) ++ t := by
    rw [L_from, hall, ← List.append_assoc]
    exact List.drop_left' (by simp)
  rw [sinewlaw01_OctetTwo.j5, if_neg (by decide), w64 _ (by omega) (by omega), if_pos (by omega), if_pos (by omega), e, octet_list _ (extract_le _ _ hsz), hd, listL_put _ (by rw [List.length_map]; omega) (sizes_map (fun s hs => by have := h s hs; omega)), Option.bind_some]
  have hR : R3 (l.map L, (putL (l.map L)).length, 0) = (l, ((putL (l.map L)).length : Int), 0) := by
    simp only [R3]; rw [map_mkB_L]; rfl
  rw [hR, same_f l l (by omega) _ (by omega), decide_eq_true rfl, Option.bind_some, if_pos rfl, mkB_size, if_pos rfl, if_pos rfl, show k + 4108 = (k + 4097) + 11 from rfl, texts_some]; rfl
theorem two_j4 (b : ByteArray) (hb : b.size ≤ 1024) (l : List ByteArray) (hl : l.length ≤ 60) (h : ∀ s ∈ l, s.size ≤ 1024) (all : ByteArray) (p : List UInt8) (t : List UInt8) (hall : L all = p ++ (putS (L b) ++ (putL (l.map L) ++ t))) (hsz : all.size ≤ 4611686018427387903) (k : Nat) (hk : 4201 ≤ k) :
    sinewlaw01_OctetTwo.j4 k b l (mkB (putS (L b))) (mkB (putL (l.map L))) all (p.length : Int) false = some true := by
  obtain ⟨k, rfl⟩ : ∃ j, k = (j + 11) + 1 := ⟨k - 12, by omega⟩
  have hlen := congrArg List.length hall
  simp only [List.length_append, L_length] at hlen
  have e : ((p.length : Int)).toNat = p.length := by omega
  have hd : L (all.extract p.length all.size) = putS (L b) ++ (putL (l.map L) ++ t) := by
    rw [L_from, hall]; exact List.drop_left
  have hbl := L_length b
  rw [sinewlaw01_OctetTwo.j4, if_neg (by decide), if_pos (by omega), if_pos (by omega), e, octet_str _ (extract_le _ _ hsz), hd, strL_put _ (by omega), Option.bind_some]
  have hS : S3 (L b, (putS (L b)).length, 0) = (b, ((putS (L b)).length : Int), 0) := by
    simp only [S3]; rw [mkB_L]; rfl
  rw [hS, if_pos rfl, mkB_size, if_pos rfl]
  exact two_j5 l hl h all p (putS (L b)) t hall hsz _ (by omega)
theorem two_fin (a b : ByteArray) (l : List ByteArray) (n : Int) (k : Nat) (hk : 4700 ≤ k) (h : n ≤ 1024 → l.length ≤ 60 → ∀ s ∈ l, s.size ≤ 1024) : sinewlaw01_OctetTwo.j1 k a b l n = some true := by
  have key : ∀ k, sinewlaw01_OctetTwo.j2 (k + 12) a b l true = some true := by
    intro k; rw [sinewlaw01_OctetTwo.j2, if_pos rfl, texts_some]; rfl
  obtain ⟨k, rfl⟩ : ∃ j, k = (j + 11) + 1 + 1 + 1 := ⟨k - 14, by omega⟩
  rw [sinewlaw01_OctetTwo.j1]
  by_cases c0 : (a.size : Int) > 1024
  · rw [if_pos c0]; exact key _
  rw [if_neg c0]
  by_cases c1 : (b.size : Int) > 1024
  · rw [if_pos c1]; exact key _
  rw [if_neg c1]
  by_cases c : n > 1024
  · rw [if_pos c]; exact key _
  rw [if_neg c]
  by_cases c2 : (l.length : Int) > 60
  · rw [decide_eq_true c2]; exact key _
  have hall := h (by omega) (by omega)
  have hla := L_length a
  have hlb := L_length b
  have p1 := putS_len (L a)
  have p2 := putS_len (L b)
  have hlen := putL_len 1024 (l.map L) (sizes_map hall)
  rw [List.length_map] at hlen
  have hmul : l.length * (1024 + 9) ≤ 60 * (1024 + 9) := Nat.mul_le_mul_right _ (by omega)
  have hL : L (mkB (putS (L a)) ++ mkB (putS (L b)) ++ mkB (putL (l.map L)) ++ mkB (putS (L a))) = putS (L a) ++ (putS (L b) ++ (putL (l.map L) ++ putS (L a))) := by
    rw [L_append, L_append, L_append, L_mkB, L_mkB, L_mkB, List.append_assoc, List.append_assoc]
  have hz : (mkB (putS (L a)) ++ mkB (putS (L b)) ++ mkB (putL (l.map L)) ++ mkB (putS (L a))).size ≤ 4611686018427387903 := by
    rw [← L_length, hL]
    simp only [List.length_append]
    omega
  rw [decide_eq_false c2, sinewlaw01_OctetTwo.j2, if_neg (by decide), putstr_f a (by omega), putstr_f b (by omega), putlist_f l (by omega) (fun s hs => by have := hall s hs; omega), Option.bind_some, Option.bind_some, Option.bind_some, if_pos rfl, if_pos rfl]
  show sinewlaw01_OctetTwo.j3 _ a b l _ _ _ false = _
  rw [sinewlaw01_OctetTwo.j3, if_neg (by decide), mkB_size, mkB_size, if_pos (by omega), if_pos (by rw [ByteArray.size_append, mkB_size, mkB_size, mkB_size]; omega), if_pos (by rw [ByteArray.size_append, ByteArray.size_append, mkB_size, mkB_size, mkB_size]; omega)]
  rw [octet_str _ hz, hL, strL_put _ (by omega), Option.bind_some]
  have hS : S3 (L a, (putS (L a)).length, 0) = (a, ((putS (L a)).length : Int), 0) := by
    simp only [S3]; rw [mkB_L]; rfl
  rw [hS, if_pos rfl, if_pos rfl]
  exact two_j4 b (by omega) l (by omega) hall _ (putS (L a)) (putS (L a)) hL hz _ (by omega)
theorem two_l0 (a b : ByteArray) (l : List ByteArray) (hm : l.length ≤ 9000000000000000000) : ∀ (d i n k : Nat), i + d = 100 → i ≤ l.length → n ≤ 2048 * i → (∀ j, j < i → (l.getD j ByteArray.empty).size ≤ n ∨ 2048 ≤ n) → 4800 + d ≤ k →
    sinewlaw01_OctetTwo.l0 k a b l n i = some true := by
  intro d
  induction d with
  | zero =>
    intro i n k hi hil hn h hk
    obtain ⟨k, rfl⟩ : ∃ j, k = j + 1 := ⟨k - 1, by omega⟩
    rw [sinewlaw01_OctetTwo.l0]
    have fin := two_fin a b l n k (by omega) (fun _ h2 => absurd h2 (by omega))
    split
    · rw [if_neg (by omega)]; exact fin
    · exact fin
  | succ d ih =>
    intro i n k hi hil hn h hk
    obtain ⟨k, rfl⟩ : ∃ j, k = j + 1 := ⟨k - 1, by omega⟩
    rw [sinewlaw01_OctetTwo.l0]
    by_cases c : (i : Int) < (l.length : Int)
    · have hmn : mn ((l.getD i ByteArray.empty).size : Int) 2048 = ((min (l.getD i ByteArray.empty).size 2048 : Nat) : Int) := by unfold mn; split <;> omega
      rw [if_pos c, if_pos (by omega), if_pos (by omega), rdOf_nat, hmn, w64 _ (by omega) (by omega), w64 _ (by omega) (by omega)]
      refine ih (i + 1) (n + min (l.getD i ByteArray.empty).size 2048) k (by omega) (by omega) (by omega) ?_ (by omega)
      intro j hj
      by_cases e : j = i
      · subst e; omega
      · have := h j (by omega); omega
    · rw [if_neg c]
      refine two_fin a b l n k (by omega) (fun h1 h2 => mem_getD (fun j hj => ?_))
      have := h j (by omega); omega
theorem OctetTwo (a b : ByteArray) (l : List ByteArray) (hm : l.length * 16 ≤ 140737488351232) : ∃ k, sinewlaw01_OctetTwo.f k a b l = some true := by
  refine ⟨5000, ?_⟩
  unfold sinewlaw01_OctetTwo.f
  exact two_l0 a b l (by omega) 100 0 0 5000 (by omega) (by omega) (by omega) (fun j h => by omega) (by omega)
theorem OctetTwo_call (a b : ByteArray) (A : Option Addr) (c : Nat) (l : List ByteArray) (w : World) (ha : a.size ≤ 140737488351232) (hb : b.size ≤ 140737488351232) (hr : Kd.C Kd.string w A l.length l) (hc : l.length ≤ c) (hm : l.length * 16 ≤ 140737488351232) (hs : ∀ s ∈ l, s.size ≤ maxLen) :
    Calls Try.prog 11 #[.string a, .string b, .slice A l.length c] w fun e w' => e = .returned (.bool true) ∧ Below w.heap.size w w' := by
  obtain ⟨k, h⟩ := OctetTwo a b l hm
  exact sinewlaw01_OctetTwo.calls k a b A c l true w hr hc h
end Go.Proofs.Ytjeoenpkhfmafaa.Pure
