import Derived.Test.YtjeoenpkhfmafaaHnum
/- The program's and the document's texts and lists: the plain law. -/
namespace Go.Proofs.Ytjeoenpkhfmafaa.Hand
open Go.RowKit Go.Proofs.YtjeoenpkhfmafaaW.PrintWords Go.Proofs.YtjeoenpkhfmafaaW.PrintLast Go.Proofs.YtjeoenpkhfmafaaW.PrintMore Go.Proofs.Ytjeoenpkhfmafaa.Px Go.Proofs.Ytjeoenpkhfmafaa.Pa
set_option linter.unusedVariables false
set_option linter.unusedSimpArgs false

def mkB (l : List UInt8) : ByteArray := ⟨l.toArray⟩
theorem L_mkB (l : List UInt8) : L (mkB l) = l := by simp [L, mkB]
theorem mkB_L (s : ByteArray) : mkB (L s) = s := by
  unfold mkB L
  cases s
  simp
theorem L_inj {s t : ByteArray} (h : L s = L t) : s = t := by rw [← mkB_L s, ← mkB_L t, h]
theorem L_extract (s : ByteArray) (a b : Nat) : L (s.extract a b) = ((L s).drop a).take (b - a) := by
  unfold L
  rw [ByteArray.data_extract, Array.toList_extract, List.extract_eq_take_drop]
theorem L_append (s t : ByteArray) : L (s ++ t) = L s ++ L t := Go.Joins.data_append s t
def S3 (x : List UInt8 × Nat × Nat) : ByteArray × Int × Int := (mkB x.1, (x.2.1 : Int), (x.2.2 : Int))
theorem str_tail (s : ByteArray) (hsz : s.size ≤ 4611686018427387903) (n u e : Nat) (hx : numL (L s) = (n, u, e)) :
    (if (e : Int) = 0 then (if (n : Int) > 65536 then (some ((⟨#[]⟩ : ByteArray), (0 : Int), (12 : Int))) else (if (n : Int) > (wrap64 ((s.size : Int) - (u : Int))) then (some ((⟨#[]⟩ : ByteArray), 0, 11)) else (if 0 ≤ (u : Int) then (if (u : Int) ≤ (wrap64 ((u : Int) + (n : Int))) then (if (wrap64 ((u : Int) + (n : Int))) ≤ (s.size : Int) then (some (s.extract ((u : Int) : Int).toNat ((wrap64 ((u : Int) + (n : Int))) : Int).toNat, wrap64 ((u : Int) + (n : Int)), 0)) else (none)) else (none)) else (none)))) else (some ((⟨#[]⟩ : ByteArray), 0, (e : Int)))) = some (S3 (strL (L s))) := by
  have hl := L_length s
  unfold strL
  rw [hx]
  by_cases h0 : e = 0
  · have hu := numL_used (l := L s) (by rw [hx]; exact h0)
    have hn := numL_lt (l := L s) (by rw [hx]; exact h0)
    rw [hx] at hu hn
    simp only at hu hn ⊢
    subst h0
    rw [if_pos (by omega), if_pos rfl]
    by_cases h1 : 65536 < n
    · rw [if_pos (by omega), if_pos h1]; rfl
    · rw [if_neg (by omega), if_neg h1, w64 ((s.size : Int) - (u : Int)) (by omega) (by omega), w64 ((u : Int) + (n : Int)) (by omega) (by omega)]
      by_cases h2 : (L s).length - u < n
      · rw [if_pos (by omega), if_pos h2]; rfl
      · rw [if_neg (by omega), if_neg h2, if_pos (by omega), if_pos (by omega), if_pos (by omega)]
        simp only [S3]
        congr 1
        refine Prod.ext ?_ (Prod.ext ?_ rfl)
        · apply L_inj
          rw [L_mkB, L_extract]
          have e1 : ((u : Int)).toNat = u := by omega
          have e2 : ((u : Int) + (n : Int)).toNat - ((u : Int)).toNat = n := by omega
          rw [e2, e1]
        · show ((u : Int) + (n : Int)) = ((u + n : Nat) : Int)
          omega
  · simp only
    rw [if_neg (by omega), if_neg h0]
    rfl
theorem octet_str (s : ByteArray) (hsz : s.size ≤ 4611686018427387903) (k : Nat) : octet_Str.f (k + 11) s = some (S3 (strL (L s))) := by
  unfold octet_Str.f
  rw [octet_num s hsz k]
  rcases hx : numL (L s) with ⟨n, u, e⟩
  exact str_tail s hsz n u e hx
theorem ref_str (s : ByteArray) (hsz : s.size ≤ 4611686018427387903) (k : Nat) : sinewref01_Str.f (k + 11) s = some (S3 (strL (L s))) := by
  unfold sinewref01_Str.f
  rw [ref_num s hsz k]
  rcases hx : numL (L s) with ⟨n, u, e⟩
  exact str_tail s hsz n u e hx
def R3 (x : List (List UInt8) × Nat × Nat) : List ByteArray × Int × Int := (x.1.map mkB, (x.2.1 : Int), (x.2.2 : Int))
theorem L_from (s : ByteArray) (a : Nat) : L (s.extract a s.size) = (L s).drop a := by
  rw [L_extract, List.take_of_length_le]
  rw [List.length_drop, L_length]
  exact Nat.le_refl _
theorem extract_le (s : ByteArray) (a : Nat) (h : s.size ≤ 4611686018427387903) : (s.extract a s.size).size ≤ 4611686018427387903 := by
  have := L_length (s.extract a s.size)
  rw [L_from, List.length_drop, L_length] at this
  omega
theorem octet_go (s : ByteArray) (hsz : s.size ≤ 4611686018427387903) : ∀ (d i n at_ k : Nat) (acc : List (List UInt8)), i + d = n → n ≤ 4096 → at_ ≤ s.size → acc.length ≤ i →
    octet_List.l0 (k + d + 12) s (acc.map mkB) at_ n i = some (R3 (goL (L s) d at_ acc))
  | 0, i, n, at_, k, acc, hi, hn, ha, hac => by
    show octet_List.l0 (k + 11 + 1) _ _ _ _ _ = _
    rw [octet_List.l0, if_neg (by omega)]
    rfl
  | d + 1, i, n, at_, k, acc, hi, hn, ha, hac => by
    rw [show k + (d + 1) + 12 = (k + d + 12) + 1 from by omega, octet_List.l0, if_pos (by omega), if_pos (by omega), if_pos (by omega), show ((at_ : Int)).toNat = at_ from by omega]
    rw [show k + d + 12 = (k + d + 1) + 11 from by omega, octet_str _ (extract_le s at_ hsz), L_from]
    have hu := @strL_used ((L s).drop at_)
    simp only [Option.bind_some, S3, goL]
    by_cases h0 : (strL ((L s).drop at_)).2.2 = 0
    · have hu := hu h0
      rw [List.length_drop, L_length] at hu
      rw [if_pos (by omega), if_pos h0, if_pos (by rw [List.length_map]; omega), w64 _ (by omega) (by omega), w64 _ (by omega) (by omega)]
      have ih := octet_go s hsz d (i + 1) n (at_ + (strL ((L s).drop at_)).2.1) k (acc ++ [(strL ((L s).drop at_)).1]) (by omega) hn (by omega) (by simp; omega)
      rw [List.map_append] at ih
      exact ih
    · rw [if_neg (by omega), if_neg h0]
      rfl
theorem octet_list (s : ByteArray) (hsz : s.size ≤ 4611686018427387903) (k : Nat) : octet_List.f (k + 4108) s = some (R3 (listL (L s))) := by
  unfold octet_List.f
  rw [show k + 4108 = (k + 4097) + 11 from by omega, octet_num s hsz]
  unfold listL
  simp only [Option.bind_some, I3]
  by_cases h0 : (numL (L s)).2.2 = 0
  · have hu := numL_used h0
    rw [L_length] at hu
    rw [if_pos (by omega), if_pos h0]
    by_cases h1 : 4096 < (numL (L s)).1
    · rw [if_pos (by omega), if_pos h1]; rfl
    · rw [if_neg (by omega), if_neg h1]
      have := octet_go s hsz (numL (L s)).1 0 (numL (L s)).1 (numL (L s)).2.1 (k + 4096 - (numL (L s)).1) [] (by omega) (by omega) (by omega) (by simp)
      rw [show k + 4096 - (numL (L s)).1 + (numL (L s)).1 + 12 = k + 4097 + 11 from by omega] at this
      exact this
  · rw [if_neg (by omega), if_neg h0]; rfl
theorem ref_go (s : ByteArray) (hsz : s.size ≤ 4611686018427387903) : ∀ (d i n at_ k : Nat) (acc : List (List UInt8)), i + d = n → n ≤ 4096 → at_ ≤ s.size → acc.length ≤ i →
    sinewref01_List.l0 (k + d + 12) s n at_ (acc.map mkB) i = some (R3 (goL (L s) d at_ acc))
  | 0, i, n, at_, k, acc, hi, hn, ha, hac => by
    show sinewref01_List.l0 (k + 11 + 1) _ _ _ _ _ = _
    rw [sinewref01_List.l0, if_neg (by omega)]
    rfl
  | d + 1, i, n, at_, k, acc, hi, hn, ha, hac => by
    rw [show k + (d + 1) + 12 = (k + d + 12) + 1 from by omega, sinewref01_List.l0, if_pos (by omega), if_pos (by omega), if_pos (by omega), show ((at_ : Int)).toNat = at_ from by omega]
    rw [show k + d + 12 = (k + d + 1) + 11 from by omega, ref_str _ (extract_le s at_ hsz), L_from]
    have hu := @strL_used ((L s).drop at_)
    simp only [Option.bind_some, S3, goL]
    by_cases h0 : (strL ((L s).drop at_)).2.2 = 0
    · have hu := hu h0
      rw [List.length_drop, L_length] at hu
      rw [if_pos (by omega), if_pos h0, if_pos (by rw [List.length_map]; omega), w64 _ (by omega) (by omega), w64 _ (by omega) (by omega)]
      have ih := ref_go s hsz d (i + 1) n (at_ + (strL ((L s).drop at_)).2.1) k (acc ++ [(strL ((L s).drop at_)).1]) (by omega) hn (by omega) (by simp; omega)
      rw [List.map_append] at ih
      exact ih
    · rw [if_neg (by omega), if_neg h0]
      rfl
theorem ref_list (s : ByteArray) (hsz : s.size ≤ 4611686018427387903) (k : Nat) : sinewref01_List.f (k + 4108) s = some (R3 (listL (L s))) := by
  unfold sinewref01_List.f
  rw [show k + 4108 = (k + 4097) + 11 from by omega, ref_num s hsz]
  unfold listL
  simp only [Option.bind_some, I3]
  by_cases h0 : (numL (L s)).2.2 = 0
  · have hu := numL_used h0
    rw [L_length] at hu
    rw [if_pos (by omega), if_pos h0]
    by_cases h1 : 4096 < (numL (L s)).1
    · rw [if_pos (by omega), if_pos h1]; rfl
    · rw [if_neg (by omega), if_neg h1]
      have := ref_go s hsz (numL (L s)).1 0 (numL (L s)).1 (numL (L s)).2.1 (k + 4096 - (numL (L s)).1) [] (by omega) (by omega) (by omega) (by simp)
      rw [show k + 4096 - (numL (L s)).1 + (numL (L s)).1 + 12 = k + 4097 + 11 from by omega] at this
      exact this
  · rw [if_neg (by omega), if_neg h0]; rfl
theorem rdOf_nat (l : List ByteArray) (i : Nat) : rdOf ByteArray.empty l (i : Int) = l.getD i ByteArray.empty := by
  unfold rdOf
  rw [show ((i : Int)).toNat = i from by omega]
theorem same_l0 (a b : List ByteArray) (hl : a.length = b.length) (hm : a.length ≤ 9223372036854775806) (d : Nat) : ∀ (i k : Nat), i + d = a.length →
    sinewref01_Same.l0 (k + d + 1) a b i = some (decide (a.drop i = b.drop i)) := by
  induction d with
  | zero =>
    intro i k hi
    show sinewref01_Same.l0 (k + 1) a b i = _
    rw [sinewref01_Same.l0, if_neg (by omega), List.drop_of_length_le (by omega), List.drop_of_length_le (by omega)]
    simp
  | succ d ih =>
    intro i k hi
    rw [show k + (d + 1) + 1 = (k + d + 1) + 1 from by omega, sinewref01_Same.l0, if_pos (by omega), if_pos (by omega), if_pos (by omega), rdOf_nat, rdOf_nat, w64 _ (by omega) (by omega)]
    have da : a.drop i = a[i]'(by omega) :: a.drop (i + 1) := List.drop_eq_getElem_cons (by omega)
    have db : b.drop i = b[i]'(by omega) :: b.drop (i + 1) := List.drop_eq_getElem_cons (by omega)
    rw [da, db]
    have ea : a.getD i ByteArray.empty = a[i]'(by omega) := by simp [List.getD, show i < a.length by omega]
    have eb : b.getD i ByteArray.empty = b[i]'(by omega) := by simp [List.getD, show i < b.length by omega]
    rw [ea, eb, L_toList, L_toList]
    by_cases h : L (a[i]'(by omega)) = L (b[i]'(by omega))
    · rw [if_pos h, L_inj h]
      have := ih (i + 1) k (by omega)
      rw [show ((i : Int) + 1) = ((i + 1 : Nat) : Int) from rfl, this]
      congr 1
      exact decide_eq_decide.mpr ⟨fun h => by rw [h], fun h => (List.cons.inj h).2⟩
    · rw [if_neg h]
      congr 1
      exact (decide_eq_false (fun e => h (by rw [(List.cons.inj e).1]))).symm
theorem same_f (a b : List ByteArray) (hm : a.length ≤ 9223372036854775806) (k : Nat) (hk : a.length < k) : sinewref01_Same.f k a b = some (decide (a = b)) := by
  unfold sinewref01_Same.f
  by_cases h : a.length = b.length
  · rw [if_pos (by omega)]
    have := same_l0 a b h hm a.length 0 (k - a.length - 1) (by omega)
    rw [show k - a.length - 1 + a.length + 1 = k from by omega] at this
    simpa using this
  · rw [if_neg (by omega)]
    have : ¬ a = b := fun e => h (by rw [e])
    simp [this]
theorem L_str (l : List Int) : L (strOfNums l) = l.map fun x => UInt8.ofNat x.toNat := by simp [L, strOfNums]
theorem putnum_f (n : Nat) (h : n < 9223372036854775808) : octet_PutNum.f n = some (mkB (putN n), 0) := by
  unfold octet_PutNum.f
  rw [if_neg (by omega), if_pos (by omega), show ((n : Int)).toNat = n from by omega]
  rfl
theorem putnum_neg_f (n : Int) (h : n < 0) : octet_PutNum.f n = some (mkB [], 1) := by
  unfold octet_PutNum.f
  exact if_pos h
theorem putstr_f (s : ByteArray) (h : s.size ≤ 65536) : octet_PutStr.f s = some (mkB (putS (L s)), 0) := by
  unfold octet_PutStr.f
  rw [if_neg (by omega)]
  have h1 : pstr s = mkB (putS (L s)) := L_inj (by rw [L_mkB]; exact pstr_data s)
  rw [h1]
theorem putstr_great_f (s : ByteArray) (h : 65536 < s.size) : octet_PutStr.f s = some (mkB [], 12) := by
  unfold octet_PutStr.f
  exact if_pos h
theorem putlist_f (l : List ByteArray) (hl : l.length ≤ 4096) (h : ∀ s ∈ l, s.size ≤ 65536) : octet_PutList.f l = some (mkB (putL (l.map L)), 0) := by
  unfold octet_PutList.f plistR
  rw [if_neg (by omega), if_neg]
  · congr 1
    refine Prod.ext (L_inj ?_) rfl
    rw [L_mkB]
    show L ⟨(plist l).toArray⟩ = _
    rw [plist_putL]
    exact L_mkB _
  · rw [List.any_eq_true]
    rintro ⟨s, hs, h2⟩
    have := h s hs
    simp at h2
    omega
theorem map_mkB_L (l : List ByteArray) : (l.map L).map mkB = l := by
  rw [List.map_map]
  have : (mkB ∘ L) = id := funext fun s => mkB_L s
  rw [this, List.map_id]
end Go.Proofs.Ytjeoenpkhfmafaa.Hand
