/- Proved: of any two numbers from 0 on the bytes of the lesser one stand ahead, by bytes; a number below 0 has none. No condition. -/
import Derived.Test.YtjeoenpkhfmafaaPureOctetBack
namespace Go.Proofs.Ytjeoenpkhfmafaa.Pure
open Go.RowKit Go.Proofs.Ytjeoenpkhfmafaa.Hand Go.Proofs.Ytjeoenpkhfmafaa.Pa Go.Proofs.Ytjeoenpkhfmafaa.Px Go.Proofs.YtjeoenpkhfmafaaW.PrintWords Go.Proofs.YtjeoenpkhfmafaaW.PrintLast

theorem less_same : ∀ (l m : List UInt8), l.length = m.length → Op.bytesLess l m = decide (val l < val m)
  | [], [], _ => by simp [Op.bytesLess, val]
  | [], _ :: _, h => by simp at h
  | _ :: _, [], h => by simp at h
  | a :: x, b :: y, h => by
    have hl : x.length = y.length := by simpa using h
    have ih := less_same x y hl
    have hx := val_lt x
    have hy := val_lt y
    rw [hl] at hx
    show (decide (a < b) || (a == b && Op.bytesLess x y)) = _
    rw [ih, val_cons, val_cons, hl]
    generalize (256 : Nat) ^ y.length = P at *
    rcases Nat.lt_trichotomy a.toNat b.toNat with h1 | h1 | h1
    · have e : a < b := UInt8.lt_iff_toNat_lt.2 h1
      have h2 : (a.toNat + 1) * P ≤ b.toNat * P := Nat.mul_le_mul_right _ h1
      rw [Nat.add_mul] at h2
      simp only [e, decide_true, Bool.true_or]
      exact (decide_eq_true (by omega)).symm
    · have e : a = b := UInt8.toNat.inj h1
      subst e
      have e2 : ¬ a < a := fun h => by have := UInt8.lt_iff_toNat_lt.1 h; omega
      simp only [e2, decide_false, Bool.false_or, beq_self_eq_true, Bool.true_and]
      exact decide_eq_decide.mpr (by omega)
    · have e : ¬ a < b := fun h => by have := UInt8.lt_iff_toNat_lt.1 h; omega
      have e2 : (a == b) = false := beq_eq_false_iff_ne.mpr (fun h => by subst h; omega)
      have h2 : (b.toNat + 1) * P ≤ a.toNat * P := Nat.mul_le_mul_right _ h1
      rw [Nat.add_mul] at h2
      simp only [e, decide_false, Bool.false_or, e2, Bool.false_and]
      exact (decide_eq_false (by omega)).symm
theorem nlen_ge (n : Nat) (h : n < 9223372036854775808) (j : Nat) (hj : j < nlen n) : 256 ^ j ≤ n := by
  have := (nlen_spec n h).2 j hj
  rcases Nat.lt_or_ge n (256 ^ j) with h1 | h1
  · exact absurd (Nat.div_eq_of_lt h1) this
  · exact h1
theorem less_putN (a b : Nat) (ha : a < 9223372036854775808) (hb : b < 9223372036854775808) : Op.bytesLess (putN a) (putN b) = decide (a < b) := by
  have la := nlen_le a
  have lb := nlen_le b
  have sa := (nlen_spec a ha).1
  have sb := (nlen_spec b hb).1
  have ea : (UInt8.ofNat (nlen a)).toNat = nlen a := by simp; omega
  have eb : (UInt8.ofNat (nlen b)).toNat = nlen b := by simp; omega
  rw [putN_eq, putN_eq]
  show (decide (UInt8.ofNat (nlen a) < UInt8.ofNat (nlen b)) || (UInt8.ofNat (nlen a) == UInt8.ofNat (nlen b) && Op.bytesLess (digsN a (nlen a)) (digsN b (nlen b)))) = _
  rcases Nat.lt_trichotomy (nlen a) (nlen b) with h1 | h1 | h1
  · have e : UInt8.ofNat (nlen a) < UInt8.ofNat (nlen b) := UInt8.lt_iff_toNat_lt.2 (by rw [ea, eb]; exact h1)
    have h2 := nlen_ge b hb (nlen a) h1
    simp only [e, decide_true, Bool.true_or]
    exact (decide_eq_true (by omega)).symm
  · have e2 : ¬ UInt8.ofNat (nlen a) < UInt8.ofNat (nlen b) := fun h => by have := UInt8.lt_iff_toNat_lt.1 h; omega
    rw [h1] at sa ⊢
    have e3 : ¬ UInt8.ofNat (nlen b) < UInt8.ofNat (nlen b) := by rw [h1] at e2; exact e2
    simp only [e3, decide_false, Bool.false_or, beq_self_eq_true, Bool.true_and]
    rw [less_same _ _ (by rw [digsN_length, digsN_length]), val_digs, val_digs, Nat.mod_eq_of_lt sa, Nat.mod_eq_of_lt sb]
  · have e : ¬ UInt8.ofNat (nlen a) < UInt8.ofNat (nlen b) := fun h => by have := UInt8.lt_iff_toNat_lt.1 h; omega
    have e2 : (UInt8.ofNat (nlen a) == UInt8.ofNat (nlen b)) = false := beq_eq_false_iff_ne.mpr (fun h => by have := congrArg UInt8.toNat h; omega)
    have h2 := nlen_ge a ha (nlen b) h1
    simp only [e, decide_false, Bool.false_or, e2, Bool.false_and]
    exact (decide_eq_false (by omega)).symm
theorem OctetOrder : sinewlaw01_OctetOrder.Pure := by
  intro a b ha hb
  have ba := wf_bd ha
  have bb := wf_bd hb
  refine ⟨11 + 1, ?_⟩
  have hn : sinewlaw01_numbers.f 11 = some true := numbers_some 0
  unfold sinewlaw01_OctetOrder.f
  by_cases h1 : a < 0
  · rw [putnum_neg_f a h1]
    have : ∃ x, octet_PutNum.f b = some x := by
      by_cases h2 : b < 0
      · exact ⟨_, putnum_neg_f b h2⟩
      · obtain ⟨m, rfl⟩ := Int.eq_ofNat_of_zero_le (show 0 ≤ b by omega)
        exact ⟨_, putnum_f m (by omega)⟩
    obtain ⟨x, hx⟩ := this
    rw [hx]
    simp only [Option.bind_some]
    rw [if_neg (by decide), sinewlaw01_OctetOrder.j0, if_pos rfl, if_pos h1, hn]
    rfl
  · obtain ⟨n, rfl⟩ := Int.eq_ofNat_of_zero_le (show 0 ≤ a by omega)
    rw [putnum_f n (by omega)]
    by_cases h2 : b < 0
    · rw [putnum_neg_f b h2]
      simp only [Option.bind_some]
      simp only [if_true]
      rw [sinewlaw01_OctetOrder.j0, if_pos (by rfl), if_neg h1, if_pos h2, hn]
      rfl
    · obtain ⟨m, rfl⟩ := Int.eq_ofNat_of_zero_le (show 0 ≤ b by omega)
      rw [putnum_f m (by omega)]
      simp only [Option.bind_some]
      simp only [if_true]
      rw [sinewlaw01_OctetOrder.j0, if_neg (by decide), L_toList, L_toList, L_mkB, L_mkB, less_putN n m (by omega) (by omega), if_pos]
      · rw [hn]; rfl
      · rw [beq_iff_eq]
        exact decide_eq_decide.mpr (by omega)
end Go.Proofs.Ytjeoenpkhfmafaa.Pure
