import Derived.Test.YtjemnldcpafepaaAbN14
/- sinewlaw14.QuietEnds: what comes lowers a measure. -/
namespace Go.Ab
open Go.RowKit
set_option linter.unusedVariables false
set_option linter.unusedSimpArgs false
variable {n v k g : Nat} {S : Sw} {st : St}

def wk (S : Sw) (j : Nat) : Bool := (S.nd j).works
def mass (n : Nat) (S : Sw) : Nat := 2 * S.under.length + S.tells.length + 2 * (List.range n).countP (wk S)
theorem rest_mass (hv : v < n) : mass n (rest S v) ≤ mass n S := by
  unfold rest
  split
  · exact Nat.le_refl _
  · rename_i h1
    split
    · exact Nat.le_refl _
    · have hw : (S.nd v).works = true := by cases hq : (S.nd v).works <;> simp [hq] at h1 ⊢
      have := countP_upd (wk S) (wk { S with nd := upd S.nd v ⟨(S.nd v).debt, false, decide (v = 0), -1⟩, tells := if 0 ≤ (S.nd v).parent then S.tells ++ [(S.nd v).parent.toNat] else S.tells }) v (by intro j hj; simp [wk, upd, hj]) n hv
      have e1 : wk S v = true := hw
      have e2 : wk { S with nd := upd S.nd v ⟨(S.nd v).debt, false, decide (v = 0), -1⟩, tells := if 0 ≤ (S.nd v).parent then S.tells ++ [(S.nd v).parent.toNat] else S.tells } v = false := by simp [wk, upd]
      rw [e1, e2] at this
      simp only [Bool.toNat_true, Bool.toNat_false] at this
      unfold mass
      have ht : (if 0 ≤ (S.nd v).parent then S.tells ++ [(S.nd v).parent.toNat] else S.tells).length ≤ S.tells.length + 1 := by split <;> simp
      simp only
      omega
theorem rest_mass2 (hv : v < n) (hk : S.work v = 0) (hw : (S.nd v).works = true) (hd : (S.nd v).debt = 0) : mass n (rest S v) + 1 ≤ mass n S := by
  unfold rest
  rw [if_neg (by simp [hk, hw]), if_neg (by omega)]
  have := countP_upd (wk S) (wk { S with nd := upd S.nd v ⟨(S.nd v).debt, false, decide (v = 0), -1⟩, tells := if 0 ≤ (S.nd v).parent then S.tells ++ [(S.nd v).parent.toNat] else S.tells }) v (by intro j hj; simp [wk, upd, hj]) n hv
  have e1 : wk S v = true := hw
  have e2 : wk { S with nd := upd S.nd v ⟨(S.nd v).debt, false, decide (v = 0), -1⟩, tells := if 0 ≤ (S.nd v).parent then S.tells ++ [(S.nd v).parent.toNat] else S.tells } v = false := by simp [wk, upd]
  rw [e1, e2] at this
  simp only [Bool.toNat_true, Bool.toNat_false] at this
  unfold mass
  have ht : (if 0 ≤ (S.nd v).parent then S.tells ++ [(S.nd v).parent.toNat] else S.tells).length ≤ S.tells.length + 1 := by split <;> simp
  simp only
  omega

theorem tell_mass (h : Inv n S) (hs : StillTo n S) {i : Nat} (hi : i < S.tells.length) : mass n (tellAt S i S.tells[i]) < mass n S ∧ StillTo n (tellAt S i S.tells[i]) := by
  have hp := h.tells _ (List.getElem_mem hi)
  generalize S.tells[i] = p at hp
  refine ⟨?_, fun j hj => ?_⟩
  · refine Nat.lt_of_le_of_lt (rest_mass hp) ?_
    have e : (List.range n).countP (wk ⟨upd S.nd p ⟨(S.nd p).debt - 1, (S.nd p).works, (S.nd p).done, (S.nd p).parent⟩, S.under, S.tells.take i ++ S.tells.drop (i + 1), S.work, S.ok⟩) = (List.range n).countP (wk S) := by
      congr 1; funext j; simp only [wk, upd]; split; (· rename_i e; subst e; rfl); rfl
    unfold mass
    rw [e]
    simp
    omega
  · unfold tellAt
    by_cases e : j = p
    · subst e
      have := (hs j hj).1
      exact ⟨by rw [rest_work]; exact this, rest_still _ _ this⟩
    · rw [rest_work, rest_nd _ _ _ e]
      simp only [upd, if_neg e]
      exact hs j hj
theorem come_mass (h : Inv n S) (hs : StillTo n S) {i : Nat} (hi : i < S.under.length) : mass n (comeAt S i S.under[i] 0) < mass n S ∧ StillTo n (comeAt S i S.under[i] 0) := by
  obtain ⟨hm1, hm2⟩ := h.under _ (List.getElem_mem hi)
  generalize S.under[i] = m at hm1 hm2
  have hlen : (S.under.take i ++ S.under.drop (i + 1)).length + 1 = S.under.length := by simp; omega
  have hw0 := (hs m.2 hm2).1
  refine ⟨?_, fun j hj => ?_⟩
  · unfold comeAt lay
    cases hw : (S.nd m.2).works with
    | true =>
      have e : meets { S with under := S.under.take i ++ S.under.drop (i + 1) } m = ⟨S.nd, S.under.take i ++ S.under.drop (i + 1), S.tells ++ [m.1], S.work, S.ok⟩ := by simp [meets, hw]
      rw [e]
      refine Nat.lt_of_le_of_lt (rest_mass hm2) ?_
      show 2 * (S.under.take i ++ S.under.drop (i + 1)).length + (S.tells ++ [m.1]).length + 2 * (List.range n).countP (wk S) < _
      have hl : (S.tells ++ [m.1]).length = S.tells.length + 1 := by simp
      rw [hl]
      unfold mass
      omega
    | false =>
      have e : meets { S with under := S.under.take i ++ S.under.drop (i + 1) } m = ⟨upd S.nd m.2 ⟨(S.nd m.2).debt, true, (S.nd m.2).done, m.1⟩, S.under.take i ++ S.under.drop (i + 1), S.tells, S.work, S.ok⟩ := by simp [meets, hw]
      rw [e]
      have hd := (h.idle m.2 hm2 hw).1
      refine Nat.lt_of_succ_le (Nat.le_trans (rest_mass2 hm2 (by simp [upd, hw0]) (by simp [upd]) (by simp [upd, hd])) ?_)
      have := countP_upd (wk S) (wk ⟨upd S.nd m.2 ⟨(S.nd m.2).debt, true, (S.nd m.2).done, m.1⟩, S.under.take i ++ S.under.drop (i + 1), S.tells, upd S.work m.2 (S.work m.2 + 0), S.ok⟩) m.2 (by intro j hj; simp [wk, upd, hj]) n hm2
      have e1 : wk S m.2 = false := hw
      have e2 : wk ⟨upd S.nd m.2 ⟨(S.nd m.2).debt, true, (S.nd m.2).done, m.1⟩, S.under.take i ++ S.under.drop (i + 1), S.tells, upd S.work m.2 (S.work m.2 + 0), S.ok⟩ m.2 = true := by simp [wk, upd]
      rw [e1, e2] at this
      simp only [Bool.toNat_true, Bool.toNat_false] at this
      unfold mass
      simp only
      omega
  · unfold comeAt lay
    have ew : (meets { S with under := S.under.take i ++ S.under.drop (i + 1) } m).work = S.work := by unfold meets; split <;> rfl
    have w0 : upd (meets { S with under := S.under.take i ++ S.under.drop (i + 1) } m).work m.2 ((meets { S with under := S.under.take i ++ S.under.drop (i + 1) } m).work m.2 + 0) j = 0 := by
      rw [ew]; simp only [upd]; split
      · exact hw0
      · exact (hs j hj).1
    by_cases e : j = m.2
    · subst e; exact ⟨by rw [rest_work]; exact w0, rest_still _ _ w0⟩
    · rw [rest_work, rest_nd _ _ _ e]
      refine ⟨w0, ?_⟩
      have en : (meets { S with under := S.under.take i ++ S.under.drop (i + 1) } m).nd j = S.nd j := by unfold meets; split; rfl; simp [upd, e]
      simp only [en]
      exact (hs j hj).2

/-- While the root works, something is under way. -/
theorem Inv.busy (h : Inv n S) (hs : StillTo n S) (hw : (S.nd 0).works = true) : S.under ≠ [] ∨ S.tells ≠ [] := by
  rcases Classical.em (S.under = [] ∧ S.tells = []) with ⟨hu, ht⟩ | hne
  · exfalso
    obtain ⟨r, hr⟩ := h.rank
    have hle : ∀ m j, j < m → r j ≤ sumTo r m := by
      intro m; induction m with
      | zero => intro j hj; omega
      | succ m ih => intro j hj; simp only [sumTo]; by_cases e : j = m
                     · subst e; omega
                     · have := ih j (by omega); omega
    have up : ∀ c j, j < n → (S.nd j).works = true → sumTo r n - r j ≤ c → False := by
      intro c; induction c with
      | zero =>
        intro j hj hwj hc
        have hd := (hs j hj).2 hwj
        have := h.debt j hj
        rw [hu, ht] at this
        simp at this
        have hk : 0 < kids n S j := by omega
        unfold kids at hk
        rw [List.countP_pos_iff] at hk
        obtain ⟨q, hq, hc'⟩ := hk
        simp only [child, Bool.and_eq_true, decide_eq_true_eq] at hc'
        have hqn : q < n := by simpa using hq
        have := hr q j hqn hc'.1.1 hc'.1.2 hc'.2
        have := hle n q hqn
        omega
      | succ c ih =>
        intro j hj hwj hc
        have hd := (hs j hj).2 hwj
        have := h.debt j hj
        rw [hu, ht] at this
        simp at this
        have hk : 0 < kids n S j := by omega
        unfold kids at hk
        rw [List.countP_pos_iff] at hk
        obtain ⟨q, hq, hc'⟩ := hk
        simp only [child, Bool.and_eq_true, decide_eq_true_eq] at hc'
        have hqn : q < n := by simpa using hq
        have := hr q j hqn hc'.1.1 hc'.1.2 hc'.2
        exact ih q hqn hc'.1.2 (by omega)
    exact up _ 0 h.n0 hw (Nat.le_refl _)
  · rcases Classical.em (S.under = []) with hu | hu
    · exact .inr fun ht => hne ⟨hu, ht⟩
    · exact .inl hu
end Go.Ab
