import Derived.Test.YtjemnldcpafepaaAbX14
/- sinewlaw14: what always holds of a world. -/
namespace Go.Ab
set_option linter.unusedVariables false
set_option linter.unusedSimpArgs false

theorem countP_upd (P P' : Nat → Bool) (v : Nat) (h : ∀ j, j ≠ v → P' j = P j) : ∀ n, v < n → (List.range n).countP P' + (P v).toNat = (List.range n).countP P + (P' v).toNat
  | 0, hv => by omega
  | n + 1, hv => by
    simp only [List.range_succ, List.countP_append, List.countP_cons, List.countP_nil]
    by_cases e : v = n
    · subst e
      have : (List.range v).countP P' = (List.range v).countP P := by
        apply List.countP_congr
        intro x hx
        have hx' : x < v := by simpa using hx
        rw [h x (by omega)]
      rw [this]
      cases P v <;> cases P' v <;> simp
    · have := countP_upd P P' v h n (by omega)
      have h2 := h n (Ne.symm e)
      rw [h2]
      omega

def child (S : Sw) (i j : Nat) : Bool := decide (j ≠ 0) && (S.nd j).works && decide ((S.nd j).parent = (i : Int))
def kids (n : Nat) (S : Sw) (i : Nat) : Nat := (List.range n).countP (child S i)

structure Inv (n : Nat) (S : Sw) : Prop where
  n0 : 0 < n
  debt : ∀ i, i < n → (S.nd i).debt = S.under.countP (fun m => m.1 == i) + S.tells.count i + kids n S i
  under : ∀ m ∈ S.under, m.1 < n ∧ m.2 < n
  tells : ∀ p ∈ S.tells, p < n
  idle : ∀ i, i < n → (S.nd i).works = false → (S.nd i).debt = 0 ∧ S.work i = 0
  done1 : ∀ i, i < n → (S.nd i).done = true → i = 0 ∧ (S.nd 0).works = false
  done2 : (S.nd 0).works = false → (S.nd 0).done = true
  par : ∀ i, i < n → i ≠ 0 → (S.nd i).works = true → ∃ p : Nat, p < n ∧ (S.nd i).parent = p
  root : (S.nd 0).parent = -1
  rank : ∃ r : Nat → Nat, ∀ j p, j < n → j ≠ 0 → (S.nd j).works = true → (S.nd j).parent = (p : Nat) → r p < r j
  ok : S.ok = true

variable {n v : Nat} {S : Sw}
theorem kids_pos (h : Inv n S) {j p : Nat} (hj : j < n) (h0 : j ≠ 0) (hw : (S.nd j).works = true) (hp : (S.nd j).parent = (p : Nat)) : 0 < kids n S p := by
  unfold kids
  rw [List.countP_pos_iff]
  exact ⟨j, by simpa using hj, by simp [child, h0, hw, hp]⟩
theorem Inv.works_of (h : Inv n S) {i : Nat} (hi : i < n) (hd : 0 < (S.nd i).debt) : (S.nd i).works = true := by
  cases hw : (S.nd i).works with
  | true => rfl
  | false => have := (h.idle i hi hw).1; omega
/-- Once the root rests, all is quiet. -/
theorem Inv.quiet (h : Inv n S) (h0 : (S.nd 0).works = false) : Quiet n S := by
  obtain ⟨r, hr⟩ := h.rank
  have none : ∀ (k j : Nat), r j ≤ k → j < n → (S.nd j).works = false := by
    intro k
    induction k with
    | zero =>
      intro j hj hn
      cases hw : (S.nd j).works with
      | false => rfl
      | true =>
        have hj0 : j ≠ 0 := by intro e; subst e; rw [h0] at hw; cases hw
        obtain ⟨p, hp, hpp⟩ := h.par j hn hj0 hw
        have := hr j p hn hj0 hw hpp
        omega
    | succ k ih =>
      intro j hj hn
      cases hw : (S.nd j).works with
      | false => rfl
      | true =>
        have hj0 : j ≠ 0 := by intro e; subst e; rw [h0] at hw; cases hw
        obtain ⟨p, hp, hpp⟩ := h.par j hn hj0 hw
        have hlt := hr j p hn hj0 hw hpp
        have hk := kids_pos h hn hj0 hw hpp
        have hd := h.debt p hp
        have := h.works_of hp (by omega)
        rw [ih p (by omega) hp] at this; cases this
  have hw : ∀ i, i < n → (S.nd i).works = false := fun i hi => none (r i) i (Nat.le_refl _) hi
  refine ⟨?_, ?_, fun i hi => ⟨hw i hi, (h.idle i hi (hw i hi)).2⟩⟩
  · cases hu : S.under with
    | nil => rfl
    | cons m l =>
      have hm := (h.under m (by rw [hu]; simp)).1
      have := h.debt m.1 hm
      have h2 := (h.idle m.1 hm (hw _ hm)).1
      rw [hu] at this
      simp at this
      omega
  · cases hu : S.tells with
    | nil => rfl
    | cons m l =>
      have hm := h.tells m (by rw [hu]; simp)
      have := h.debt m hm
      have h2 := (h.idle m hm (hw _ hm)).1
      rw [hu] at this
      simp at this
      omega

/-- A node's change that leaves works and parent alone leaves the kids. -/
theorem kids_same {S' : Sw} (h : ∀ j, (S'.nd j).works = (S.nd j).works ∧ (S'.nd j).parent = (S.nd j).parent) (i : Nat) : kids n S' i = kids n S i := by
  unfold kids
  congr 1
  funext j
  simp [child, (h j).1, (h j).2]

theorem Inv.rest (h : Inv n S) (hv : v < n) : Inv n (rest S v) := by
  unfold Go.Ab.rest
  split
  · exact h
  · rename_i h1
    split
    · exact h
    · rename_i h2
      have hw : (S.nd v).works = true := by cases hq : (S.nd v).works <;> simp [hq] at h1 ⊢
      have hk : S.work v = 0 := by omega
      have hd : (S.nd v).debt = 0 := by omega
      have hcount := h.debt v hv
      by_cases hv0 : v = 0
      · subst hv0
        have hp := h.root
        simp only [hp, show ¬ ((0 : Int) ≤ -1) by omega, if_false, decide_true]
        have kk : ∀ i, kids n { S with nd := upd S.nd 0 ⟨(S.nd 0).debt, false, true, -1⟩ } i = kids n S i := by
          intro i; unfold kids; congr 1; funext j; simp only [child, upd]; split
          · rename_i e; subst e; simp
          · rfl
        refine ⟨h.n0, fun i hi => ?_, h.under, h.tells, fun i hi => ?_, fun i hi => ?_, fun _ => by simp [upd], fun i hi hi0 => ?_, by simp [upd], ?_, h.ok⟩
        · rw [kk]; simp only [upd]; split
          · rename_i e; subst e; exact h.debt 0 hi
          · exact h.debt i hi
        · simp only [upd]; split
          · rename_i e; subst e; intro _; exact ⟨hd, hk⟩
          · exact h.idle i hi
        · simp only [upd]; split
          · rename_i e; subst e; intro _; exact ⟨rfl, by simp⟩
          · intro hdn; have := h.done1 i hi hdn; exact ⟨this.1, by simp⟩
        · simp only [upd, if_neg hi0]; exact h.par i hi hi0
        · obtain ⟨r, hr⟩ := h.rank
          refine ⟨r, fun j p hj hj0 => ?_⟩
          simp only [upd, if_neg hj0]; exact hr j p hj hj0
      · obtain ⟨p, hp, hpp⟩ := h.par v hv hv0 hw
        simp only [hpp, Int.natCast_nonneg, if_true, Int.toNat_natCast, hv0, decide_false]
        have kk : ∀ i, kids n { S with nd := upd S.nd v ⟨(S.nd v).debt, false, false, -1⟩, tells := S.tells ++ [p] } i + (decide (p = i)).toNat = kids n S i := by
          intro i
          have := countP_upd (child S i) (child { S with nd := upd S.nd v ⟨(S.nd v).debt, false, false, -1⟩, tells := S.tells ++ [p] } i) v (by intro j hj; simp [child, upd, hj]) n hv
          have e1 : child S i v = decide (p = i) := by simp [child, hv0, hw, hpp]; omega
          have e2 : child { S with nd := upd S.nd v ⟨(S.nd v).debt, false, false, -1⟩, tells := S.tells ++ [p] } i v = false := by simp [child, upd]
          rw [e1, e2] at this
          simpa [kids] using this
        refine ⟨h.n0, fun i hi => ?_, h.under, fun q hq => ?_, fun i hi => ?_, fun i hi => ?_, fun hq => ?_, fun i hi hi0 => ?_, ?_, ?_, h.ok⟩
        · have k1 := kk i
          have h3 := h.debt i hi
          have h4 : (upd S.nd v ⟨(S.nd v).debt, false, false, -1⟩ i).debt = (S.nd i).debt := by simp only [upd]; split <;> simp_all
          simp only [h4, List.count_append, List.count_cons, List.count_nil]
          by_cases e : p = i
          · simp [e] at k1 ⊢; omega
          · simp [e] at k1 ⊢; omega
        · rcases List.mem_append.mp hq with q1 | q1
          · exact h.tells q q1
          · simp at q1; omega
        · simp only [upd]; split
          · rename_i e; subst e; intro _; exact ⟨hd, hk⟩
          · exact h.idle i hi
        · simp only [upd]
          rw [if_neg (Ne.symm hv0)]
          split
          · intro q; cases q
          · exact h.done1 i hi
        · simp only [upd, if_neg (Ne.symm hv0)] at hq ⊢; exact h.done2 hq
        · simp only [upd]; split
          · intro q; cases q
          · exact h.par i hi hi0
        · simp only [upd, if_neg (Ne.symm hv0)]; exact h.root
        · obtain ⟨r, hr⟩ := h.rank
          refine ⟨r, fun j q hj hj0 => ?_⟩
          simp only [upd]; split
          · intro q; cases q
          · exact hr j q hj hj0
theorem Inv.send (h : Inv n S) (hv : v < n) {to : Nat} (ht : to < n) : Inv n (send S v to) := by
  unfold Go.Ab.send
  split
  · exact h
  · rename_i h1
    have hw : (S.nd v).works = true := by cases hq : (S.nd v).works <;> simp [hq] at h1 ⊢
    refine Inv.rest ?_ hv
    have kk := kids_same (n := n) (S := S) (S' := ⟨upd S.nd v ⟨(S.nd v).debt + 1, (S.nd v).works, (S.nd v).done, (S.nd v).parent⟩, S.under ++ [(v, to)], S.tells, upd S.work v (S.work v - 1), S.ok⟩) (by intro j; simp only [upd]; split <;> simp_all)
    refine ⟨h.n0, fun i hi => ?_, fun m hm => ?_, h.tells, fun i hi => ?_, fun i hi => ?_, fun hq => ?_, fun i hi hi0 => ?_, ?_, ?_, h.ok⟩
    · rw [kk]
      have h3 := h.debt i hi
      simp only [upd, List.countP_append, List.countP_cons, List.countP_nil]
      by_cases e : i = v
      · subst e; simp; omega
      · simp [e, Ne.symm e]; omega
    · rcases List.mem_append.mp hm with q | q
      · exact h.under m q
      · simp at q; subst q; exact ⟨hv, ht⟩
    · simp only [upd]; split
      · rename_i e; subst e; intro q; rw [hw] at q; cases q
      · exact h.idle i hi
    · have h3 := h.done1 i hi
      simp only [upd]
      by_cases e : i = v
      · subst e; simp only [if_true]; intro q; have h4 := h3 q; exact ⟨h4.1, by have := h4.2; have e0 := h4.1; subst e0; rw [hw] at this; cases this⟩
      · simp only [if_neg e]; intro q; have h4 := h3 q; refine ⟨h4.1, ?_⟩; split
        · rename_i e0; subst e0; exact h4.2
        · exact h4.2
    · simp only [upd] at hq ⊢
      split at hq
      · rename_i e; subst e; rw [hw] at hq; cases hq
      · rename_i e; rw [if_neg e]; exact h.done2 hq
    · simp only [upd]; split
      · rename_i e; subst e; exact h.par i hi hi0
      · exact h.par i hi hi0
    · simp only [upd]; split
      · rename_i e; subst e; exact h.root
      · exact h.root
    · obtain ⟨r, hr⟩ := h.rank
      refine ⟨r, fun j q hj hj0 => ?_⟩
      simp only [upd]; split
      · rename_i e; subst e; exact hr j q hj hj0
      · exact hr j q hj hj0

theorem split_at {α : Type} (l : List α) (i : Nat) (hi : i < l.length) : l = l.take i ++ l[i] :: l.drop (i + 1) := by
  rw [List.getElem_cons_drop, List.take_append_drop]

theorem Inv.tell (h : Inv n S) {i : Nat} (hi : i < S.tells.length) : Inv n (tellAt S i S.tells[i]) := by
  have hp := h.tells _ (List.getElem_mem hi)
  generalize hpe : S.tells[i] = p at hp
  refine Inv.rest ?_ hp
  have hs := split_at S.tells i hi
  rw [hpe] at hs
  have kk := kids_same (n := n) (S := S) (S' := ⟨upd S.nd p ⟨(S.nd p).debt - 1, (S.nd p).works, (S.nd p).done, (S.nd p).parent⟩, S.under, S.tells.take i ++ S.tells.drop (i + 1), S.work, S.ok⟩) (by intro j; simp only [upd]; split; (· rename_i e; subst e; exact ⟨rfl, rfl⟩); exact ⟨rfl, rfl⟩)
  have hc : ∀ j, S.tells.count j = (S.tells.take i ++ S.tells.drop (i + 1)).count j + (decide (p = j)).toNat := by
    intro j
    conv => lhs; rw [hs]
    simp only [List.count_append, List.count_cons]
    by_cases e : p = j <;> simp [e]; omega
  have hw : (S.nd p).works = true := h.works_of hp (by have := h.debt p hp; have := hc p; simp at this; omega)
  refine ⟨h.n0, fun j hj => ?_, h.under, fun q hq => ?_, fun j hj => ?_, fun j hj => ?_, fun hq => ?_, fun j hj hj0 => ?_, ?_, ?_, h.ok⟩
  · rw [kk]
    have h3 := h.debt j hj
    have h4 := hc j
    simp only [upd]
    by_cases e : j = p
    · subst e; simp at h4 ⊢; omega
    · simp [e, Ne.symm e] at h4 ⊢; omega
  · rcases List.mem_append.mp hq with q1 | q1
    · exact h.tells q (List.mem_of_mem_take q1)
    · exact h.tells q (List.mem_of_mem_drop q1)
  · simp only [upd]; split
    · rename_i e; subst e; intro q; rw [hw] at q; cases q
    · exact h.idle j hj
  · have h3 := h.done1 j hj
    simp only [upd]
    by_cases e : j = p
    · subst e; simp only [if_true]; intro q; have h4 := h3 q; exact ⟨h4.1, by have := h4.2; have e0 := h4.1; subst e0; rw [hw] at this; cases this⟩
    · simp only [if_neg e]; intro q; have h4 := h3 q; refine ⟨h4.1, ?_⟩; split
      · rename_i e0; subst e0; exact h4.2
      · exact h4.2
  · simp only [upd] at hq ⊢
    split at hq
    · rename_i e; subst e; rw [hw] at hq; cases hq
    · rename_i e; rw [if_neg e]; exact h.done2 hq
  · simp only [upd]; split
    · rename_i e; subst e; exact h.par j hj hj0
    · exact h.par j hj hj0
  · simp only [upd]; split
    · rename_i e; subst e; exact h.root
    · exact h.root
  · obtain ⟨r, hr⟩ := h.rank
    refine ⟨r, fun j q hj hj0 => ?_⟩
    simp only [upd]; split
    · rename_i e; subst e; exact hr j q hj hj0
    · exact hr j q hj hj0
theorem Inv.lay (h : Inv n S) (hv : v < n) (hw : (S.nd v).works = true) (more : Nat) : Inv n (lay S v more) := by
  refine Inv.rest ?_ hv
  refine ⟨h.n0, h.debt, h.under, h.tells, fun i hi q => ?_, h.done1, h.done2, h.par, h.root, h.rank, h.ok⟩
  have e : i ≠ v := by intro e; subst e; rw [hw] at q; cases q
  simp only [upd, if_neg e]
  exact h.idle i hi q

theorem Inv.come (h : Inv n S) {i : Nat} (hi : i < S.under.length) (more : Nat) : Inv n (comeAt S i S.under[i] more) ∧ (S.nd S.under[i].2).done = false := by
  obtain ⟨hm1, hm2⟩ := h.under _ (List.getElem_mem hi)
  have hs := split_at S.under i hi
  generalize hme : S.under[i] = m at hm1 hm2 hs
  have hc : ∀ j, S.under.countP (fun m => m.1 == j) = (S.under.take i ++ S.under.drop (i + 1)).countP (fun m => m.1 == j) + (decide (m.1 = j)).toNat := by
    intro j
    conv => lhs; rw [hs]
    simp only [List.countP_append, List.countP_cons]
    by_cases e : m.1 = j <;> simp [e]; omega
  have hpos : 0 < (S.nd m.1).debt := by have := h.debt m.1 hm1; have := hc m.1; simp at this; omega
  have hsw : (S.nd m.1).works = true := h.works_of hm1 hpos
  have hu : ∀ q ∈ S.under.take i ++ S.under.drop (i + 1), q.1 < n ∧ q.2 < n := by
    intro q hq
    rcases List.mem_append.mp hq with q1 | q1
    · exact h.under q (List.mem_of_mem_take q1)
    · exact h.under q (List.mem_of_mem_drop q1)
  have hdn : (S.nd m.2).done = false := by
    cases hd : (S.nd m.2).done with
    | false => rfl
    | true =>
      have := (h.done1 m.2 hm2 hd).2
      have := (h.quiet this).1
      rw [this] at hi; simp at hi
  refine ⟨?_, hdn⟩
  unfold comeAt
  cases hw : (S.nd m.2).works with
  | true =>
    have e : meets { S with under := S.under.take i ++ S.under.drop (i + 1) } m = ⟨S.nd, S.under.take i ++ S.under.drop (i + 1), S.tells ++ [m.1], S.work, S.ok⟩ := by simp [meets, hw]
    rw [e]
    refine Inv.lay (S := ⟨S.nd, S.under.take i ++ S.under.drop (i + 1), S.tells ++ [m.1], S.work, S.ok⟩) ⟨h.n0, fun j hj => ?_, hu, fun q hq => ?_, h.idle, h.done1, h.done2, h.par, h.root, h.rank, h.ok⟩ hm2 hw more
    · have h3 := h.debt j hj
      have h4 := hc j
      have h5 : kids n ⟨S.nd, S.under.take i ++ S.under.drop (i + 1), S.tells ++ [m.1], S.work, S.ok⟩ j = kids n S j := rfl
      rw [h5]
      simp only [List.count_append, List.count_cons, List.count_nil]
      by_cases e : m.1 = j
      · simp [e] at h4 ⊢; omega
      · simp [e] at h4 ⊢; omega
    · rcases List.mem_append.mp hq with q1 | q1
      · exact h.tells q q1
      · simp at q1; omega
  | false =>
    have e : meets { S with under := S.under.take i ++ S.under.drop (i + 1) } m = ⟨upd S.nd m.2 ⟨(S.nd m.2).debt, true, (S.nd m.2).done, m.1⟩, S.under.take i ++ S.under.drop (i + 1), S.tells, S.work, S.ok⟩ := by simp [meets, hw]
    rw [e]
    have hm0 : m.2 ≠ 0 := by
      intro e0
      rw [e0] at hw
      have := (h.quiet hw).1
      rw [this] at hi; simp at hi
    have hne : m.1 ≠ m.2 := by intro e0; rw [e0, hw] at hsw; cases hsw
    have kk : ∀ j, kids n ⟨upd S.nd m.2 ⟨(S.nd m.2).debt, true, (S.nd m.2).done, m.1⟩, S.under.take i ++ S.under.drop (i + 1), S.tells, S.work, S.ok⟩ j = kids n S j + (decide (m.1 = j)).toNat := by
      intro j
      have := countP_upd (child S j) (child ⟨upd S.nd m.2 ⟨(S.nd m.2).debt, true, (S.nd m.2).done, m.1⟩, S.under.take i ++ S.under.drop (i + 1), S.tells, S.work, S.ok⟩ j) m.2 (by intro j hj; simp [child, upd, hj]) n hm2
      have e1 : child S j m.2 = false := by simp [child, hw]
      have e2 : child ⟨upd S.nd m.2 ⟨(S.nd m.2).debt, true, (S.nd m.2).done, m.1⟩, S.under.take i ++ S.under.drop (i + 1), S.tells, S.work, S.ok⟩ j m.2 = decide (m.1 = j) := by simp [child, upd, hm0]; omega
      rw [e1, e2] at this
      simpa [kids] using this
    refine Inv.lay (S := ⟨upd S.nd m.2 ⟨(S.nd m.2).debt, true, (S.nd m.2).done, m.1⟩, S.under.take i ++ S.under.drop (i + 1), S.tells, S.work, S.ok⟩) ⟨h.n0, fun j hj => ?_, hu, h.tells, fun j hj => ?_, fun j hj => ?_, fun hq => ?_, fun j hj hj0 => ?_, ?_, ?_, h.ok⟩ hm2 (by simp [upd]) more
    · rw [kk]
      have h3 := h.debt j hj
      have h4 := hc j
      have h6 : (upd S.nd m.2 ⟨(S.nd m.2).debt, true, (S.nd m.2).done, m.1⟩ j).debt = (S.nd j).debt := by simp only [upd]; split; (· rename_i e; rw [e]); rfl
      simp only [h6]
      omega
    · simp only [upd]; split
      · intro q; cases q
      · exact h.idle j hj
    · simp only [upd, if_neg (Ne.symm hm0)]
      split
      · rename_i e; rw [hdn]; intro q; cases q
      · exact h.done1 j hj
    · simp only [upd, if_neg (Ne.symm hm0)] at hq ⊢; exact h.done2 hq
    · simp only [upd]; split
      · intro _; exact ⟨m.1, hm1, rfl⟩
      · exact h.par j hj hj0
    · simp only [upd, if_neg (Ne.symm hm0)]; exact h.root
    · obtain ⟨r, hr⟩ := h.rank
      -- the new node stands above all that work
      have noKid : ∀ j p, j < n → j ≠ 0 → (S.nd j).works = true → (S.nd j).parent = (p : Nat) → p ≠ m.2 := by
        intro j p hj hj0 hwj hpj e0
        subst e0
        have hk := kids_pos h hj hj0 hwj hpj
        have := h.debt m.2 hm2
        have := (h.idle m.2 hm2 hw).1
        omega
      refine ⟨upd r m.2 (r m.1 + 1), fun j q hj hj0 hwj hpj => ?_⟩
      by_cases e0 : j = m.2
      · subst e0
        simp only [upd, if_true] at hpj ⊢
        have : q = m.1 := by omega
        subst this
        rw [if_neg hne]; omega
      · simp only [upd, if_neg e0] at hwj hpj ⊢
        rw [if_neg (noKid j q hj hj0 hwj hpj)]
        exact hr j q hj hj0 hwj hpj

theorem Inv.init (hn : 0 < n) (m : Nat) : Inv n ⟨Nd.init, [], [], upd (fun _ => 0) 0 m, true⟩ := by
  refine ⟨hn, fun i hi => ?_, by simp, by simp, fun i hi hw => ?_, fun i hi hd => ?_, fun h => ?_, fun i hi h0 hw => ?_, rfl, ⟨fun _ => 0, fun j p hj h0 hw => ?_⟩, rfl⟩
  · have : kids n ⟨Nd.init, [], [], upd (fun _ => 0) 0 m, true⟩ i = 0 := by
      unfold kids
      rw [List.countP_eq_zero]
      intro j _
      simp [child, Nd.init]
    rw [this]; simp [Nd.init]
  · simp [Nd.init] at hw
    simp [Nd.init, upd, hw]
  · simp [Nd.init] at hd
  · simp [Nd.init] at h
  · simp [Nd.init, h0] at hw
  · simp [Nd.init, h0] at hw
end Go.Ab
