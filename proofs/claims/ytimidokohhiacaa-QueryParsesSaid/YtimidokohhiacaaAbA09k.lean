import Derived.Test.YtimidokohhiacaaAbA09d
import Derived.Test.YtimidokohhiacaaAbA09i
/- sinew/query: a text that is cut ahead of what is wrong. -/
namespace Go.Ab
open Go.RowKit
set_option linter.unusedVariables false
set_option linter.unusedSimpArgs false
/-- What is read of a list, and of what stands ahead of x. -/
def PX {α : Type} (x : Sg) (rest : List Sg) (r r' : PR α) : Prop := (∀ a m, r = .ok a (m ++ x :: rest) → r' = .ok a m) ∧ (∀ m, r = .bad (m ++ x :: rest) → r' = .bad m)
theorem suf_split {x : Sg} {rest l pre : List Sg} (h : l <:+ pre ++ x :: rest) : (∃ m, m <:+ pre ∧ l = m ++ x :: rest) ∨ l.length ≤ rest.length := by
  obtain ⟨t, ht⟩ := h
  rcases List.append_eq_append_iff.1 ht with ⟨a, h1, h2⟩ | ⟨a, h1, h2⟩
  · -- pre = t ++ a, l = a ++ x :: rest
    exact .inl ⟨a, ⟨t, h1.symm⟩, h2⟩
  · -- t = pre ++ a, x :: rest = a ++ l
    cases a with
    | nil => exact .inl ⟨[], List.nil_suffix, by simpa using h2.symm⟩
    | cons y a =>
      right
      have := congrArg List.length h2
      simp at this; omega
theorem PX.bind {α β : Type} {x : Sg} {rest pre : List Sg} {r r' : PR α} {f f' : α → List Sg → PR β} (h : PX x rest r r') (hs : r.suf (pre ++ x :: rest)) (hle : ∀ a l, (f a l).le l.length) (hf : ∀ a m, m <:+ pre → r = .ok a (m ++ x :: rest) → PX x rest (f a (m ++ x :: rest)) (f' a m)) : PX x rest (r.bind f) (r'.bind f') := by
  cases r with
  | bad l =>
    refine ⟨fun a m e => (by cases e), fun m e => ?_⟩
    cases e
    rw [h.2 m rfl]; rfl
  | ok a l =>
    rcases suf_split hs with ⟨m, hm, rfl⟩ | hl
    · rw [h.1 a m rfl, PR.bind_ok, PR.bind_ok]
      exact hf a m hm rfl
    · have h2 := hle a l
      rw [PR.bind_ok]
      refine ⟨fun b m e => ?_, fun m e => ?_⟩ <;>
      · rw [e] at h2
        have : (m ++ x :: rest).length ≤ l.length := h2
        simp at this; omega
theorem PX.ok {α : Type} {x : Sg} {rest m : List Sg} (a : α) : PX x rest (.ok a (m ++ x :: rest)) (.ok a m) := by
  refine ⟨fun b k e => ?_, fun k e => (by cases e)⟩
  simp only [PR.ok.injEq] at e
  obtain ⟨rfl, e⟩ := e
  rw [List.append_cancel_right e]
theorem PX.far {α : Type} {x : Sg} {rest l : List Sg} {r r' : PR α} (h : r.le l.length) (hl : l.length ≤ rest.length) : PX x rest r r' := by
  refine ⟨fun b m e => ?_, fun m e => ?_⟩ <;>
  · rw [e] at h
    have : (m ++ x :: rest).length ≤ l.length := h
    simp at this; omega
theorem pTake_px (k : Int) (ts : List (List UInt8)) (x : Sg) (rest m : List Sg) : PX x rest (pTake k ts (m ++ x :: rest)) (pTake k ts m) := by
  cases m with
  | nil =>
    rw [List.nil_append, pTake, pTake]
    split
    · exact PX.far (l := rest) (Nat.le_refl _) (Nat.le_refl _)
    · refine ⟨fun b m e => (by cases e), fun m e => ?_⟩
      simp only [PR.bad.injEq] at e
      have : m = [] := by
        have := congrArg List.length e
        simp at this; simpa using this
      rw [this]
  | cons y m =>
    rw [List.cons_append, pTake, pTake]
    split
    · exact PX.ok _
    · refine ⟨fun b m e => (by cases e), fun k e => ?_⟩
      simp only [PR.bad.injEq] at e
      rw [← List.cons_append] at e
      rw [List.append_cancel_right e]
theorem pTake_le' (k : Int) (ts : List (List UInt8)) (l : List Sg) : (pTake k ts l).le l.length := pTake_le k ts l
theorem pTerm_px (x : Sg) (rest m : List Sg) : PX x rest (pTerm (m ++ x :: rest)) (pTerm m) := by
  unfold pTerm
  cases m with
  | nil =>
    -- x is read, or it is wrong
    have h0 : nowK ([] : List Sg) ≠ 2 := by decide
    rw [if_neg h0]
    split
    · have ht : pTake 2 [] ([] ++ x :: rest) = .ok x.tx rest := by
        rename_i hk
        rw [List.nil_append, pTake, if_pos ⟨hk, .inl rfl⟩]
      rw [ht, PR.bind_ok]
      exact PX.far (l := rest) (Nat.le_refl _) (Nat.le_refl _)
    · exact (pTake_px 1 [] x rest []).bind (pre := []) (pTake_suf 1 [] _) (fun a l => Nat.le_refl _) (fun a m _ _ => PX.ok _)
  | cons y m =>
    have hk : nowK (y :: m ++ x :: rest) = nowK (y :: m) := rfl
    rw [hk]
    split
    · exact (pTake_px 2 [] x rest (y :: m)).bind (pre := y :: m) (pTake_suf 2 [] _) (fun a l => Nat.le_refl _) (fun a m _ _ => PX.ok _)
    · exact (pTake_px 1 [] x rest (y :: m)).bind (pre := y :: m) (pTake_suf 1 [] _) (fun a l => Nat.le_refl _) (fun a m _ _ => PX.ok _)
theorem pIs_px (t : List UInt8) (x : Sg) (rest m : List Sg) : (∃ m', m' <:+ m ∧ m'.length < m.length ∧ pIs t (m ++ x :: rest) = some (m' ++ x :: rest) ∧ pIs t m = some m') ∨ (pIs t (m ++ x :: rest) = none ∧ pIs t m = none) ∨ (m = [] ∧ pIs t (x :: rest) = some rest) := by
  cases m with
  | nil =>
    rw [List.nil_append]
    rw [pIs, pIs]
    split
    · exact .inr (.inr ⟨rfl, rfl⟩)
    · exact .inr (.inl ⟨rfl, rfl⟩)
  | cons y m =>
    rw [List.cons_append, pIs, pIs]
    split
    · exact .inl ⟨m, List.suffix_cons _ _, by simp, rfl, rfl⟩
    · exact .inr (.inl ⟨rfl, rfl⟩)
/-- A reader that is told by less of the list, too. -/
def Rd (n : Nat) (x : Sg) (rest : List Sg) (P P' : List Sg → PR Pth) : Prop := ∀ m, m.length < n → PX x rest (P (m ++ x :: rest)) (P' m)
theorem pPrim_px {n : Nat} {x : Sg} {rest : List Sg} {P P' : List Sg → PR Pth} (hP : ∀ l, (P l).le l.length) (hS : ∀ l, (P l).suf l) (h : Rd n x rest P P') (m : List Sg) (hm : m.length < n + 1) : PX x rest (pPrim P (m ++ x :: rest)) (pPrim P' m) := by
  have hle2 : ∀ (a : Pth) (l : List Sg), ((pTake 3 [[41]] l).bind fun _ l => .ok a l : PR Pth).le l.length := fun a l => (pTake_le 3 _ l).bind fun _ l h => h
  unfold pPrim
  rcases pIs_px [40] x rest m with ⟨m', h1, h1', h2, h3⟩ | ⟨h2, h3⟩ | ⟨rfl, h2⟩
  · rw [h2, h3]
    refine (h m' (by omega)).bind (pre := m') (hS _) hle2 fun a k hk _ => ?_
    exact (pTake_px 3 [[41]] x rest k).bind (pre := k) (pTake_suf 3 _ _) (fun a l => Nat.le_refl _) (fun _ m _ _ => PX.ok _)
  · rw [h2, h3]
    exact (pTake_px 1 [] x rest m).bind (pre := m) (pTake_suf 1 [] _) (fun a l => Nat.le_refl _) (fun a m _ _ => PX.ok _)
  · rw [List.nil_append, h2]
    refine PX.far (l := rest) ?_ (Nat.le_refl _)
    exact (hP rest).bind fun a l hl => PR.le.mono (hle2 a l) hl
theorem pStars_px (x : Sg) (rest : List Sg) : ∀ (m : List Sg) (p : Pth), (∃ k, (pStars p (m ++ x :: rest)).2 = k ++ x :: rest ∧ pStars p m = ((pStars p (m ++ x :: rest)).1, k)) ∨ (pStars p (m ++ x :: rest)).2.length ≤ rest.length
  | [], p => by
    rw [List.nil_append]
    have hstar : ∀ q : Pth, (pStars q rest).2.length ≤ rest.length := fun q => pStars_le rest q
    rw [pStars, pStars]
    split
    · exact .inr (hstar _)
    split
    · exact .inr (hstar _)
    split
    · exact .inr (hstar _)
    · exact .inl ⟨[], rfl, rfl⟩
  | y :: m, p => by
    rw [List.cons_append, pStars, pStars]
    split
    · exact pStars_px x rest m _
    split
    · exact pStars_px x rest m _
    split
    · exact pStars_px x rest m _
    · exact .inl ⟨y :: m, rfl, rfl⟩
theorem pPost_px {n : Nat} {x : Sg} {rest : List Sg} {P P' : List Sg → PR Pth} (hP : ∀ l, (P l).le l.length) (hS : ∀ l, (P l).suf l) (h : Rd n x rest P P') (m : List Sg) (hm : m.length < n + 1) : PX x rest (pPost P (m ++ x :: rest)) (pPost P' m) := by
  unfold pPost
  refine (pPrim_px hP hS h m hm).bind (pre := m) (pPrim_suf hS _) (fun a l => pStars_le l a) fun a k hk _ => ?_
  rcases pStars_px x rest k a with ⟨j, h1, h2⟩ | h1
  · rw [h1, h2]
    exact PX.ok _
  · exact PX.far (l := (pStars a (k ++ x :: rest)).2) (Nat.le_refl _) h1
theorem pMore_px {n : Nat} {t : List UInt8} {x : Sg} {rest : List Sg} {P P' : List Sg → PR Pth} (hP : ∀ l, (P l).le l.length) (hS : ∀ l, (P l).suf l) (h : Rd n x rest P P') : ∀ (N M : Nat) (ps : List Pth) (m : List Sg), (m ++ x :: rest).length < N → m.length < M → m.length < n → PX x rest (pMore t P N ps (m ++ x :: rest)) (pMore t P' M ps m) := by
  intro N
  induction N with
  | zero => intro M ps m h1; omega
  | succ N ih =>
    intro M ps m h1 h2 h3
    obtain ⟨M, rfl⟩ : ∃ M', M = M' + 1 := ⟨M - 1, by omega⟩
    rw [pMore, pMore]
    rcases pIs_px t x rest m with ⟨m', g1, g1', g2, g3⟩ | ⟨g2, g3⟩ | ⟨rfl, g2⟩
    · rw [g2, g3]
      refine (h m' (by omega)).bind (pre := m') (hS _) (fun a l => pMore_le hP N _ l) fun a k hk _ => ?_
      have := hk.length_le
      exact ih M (ps ++ [a]) k (by simp at h1 ⊢; omega) (by omega) (by omega)
    · rw [g2, g3]
      exact PX.ok _
    · rw [List.nil_append, g2]
      refine PX.far (l := rest) ?_ (Nat.le_refl _)
      exact (hP rest).bind fun a l hl => PR.le.mono (pMore_le hP N _ l) hl
theorem pSome_px {n : Nat} (k : Int) {t : List UInt8} {x : Sg} {rest : List Sg} {P P' : List Sg → PR Pth} (hP : ∀ l, (P l).le l.length) (hS : ∀ l, (P l).suf l) (hlt : ∀ {l l' q}, P l = .ok q l' → l'.length < l.length) (h : Rd n x rest P P') (hlt' : ∀ {l l' q}, P' l = .ok q l' → l'.length < l.length) (N M : Nat) (m : List Sg) (h1 : (m ++ x :: rest).length ≤ N) (h2 : m.length ≤ M) (h3 : m.length < n) : PX x rest (pSome k t P N (m ++ x :: rest)) (pSome k t P' M m) := by
  unfold pSome
  have hle2 : ∀ (a : Pth) (l : List Sg), ((pMore t P N [a] l).bind fun ps l => .ok (mkN k ps) l : PR Pth).le l.length := fun a l => (pMore_le hP N [a] l).bind fun _ l h => h
  refine (h m h3).bind (pre := m) (hS _) hle2 fun a j hj e => ?_
  have w := hlt e
  have := hj.length_le
  by_cases hM : j.length < M
  · refine (pMore_px hP hS h N M [a] j (by omega) hM (by omega)).bind (pre := j) (pMore_suf hS N [a] _) (fun a l => Nat.le_refl _) (fun _ m _ _ => PX.ok _)
  · exfalso
    have hPX := (h m h3).1 a j e
    have := hlt' hPX
    omega
theorem pPath_px (x : Sg) (rest : List Sg) : ∀ (N M : Nat) (m : List Sg), (m ++ x :: rest).length < N → m.length < M → PX x rest (pPath N (m ++ x :: rest)) (pPath M m) := by
  intro N
  induction N with
  | zero => intro M m h; omega
  | succ N ih =>
    intro M m h1 h2
    obtain ⟨M, rfl⟩ : ∃ M', M = M' + 1 := ⟨M - 1, by omega⟩
    rw [pPath, pPath]
    have r0 : Rd (min M (N - rest.length - 1)) x rest (pPath N) (pPath M) := fun k hk => ih M k (by simp; omega) (by omega)
    have hm1 : m.length ≤ M := by omega
    have hmN : m.length ≤ N - rest.length - 1 := by simp at h1; omega
    have hN : rest.length + 1 ≤ N := by simp at h1; omega
    have r1 : Rd (min M (N - rest.length - 1) + 1) x rest (pPost (pPath N)) (pPost (pPath M)) := fun k hk => pPost_px (pPath_le N) (pPath_suf N) r0 k hk
    have r2 : Rd (min M (N - rest.length - 1) + 1) x rest (pSome 2 [47] (pPost (pPath N)) N) (pSome 2 [47] (pPost (pPath M)) M) := fun k hk =>
      pSome_px 2 (fun l => pPost_le (pPath_le N) l) (fun l => pPost_suf (pPath_suf N) l) (fun h => pPost_lt (pPath_le N) h) r1 (fun h => pPost_lt (pPath_le M) h) N M k (by simp; omega) (by omega) hk
    exact pSome_px 3 (fun l => pSome_le (fun l => pPost_le (pPath_le N) l) N l) (fun l => pSome_suf (fun l => pPost_suf (pPath_suf N) l) N l) (fun h => pSome_lt (fun l => pPost_le (pPath_le N) l) (fun h => pPost_lt (pPath_le N) h) h) r2 (fun h => pSome_lt (fun l => pPost_le (pPath_le M) l) (fun h => pPost_lt (pPath_le M) h) h) N M m (by simp at h1 ⊢; omega) hm1 (by omega)
theorem bind_assoc' {α β γ : Type} (r : PR α) (f : α → List Sg → PR β) (g : β → List Sg → PR γ) : (r.bind f).bind g = r.bind fun a l => (f a l).bind g := by cases r <;> rfl
theorem pAtom_le (N : Nat) (l : List Sg) : (pAtom N l).le l.length := by
  unfold pAtom
  refine (pTerm_le l).bind fun s l1 h1 => PR.le.mono (n := l1.length) ?_ h1
  refine (pPath_le N l1).bind fun p l2 h2 => PR.le.mono (n := l2.length) ?_ h2
  exact (pTerm_le l2).bind fun o l3 h3 => h3
theorem pAtom_px (x : Sg) (rest : List Sg) (N M : Nat) (m : List Sg) (h1 : (m ++ x :: rest).length < N) (h2 : m.length < M) : PX x rest (pAtom N (m ++ x :: rest)) (pAtom M m) := by
  unfold pAtom
  refine (pTerm_px x rest m).bind (pre := m) (pTerm_suf _) (fun a l => ?_) fun s k hk _ => ?_
  · refine (pPath_le N l).bind fun p l2 h2 => PR.le.mono (n := l2.length) ?_ h2
    exact (pTerm_le l2).bind fun o l3 h3 => h3
  have := hk.length_le
  refine (pPath_px x rest N M k (by simp at h1 ⊢; omega) (by omega)).bind (pre := k) (pPath_suf N _) (fun a l => (pTerm_le l).bind fun o l3 h3 => h3) fun p j hj _ => ?_
  exact (pTerm_px x rest j).bind (pre := j) (pTerm_suf _) (fun a l => Nat.le_refl _) (fun a m _ _ => PX.ok _)
theorem pAtoms_le (N : Nat) : ∀ (n : Nat) (ats : List AtP) (l : List Sg), (pAtoms N n ats l).le l.length
  | 0, _, l => Nat.le_refl _
  | n + 1, ats, l => by
    rw [pAtoms]
    refine (pAtom_le N l).bind fun a l1 h1 => PR.le.mono (n := l1.length) ?_ h1
    cases h2 : pIs [46] l1 with
    | none => exact Nat.le_refl _
    | some l2 =>
      have := pIs_lt h2
      simp only
      cases h3 : pIs [125] l2 with
      | some l3 => show l2.length ≤ _; omega
      | none => exact (pAtoms_le N n _ l2).mono (by omega)
theorem pAtoms_suf (N : Nat) : ∀ (n : Nat) (ats : List AtP) (l : List Sg), (pAtoms N n ats l).suf l
  | 0, _, l => List.suffix_refl _
  | n + 1, ats, l => by
    rw [pAtoms]
    refine (pAtom_suf N l).bind fun a l1 => ?_
    cases h2 : pIs [46] l1 with
    | none => exact List.suffix_refl _
    | some l2 =>
      have := pIs_suf h2
      simp only
      cases h3 : pIs [125] l2 with
      | some l3 => exact this
      | none => exact suf_of (pAtoms_suf N n _ l2) this
theorem br_px (vs : List (List UInt8)) (ats : List AtP) (x : Sg) (rest k : List Sg) : PX x rest ((pTake 3 [[125]] (k ++ x :: rest)).bind fun _ l2 => .ok (vs, ats) l2 : PR (List (List UInt8) × List AtP)) ((pTake 3 [[125]] k).bind fun _ l2 => .ok (vs, ats) l2) :=
  (pTake_px 3 _ x rest k).bind (pre := k) (pTake_suf 3 _ _) (fun a l => Nat.le_refl _) (fun _ m _ _ => PX.ok _)
theorem pAtoms_px (vs : List (List UInt8)) (x : Sg) (rest : List Sg) (N M : Nat) : ∀ (n n' : Nat) (ats : List AtP) (m : List Sg), (m ++ x :: rest).length < N → m.length < M → (m ++ x :: rest).length < n → m.length < n' → PX x rest ((pAtoms N n ats (m ++ x :: rest)).bind fun ats l2 => (pTake 3 [[125]] l2).bind fun _ l2 => .ok (vs, ats) l2 : PR (List (List UInt8) × List AtP)) ((pAtoms M n' ats m).bind fun ats l2 => (pTake 3 [[125]] l2).bind fun _ l2 => .ok (vs, ats) l2) := by
  intro n
  induction n with
  | zero => intro n' ats m _ _ h; omega
  | succ n ih =>
    intro n' ats m h1 h2 h3 h4
    obtain ⟨n', rfl⟩ : ∃ k, n' = k + 1 := ⟨n' - 1, by omega⟩
    rw [pAtoms, pAtoms]
    have hF : ∀ (ats : List AtP) (l : List Sg), ((pTake 3 [[125]] l).bind fun _ l2 => .ok (vs, ats) l2 : PR (List (List UInt8) × List AtP)).le l.length := fun a l => (pTake_le 3 _ l).bind fun _ l4 h4 => h4
    have hle2 : ∀ (a : AtP) (l : List Sg), ((match pIs [46] l with | none => .ok (ats ++ [a]) l | some l' => match pIs [125] l' with | some _ => .ok (ats ++ [a]) l' | none => pAtoms N n (ats ++ [a]) l' : PR (List AtP)).bind fun ats l2 => (pTake 3 [[125]] l2).bind fun _ l2 => .ok (vs, ats) l2 : PR (List (List UInt8) × List AtP)).le l.length := fun a l => by
      cases h2 : pIs [46] l with
      | none => exact hF _ l
      | some l2 =>
        have := pIs_lt h2
        simp only
        cases h3 : pIs [125] l2 with
        | some l3 => exact (hF _ l2).mono (by omega)
        | none => exact ((pAtoms_le N n _ l2).bind fun a l h => (hF a l).mono h).mono (by omega)
    rw [bind_assoc', bind_assoc']
    refine (pAtom_px x rest N M m h1 h2).bind (pre := m) (pAtom_suf N _) hle2 fun a k hk e => ?_
    have hkl := hk.length_le
    have hlt := pAtom_lt e
    rcases pIs_px [46] x rest k with ⟨k', g1, g1', g2, g3⟩ | ⟨g2, g3⟩ | ⟨rfl, g2⟩
    · simp only [g2, g3]
      rcases pIs_px [125] x rest k' with ⟨k2, j1, j1', j2, j3⟩ | ⟨j2, j3⟩ | ⟨rfl, j2⟩
      · simp only [j2, j3]; exact br_px vs _ x rest k'
      · simp only [j2, j3]
        exact ih n' (ats ++ [a]) k' (by simp at h1 ⊢; omega) (by omega) (by simp at h3 ⊢; omega) (by omega)
      · simp only [List.nil_append, j2, PR.bind_ok]
        have ht : pTake 3 [[125]] (x :: rest) = .ok x.tx rest := by
          rw [pIs] at j2
          split at j2
          · rename_i hc
            rw [pTake, if_pos ⟨hc.1, .inr (by rw [hc.2]; rfl)⟩]
          · cases j2
        rw [ht, PR.bind_ok]
        exact PX.far (l := rest) (Nat.le_refl _) (Nat.le_refl _)
    · simp only [g2, g3]; exact br_px vs _ x rest k
    · simp only [List.nil_append, g2]
      refine PX.far (l := rest) ?_ (Nat.le_refl _)
      cases h3 : pIs [125] rest with
      | some l3 => exact hF _ rest
      | none => exact (pAtoms_le N n _ rest).bind fun a l h => (hF a l).mono h
theorem pVars_px (x : Sg) (rest : List Sg) : ∀ (m : List Sg) (vs : List (List UInt8)), (∃ k, k <:+ m ∧ pVars vs (m ++ x :: rest) = ((pVars vs m).1, k ++ x :: rest) ∧ (pVars vs m).2 = k) ∨ (pVars vs (m ++ x :: rest)).2.length ≤ rest.length
  | [], vs => by
    rw [List.nil_append, pVars, pVars]
    split
    · exact .inr (pVars_le rest _)
    · exact .inl ⟨[], List.suffix_refl _, rfl, rfl⟩
  | y :: m, vs => by
    rw [List.cons_append, pVars, pVars]
    split
    · rcases pVars_px x rest m (vs ++ [y.tx]) with ⟨k, h0, h1, h2⟩ | h
      · exact .inl ⟨k, List.IsSuffix.trans h0 (List.suffix_cons _ _), h1, h2⟩
      · exact .inr h
    · exact .inl ⟨y :: m, List.suffix_refl _, rfl, rfl⟩
/-- What a query's end answers. -/
theorem tail_le (N : Nat) (vs : List (List UInt8)) (l : List Sg) : ((pTake 1 [[119, 104, 101, 114, 101]] l).bind fun _ l2 => (pTake 3 [[123]] l2).bind fun _ l2 => (pAtoms N N [] l2).bind fun ats l2 => (pTake 3 [[125]] l2).bind fun _ l2 => .ok (vs, ats) l2 : PR (List (List UInt8) × List AtP)).le l.length := by
  refine (pTake_le 1 _ l).bind fun _ l1 h1 => PR.le.mono (n := l1.length) ?_ h1
  refine (pTake_le 3 _ l1).bind fun _ l2 h2 => PR.le.mono (n := l2.length) ?_ h2
  refine (pAtoms_le N N [] l2).bind fun _ l3 h3 => PR.le.mono (n := l3.length) ?_ h3
  exact (pTake_le 3 _ l3).bind fun _ l4 h4 => h4
theorem pQuery_le (N : Nat) (l : List Sg) : (pQuery N l).le l.length := by
  unfold pQuery
  refine (pTake_le 1 _ l).bind fun _ l1 h1 => PR.le.mono (n := l1.length) ?_ h1
  refine (pTake_le 2 _ l1).bind fun v l2 h2 => PR.le.mono (n := l2.length) ?_ h2
  exact (tail_le N _ _).mono (pVars_le l2 [v])
theorem pQuery_suf (N : Nat) (l : List Sg) : (pQuery N l).suf l := by
  unfold pQuery
  refine (pTake_suf 1 _ l).bind fun _ l1 => ?_
  refine (pTake_suf 2 _ l1).bind fun v l2 => ?_
  refine suf_of (l := (pVars [v] l2).2) ?_ (pVars_suf l2 [v])
  refine (pTake_suf 1 _ _).bind fun _ l3 => ?_
  refine (pTake_suf 3 _ _).bind fun _ l3 => ?_
  refine (pAtoms_suf N N [] _).bind fun _ l3 => ?_
  exact (pTake_suf 3 _ _).bind fun _ l3 => List.suffix_refl _
theorem pQuery_px (x : Sg) (rest : List Sg) (N M : Nat) (m : List Sg) (h1 : (m ++ x :: rest).length < N) (h2 : m.length < M) : PX x rest (pQuery N (m ++ x :: rest)) (pQuery M m) := by
  unfold pQuery
  refine (pTake_px 1 _ x rest m).bind (pre := m) (pTake_suf 1 _ _) (fun a l => ?_) fun _ k hk _ => ?_
  · refine (pTake_le 2 _ l).bind fun v l2 h2 => PR.le.mono (n := l2.length) ?_ h2
    exact (tail_le N _ _).mono (pVars_le l2 [v])
  have hkl := hk.length_le
  refine (pTake_px 2 [] x rest k).bind (pre := k) (pTake_suf 2 _ _) (fun v l2 => (tail_le N _ _).mono (pVars_le l2 [v])) fun v j hj _ => ?_
  have hjl := hj.length_le
  rcases pVars_px x rest j [v] with ⟨i, i0, i1, i2⟩ | i1
  · have hil := i0.length_le
    simp only [i1, i2]
    refine (pTake_px 1 _ x rest i).bind (pre := i) (pTake_suf 1 _ _) (fun a l => ?_) fun _ k2 hk2 _ => ?_
    · refine (pTake_le 3 _ l).bind fun _ l2 h2 => PR.le.mono (n := l2.length) ?_ h2
      refine (pAtoms_le N N [] l2).bind fun _ l3 h3 => PR.le.mono (n := l3.length) ?_ h3
      exact (pTake_le 3 _ l3).bind fun _ l4 h4 => h4
    have := hk2.length_le
    refine (pTake_px 3 _ x rest k2).bind (pre := k2) (pTake_suf 3 _ _) (fun a l => ?_) fun _ k3 hk3 _ => ?_
    · refine (pAtoms_le N N [] l).bind fun _ l3 h3 => PR.le.mono (n := l3.length) ?_ h3
      exact (pTake_le 3 _ l3).bind fun _ l4 h4 => h4
    have := hk3.length_le
    exact pAtoms_px (pVars [v] j).1 x rest N M N M [] k3 (by simp at h1 ⊢; omega) (by omega) (by simp at h1 ⊢; omega) (by omega)
  · exact PX.far (l := (pVars [v] (j ++ x :: rest)).2) (tail_le N _ _) i1
theorem pChg_px (x : Sg) (rest m : List Sg) : PX x rest (pChg (m ++ x :: rest)) (pChg m) := by
  unfold pChg
  have t3 : ∀ (h s : List UInt8) (l : List Sg), ((pTake 1 [] l).bind fun o l => .ok ⟨h == delW, s, o, o⟩ l : PR Chg).le l.length := fun h s l => (pTake_le 1 _ l).bind fun _ l4 h4 => h4
  refine (pTake_px 1 _ x rest m).bind (pre := m) (pTake_suf 1 _ _) (fun a l => ?_) fun h k hk _ => ?_
  · refine (pTake_le 1 _ l).bind fun _ l2 h2 => PR.le.mono (n := l2.length) ?_ h2
    refine (pTake_le 1 _ l2).bind fun _ l3 h3 => PR.le.mono (n := l3.length) ?_ h3
    exact (pTake_le 1 _ l3).bind fun _ l4 h4 => h4
  refine (pTake_px 1 _ x rest k).bind (pre := k) (pTake_suf 1 _ _) (fun a l => ?_) fun s k2 hk2 _ => ?_
  · refine (pTake_le 1 _ l).bind fun _ l3 h3 => PR.le.mono (n := l3.length) ?_ h3
    exact (pTake_le 1 _ l3).bind fun _ l4 h4 => h4
  refine (pTake_px 1 _ x rest k2).bind (pre := k2) (pTake_suf 1 _ _) (fun a l => (pTake_le 1 _ l).bind fun _ l4 h4 => h4) fun p k3 hk3 _ => ?_
  exact (pTake_px 1 _ x rest k3).bind (pre := k3) (pTake_suf 1 _ _) (fun a l => Nat.le_refl _) (fun _ m _ _ => PX.ok _)
theorem pChg_suf' (l : List Sg) : (pChg l).suf l := by
  unfold pChg
  exact (pTake_suf 1 _ l).bind fun h l => (pTake_suf 1 [] l).bind fun s l => (pTake_suf 1 [] l).bind fun p l => (pTake_suf 1 [] l).bind fun o l => List.suffix_refl _
theorem pChs_suf : ∀ (n : Nat) (cs : List Chg) (l : List Sg), (pChs n cs l).suf l
  | 0, _, l => List.suffix_refl _
  | n + 1, cs, l => by
    rw [pChs]
    refine (pChg_suf' l).bind fun c l1 => ?_
    cases h2 : pIs [46] l1 with
    | none => exact List.suffix_refl _
    | some l2 => exact suf_of (pChs_suf n _ l2) (pIs_suf h2)
theorem suf_le {α : Type} {r : PR α} {l : List Sg} (h : r.suf l) : r.le l.length := by
  cases r with
  | ok a l' => exact List.IsSuffix.length_le h
  | bad l' => exact List.IsSuffix.length_le h
theorem pChs_px (x : Sg) (rest : List Sg) : ∀ (n n' : Nat) (cs : List Chg) (m : List Sg), (m ++ x :: rest).length < n → m.length < n' → PX x rest (pChs n cs (m ++ x :: rest)) (pChs n' cs m) := by
  intro n
  induction n with
  | zero => intro n' cs m h; omega
  | succ n ih =>
    intro n' cs m h1 h2
    obtain ⟨n', rfl⟩ : ∃ k, n' = k + 1 := ⟨n' - 1, by omega⟩
    rw [pChs, pChs]
    have hle2 : ∀ (c : Chg) (l : List Sg), (match pIs [46] l with | none => .ok (cs ++ [c]) l | some l' => pChs n (cs ++ [c]) l' : PR (List Chg)).le l.length := fun c l => by
      cases h2 : pIs [46] l with
      | none => exact Nat.le_refl _
      | some l2 => have := pIs_lt h2; exact (suf_le (pChs_suf n _ l2)).mono (by omega)
    refine (pChg_px x rest m).bind (pre := m) (pChg_suf' _) hle2 fun c k hk e => ?_
    have hkl := hk.length_le
    have hlt := pChg_lt e
    rcases pIs_px [46] x rest k with ⟨k', g1, g1', g2, g3⟩ | ⟨g2, g3⟩ | ⟨rfl, g2⟩
    · simp only [g2, g3]
      exact ih n' (cs ++ [c]) k' (by simp at h1 ⊢; omega) (by omega)
    · simp only [g2, g3]; exact PX.ok _
    · simp only [List.nil_append, g2]
      exact PX.far (l := rest) (suf_le (pChs_suf n _ rest)) (Nat.le_refl _)
/-- Cut ahead of what is wrong: the rest is well read, or wrong at its end. -/
theorem pReq_px (x : Sg) (rest : List Sg) (N M : Nat) (m : List Sg) (h1 : (m ++ x :: rest).length < N) (h2 : m.length < M) (h : pReq N (m ++ x :: rest) = .bad (x :: rest)) : pReq M m = .bad [] ∨ ∃ r, pReq M m = .ok r [] := by
  have fin : ∀ {α : Type} (r r' : PR α) (g : α → Rq), PX x rest r r' → (r.bind fun q l => if l = [] then .ok (g q) [] else .bad l : PR Rq) = .bad (x :: rest) → (r'.bind fun q l => if l = [] then .ok (g q) [] else .bad l : PR Rq) = .bad [] ∨ ∃ z, (r'.bind fun q l => if l = [] then .ok (g q) [] else .bad l : PR Rq) = .ok z [] := fun {α} r r' g hp he => by
    cases r with
    | bad l =>
      have : l = x :: rest := by simpa using he
      subst this
      rw [hp.2 [] rfl]; exact .inl rfl
    | ok a l =>
      rw [PR.bind_ok] at he
      split at he
      · cases he
      · have : l = x :: rest := by simpa using he
        subst this
        rw [hp.1 a [] rfl]; exact .inr ⟨g a, rfl⟩
  unfold pReq at h ⊢
  have hsel : m ≠ [] → isSel (m ++ x :: rest) = isSel m := fun hm => by cases m with | nil => exact absurd rfl hm | cons y m => rfl
  by_cases hm : m = []
  · subst hm
    rw [List.nil_append] at h h1
    have : isSel ([] : List Sg) = false := rfl
    rw [this, if_neg Bool.false_ne_true]
    cases hs : isSel (x :: rest) with
    | true =>
      rw [hs, if_pos rfl] at h
      exfalso
      -- 'select' is read
      have hx : pTake 1 [selW] (x :: rest) = .ok x.tx rest := by
        have hs' : (x.k == 1 && x.tx == selW) = true := hs
        rw [Bool.and_eq_true, beq_iff_eq, beq_iff_eq] at hs'
        rw [pTake, if_pos ⟨hs'.1, .inr (by rw [hs'.2]; rfl)⟩]
      have hq : (pQuery N (x :: rest)).le rest.length := by
        unfold pQuery
        rw [hx, PR.bind_ok]
        refine (pTake_le 2 _ rest).bind fun v l2 h2 => PR.le.mono (n := l2.length) ?_ h2
        exact (tail_le N _ _).mono (pVars_le l2 [v])
      cases hr : pQuery N (x :: rest) with
      | bad l => rw [hr] at h hq; have : l = x :: rest := by simpa using h
                 subst this; have hq' : (x :: rest).length ≤ rest.length := hq; rw [List.length_cons] at hq'; omega
      | ok q l =>
        rw [hr] at h hq
        rw [PR.bind_ok] at h
        split at h
        · cases h
        · have : l = x :: rest := by simpa using h
          subst this; have hq' : (x :: rest).length ≤ rest.length := hq; rw [List.length_cons] at hq'; omega
    | false =>
      rw [hs, if_neg Bool.false_ne_true] at h
      exact fin _ _ _ (pChs_px x rest N M [] [] (by simpa using h1) h2) h
  · rw [hsel hm] at h
    cases hs : isSel m with
    | true =>
      rw [hs, if_pos rfl] at h
      rw [if_pos rfl]
      exact fin _ _ _ (pQuery_px x rest N M m h1 h2) h
    | false =>
      rw [hs, if_neg Bool.false_ne_true] at h
      rw [if_neg Bool.false_ne_true]
      exact fin _ _ _ (pChs_px x rest N M [] m h1 h2) h
theorem pReq_suf (N : Nat) (l : List Sg) : (pReq N l).suf l := by
  unfold pReq
  split
  · refine (pQuery_suf N l).bind fun q l1 => ?_
    split
    · exact List.nil_suffix
    · exact List.suffix_refl _
  · refine (pChs_suf N [] l).bind fun q l1 => ?_
    split
    · exact List.nil_suffix
    · exact List.suffix_refl _
end Go.Ab
