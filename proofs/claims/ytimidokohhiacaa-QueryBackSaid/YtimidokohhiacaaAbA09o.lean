import Derived.Test.YtimidokohhiacaaAbA09e
import Derived.Test.YtimidokohhiacaaAbA09i
/- sinew/query: where signs stand does not matter; how many blanks stand between does not. -/
namespace Go.Ab
open Go.RowKit
set_option linter.unusedVariables false
set_option linter.unusedSimpArgs false
def strip (x : Sg) : Sg := ⟨x.k, x.tx, 0⟩
def PR.mp {α : Type} (r : PR α) : PR α := match r with | .ok a l => .ok a (l.map strip) | .bad l => .bad (l.map strip)
theorem mp_bind {α β : Type} (r : PR α) {f : α → List Sg → PR β} (h : ∀ a l, f a (l.map strip) = (f a l).mp) : (r.bind f).mp = r.mp.bind f := by
  cases r with
  | ok a l => exact (h a l).symm
  | bad l => rfl
theorem pTake_mp (k : Int) (ts : List (List UInt8)) (l : List Sg) : pTake k ts (l.map strip) = (pTake k ts l).mp := by
  cases l with
  | nil => rfl
  | cons x l =>
    rw [List.map_cons, pTake, pTake]
    show (if x.k = k ∧ (ts = [] ∨ ts.contains x.tx = true) then _ else _) = _
    split
    · rfl
    · rfl
theorem pIs_mp (m : List UInt8) (l : List Sg) : pIs m (l.map strip) = (pIs m l).map (·.map strip) := by
  cases l with
  | nil => rfl
  | cons x l =>
    rw [List.map_cons, pIs, pIs]
    show (if x.k = 3 ∧ x.tx = m then _ else _) = _
    split
    · rfl
    · rfl
theorem nowK_mp (l : List Sg) : nowK (l.map strip) = nowK l := by cases l <;> rfl
theorem pTerm_mp (l : List Sg) : pTerm (l.map strip) = (pTerm l).mp := by
  unfold pTerm
  rw [nowK_mp, pTake_mp, pTake_mp]
  split
  · rw [mp_bind]; intro a l; rfl
  · rw [mp_bind]; intro a l; rfl
theorem pPrim_mp {P : List Sg → PR Pth} (hP : ∀ l, P (l.map strip) = (P l).mp) (l : List Sg) : pPrim P (l.map strip) = (pPrim P l).mp := by
  unfold pPrim
  rw [pIs_mp]
  cases pIs [40] l with
  | none =>
    show (pTake 1 [] (l.map strip)).bind _ = PR.mp ((pTake 1 [] l).bind _)
    rw [pTake_mp, mp_bind]; intro a l; rfl
  | some l' =>
    show (P (l'.map strip)).bind _ = PR.mp ((P l').bind _)
    rw [hP, mp_bind]; intro a l
    rw [pTake_mp, mp_bind]; intro b l; rfl
theorem pStars_mp : ∀ (l : List Sg) (p : Pth), pStars p (l.map strip) = ((pStars p l).1, (pStars p l).2.map strip)
  | [], p => rfl
  | x :: l, p => by
    rw [List.map_cons, pStars, pStars]
    show (if x.k = 3 ∧ x.tx = [42] then pStars (.mk 4 [] [p]) (l.map strip) else if x.k = 3 ∧ x.tx = [43] then pStars (.mk 5 [] [p]) (l.map strip) else if x.k = 3 ∧ x.tx = [63] then pStars (.mk 6 [] [p]) (l.map strip) else (p, strip x :: l.map strip)) = _
    split
    · exact pStars_mp l _
    split
    · exact pStars_mp l _
    split
    · exact pStars_mp l _
    · rfl
theorem pPost_mp {P : List Sg → PR Pth} (hP : ∀ l, P (l.map strip) = (P l).mp) (l : List Sg) : pPost P (l.map strip) = (pPost P l).mp := by
  unfold pPost
  rw [pPrim_mp hP, mp_bind]; intro a l
  rw [pStars_mp]; rfl
theorem pMore_mp {m : List UInt8} {P : List Sg → PR Pth} (hP : ∀ l, P (l.map strip) = (P l).mp) : ∀ (n : Nat) (ps : List Pth) (l : List Sg), pMore m P n ps (l.map strip) = (pMore m P n ps l).mp
  | 0, _, l => rfl
  | n + 1, ps, l => by
    rw [pMore, pMore, pIs_mp]
    cases pIs m l with
    | none => rfl
    | some l' =>
      show (P (l'.map strip)).bind _ = PR.mp ((P l').bind _)
      rw [hP, mp_bind]; intro a l
      exact pMore_mp hP n _ l
theorem pSome_mp {k : Int} {m : List UInt8} {P : List Sg → PR Pth} (hP : ∀ l, P (l.map strip) = (P l).mp) (n : Nat) (l : List Sg) : pSome k m P n (l.map strip) = (pSome k m P n l).mp := by
  unfold pSome
  rw [hP, mp_bind]; intro a l
  rw [pMore_mp hP, mp_bind]; intro b l; rfl
theorem pPath_mp : ∀ (n : Nat) (l : List Sg), pPath n (l.map strip) = (pPath n l).mp
  | 0, l => rfl
  | n + 1, l => by
    rw [pPath, pPath]
    exact pSome_mp (fun l => pSome_mp (fun l => pPost_mp (pPath_mp n) l) n l) n l
theorem pAtom_mp (N : Nat) (l : List Sg) : pAtom N (l.map strip) = (pAtom N l).mp := by
  unfold pAtom
  rw [pTerm_mp, mp_bind]; intro a l
  rw [pPath_mp, mp_bind]; intro b l
  rw [pTerm_mp, mp_bind]; intro c l; rfl
theorem pAtoms_mp (N : Nat) : ∀ (n : Nat) (ats : List AtP) (l : List Sg), pAtoms N n ats (l.map strip) = (pAtoms N n ats l).mp
  | 0, _, l => rfl
  | n + 1, ats, l => by
    rw [pAtoms, pAtoms, pAtom_mp, mp_bind]; intro a l
    rw [pIs_mp]
    cases pIs [46] l with
    | none => rfl
    | some l' =>
      show (match pIs [125] (l'.map strip) with | some _ => .ok (ats ++ [a]) (l'.map strip) | none => pAtoms N n (ats ++ [a]) (l'.map strip)) = PR.mp (match pIs [125] l' with | some _ => .ok (ats ++ [a]) l' | none => pAtoms N n (ats ++ [a]) l')
      rw [pIs_mp]
      cases pIs [125] l' with
      | some l2 => rfl
      | none => exact pAtoms_mp N n _ l'
theorem pVars_mp : ∀ (l : List Sg) (vs : List (List UInt8)), pVars vs (l.map strip) = ((pVars vs l).1, (pVars vs l).2.map strip)
  | [], vs => rfl
  | x :: l, vs => by
    rw [List.map_cons, pVars, pVars]
    show (if x.k = 2 then pVars (vs ++ [x.tx]) (l.map strip) else (vs, strip x :: l.map strip)) = _
    split
    · exact pVars_mp l _
    · rfl
theorem pQuery_mp (N : Nat) (l : List Sg) : pQuery N (l.map strip) = (pQuery N l).mp := by
  unfold pQuery
  rw [pTake_mp, mp_bind]; intro a l
  rw [pTake_mp, mp_bind]; intro v l
  rw [pVars_mp]
  show (pTake 1 _ ((pVars [v] l).2.map strip)).bind _ = _
  rw [pTake_mp, mp_bind]; intro c l
  rw [pTake_mp, mp_bind]; intro d l
  rw [pAtoms_mp, mp_bind]; intro e l
  rw [pTake_mp, mp_bind]; intro f l; rfl
theorem pChg_mp (l : List Sg) : pChg (l.map strip) = (pChg l).mp := by
  unfold pChg
  rw [pTake_mp, mp_bind]; intro a l
  rw [pTake_mp, mp_bind]; intro b l
  rw [pTake_mp, mp_bind]; intro c l
  rw [pTake_mp, mp_bind]; intro d l; rfl
theorem pChs_mp : ∀ (n : Nat) (cs : List Chg) (l : List Sg), pChs n cs (l.map strip) = (pChs n cs l).mp
  | 0, _, l => rfl
  | n + 1, cs, l => by
    rw [pChs, pChs, pChg_mp, mp_bind]; intro a l
    rw [pIs_mp]
    cases pIs [46] l with
    | none => rfl
    | some l' => exact pChs_mp n _ l'
theorem isSel_mp (l : List Sg) : isSel (l.map strip) = isSel l := by cases l <;> rfl
theorem pReq_mp (N : Nat) (l : List Sg) : pReq N (l.map strip) = (pReq N l).mp := by
  unfold pReq
  rw [isSel_mp]
  split
  · rw [pQuery_mp, mp_bind]; intro a l
    by_cases h : l = []
    · subst h; rfl
    · rw [if_neg h, if_neg (by simpa using h)]; rfl
  · rw [pChs_mp, mp_bind]; intro a l
    by_cases h : l = []
    · subst h; rfl
    · rw [if_neg h, if_neg (by simpa using h)]; rfl
/-- The same signs, at whatever places. -/
theorem pReq_same {N : Nat} {l l' : List Sg} (h : l'.map strip = l.map strip) {r : Rq} (hr : pReq N l = .ok r []) : pReq N l' = .ok r [] := by
  have h1 := pReq_mp N l
  have h2 := pReq_mp N l'
  rw [h, h1, hr] at h2
  cases h3 : pReq N l' with
  | bad k => rw [h3] at h2; cases h2
  | ok r' k =>
    rw [h3] at h2
    have h2' : PR.ok r ([].map strip) = PR.ok r' (k.map strip) := h2
    simp only [List.map_nil, PR.ok.injEq] at h2'
    obtain ⟨rfl, hk⟩ := h2'
    have : k = [] := by simpa using hk.symm
    rw [this]
theorem pReq_nil {N : Nat} {l l' : List Sg} {r : Rq} (h : pReq N l = .ok r l') : l' = [] := by
  unfold pReq at h
  split at h
  · cases hq : pQuery N l with
    | bad x => rw [hq] at h; cases h
    | ok q l1 =>
      rw [hq, PR.bind_ok] at h
      split at h
      · cases h; rfl
      · cases h
  · cases hq : pChs N [] l with
    | bad x => rw [hq] at h; cases h
    | ok q l1 =>
      rw [hq, PR.bind_ok] at h
      split at h
      · cases h; rfl
      · cases h
/-- What a text that is a request is. -/
theorem parse_ok {s : List UInt8} (h : (parseP s).2.2 = 0) : s.length ≤ 4096 ∧ ∃ l r, lexA s = .ok l ∧ pReq (l.length + 1) l = .ok r [] ∧ whyP r = 0 ∧ parseP s = (r, 0, 0) := by
  unfold parseP at h
  by_cases h4 : 4096 < s.length
  · rw [if_pos h4] at h; cases h
  rw [if_neg h4] at h
  refine ⟨by omega, ?_⟩
  cases hl : lexA s with
  | bad k => rw [hl] at h; cases h
  | ok l =>
    rw [hl] at h
    simp only at h
    cases hr : pReq (l.length + 1) l with
    | bad l' => rw [hr] at h; cases h
    | ok r l' =>
      rw [hr] at h
      simp only at h
      have := pReq_nil hr
      subst this
      by_cases hw : whyP r = 0
      · refine ⟨l, r, rfl, hr, hw, ?_⟩
        unfold parseP
        rw [if_neg h4, hl]
        simp only [hr, if_pos hw]
      · rw [if_neg hw] at h
        exact absurd h hw
theorem parse_of {s : List UInt8} (h4 : s.length ≤ 4096) {l : List Sg} {r : Rq} (hl : lexA s = .ok l) (hr : pReq (l.length + 1) l = .ok r []) (hw : whyP r = 0) : parseP s = (r, 0, 0) := by
  unfold parseP
  rw [if_neg (by omega), hl]
  simp only [hr, if_pos hw]
/-! blanks -/
inductive Bl : List UInt8 → List UInt8 → Prop
  | nil (u : List UInt8) (h : ∀ b ∈ u, blB b = true) : Bl [] u
  | blank (b : UInt8) (s u t : List UInt8) (hb : blB b = true) (h : ∀ b ∈ u, blB b = true) (hu : u ≠ []) : Bl s t → Bl (b :: s) (u ++ t)
  | other (b : UInt8) (s t : List UInt8) (hb : blB b = false) : Bl s t → Bl (b :: s) (b :: t)
theorem blank_part (b : UInt8) (h : blB b = true) : partB b = false := by
  revert h
  exact all256 (P := fun b => blB b = true → partB b = false) (by decide +kernel) b
theorem Bl.app {s t : List UInt8} (h : Bl s t) (u : List UInt8) (hu : ∀ b ∈ u, blB b = true) : Bl s (t ++ u) := by
  induction h with
  | nil v hv => exact .nil _ fun b hb => by rcases List.mem_append.1 hb with g | g; exact hv b g; exact hu b g
  | blank b s v t hb hv hne _ ih => rw [List.append_assoc]; exact .blank b s v _ hb hv hne ih
  | other b s t hb _ ih => exact .other b s _ hb ih
theorem Bl.run {s t : List UInt8} (h : Bl s t) : runL s = runL t ∧ Bl (s.drop (runL s).length) (t.drop (runL s).length) := by
  induction h with
  | nil u hu =>
    have : runL u = [] := by
      cases u with
      | nil => rfl
      | cons b u => exact runL_no (blank_part b (hu b (by simp)))
    rw [this]; exact ⟨rfl, .nil u hu⟩
  | blank b s u t hb hu hne hst ih =>
    have h1 : runL (b :: s) = [] := runL_no (blank_part b hb)
    have h2 : runL (u ++ t) = [] := by
      cases u with
      | nil => exact absurd rfl hne
      | cons c u => exact runL_no (blank_part c (hu c (by simp)))
    rw [h1, h2]; exact ⟨rfl, .blank b s u t hb hu hne hst⟩
  | other b s t hb hst ih =>
    cases hp : partB b with
    | true =>
      rw [runL_cons hp, runL_cons hp]
      exact ⟨by rw [ih.1], by simpa using ih.2⟩
    | false => rw [runL_no hp, runL_no hp]; exact ⟨rfl, .other b s t hb hst⟩
end Go.Ab
