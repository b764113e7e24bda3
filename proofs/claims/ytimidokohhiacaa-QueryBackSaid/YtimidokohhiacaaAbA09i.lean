import Derived.Test.YtimidokohhiacaaAbA09
import Derived.Test.YtimidokohhiacaaAbA09g
/- sinew/query: why a request may not be, and Parse, in plain words. -/
namespace Go.Ab
open Go.RowKit
set_option linter.unusedVariables false
set_option linter.unusedSimpArgs false
/-- How many words a path has, and how deep it is. -/
def Pth.sz : Pth → Nat × Nat
  | .mk k _ l => ((if k = 1 then 1 else 0) + (szl l).1, (szl l).2 + 1)
where szl : List Pth → Nat × Nat
  | [] => (0, 0)
  | p :: l => (p.sz.1 + (szl l).1, max p.sz.2 (szl l).2)
abbrev Pth.szl := Pth.sz.szl
theorem sz_eq (k : Int) (w : List UInt8) (l : List Pth) : (Pth.mk k w l).sz = ((if k = 1 then 1 else 0) + (Pth.szl l).1, (Pth.szl l).2 + 1) := rfl
theorem szl_cons (p : Pth) (l : List Pth) : Pth.szl (p :: l) = (p.sz.1 + (Pth.szl l).1, max p.sz.2 (Pth.szl l).2) := rfl
theorem szl_nil : Pth.szl [] = (0, 0) := rfl
def addV (out : List (List UInt8)) (t : Tm) : List (List UInt8) := if (t.v && !(out.contains t.n)) = true then out ++ [t.n] else out
def addP (out : List (List UInt8)) (a : AtP) : List (List UInt8) := addV (addV out a.s) a.o
def namesP (l : List AtP) : List (List UInt8) := l.foldl addP []
def dupF : List (List UInt8) → List (List UInt8) → Bool
  | _, [] => false
  | pre, v :: l => pre.contains v || dupF (pre ++ [v]) l
def deepA (l : List AtP) : Bool := l.any fun a => decide (24 < a.p.sz.1) || decide (12 < a.p.sz.2)
/-- Why a request of the grammar may not be. -/
def whyP (r : Rq) : Int :=
  if deepA r.atoms = true then 100
  else if 6 < r.vars.length ∨ 6 < r.atoms.length ∨ 6 < (namesP r.atoms).length ∨ 64 < r.ch.length then 2
  else if dupF [] r.vars = true then 1
  else if (r.vars.any fun v => !(namesP r.atoms).contains v) = true then 91 else 0
def rqZ : Rq := ⟨0, [], [], []⟩
/-- Parse: the request, the place, the number of what is wrong. -/
def parseP (s : List UInt8) : Rq × Int × Int :=
  if 4096 < s.length then (rqZ, 0, 1) else match lexA s with
    | .bad k => (rqZ, (k : Nat), 80)
    | .ok l => match pReq (l.length + 1) l with
      | .bad l' => (rqZ, (nowS l' (s.length : Nat)).at_, 90)
      | .ok r _ => if whyP r = 0 then (r, 0, 0) else (rqZ, 0, whyP r)
def parseV (x : Rq × Int × Int) : V := .tup [rqV x.1, .int .i64 x.2.1, .int .i64 x.2.2]
/-! no more words, and no deeper, than what is read -/
def PR.fits (r : PR Pth) (n : Nat) : Prop := match r with | .ok p l => p.sz.1 + l.length ≤ n ∧ p.sz.2 + l.length ≤ n | .bad _ => True
theorem pStars_fits : ∀ (l : List Sg) (p : Pth) (n : Nat), p.sz.1 + l.length ≤ n → p.sz.2 + l.length ≤ n → (pStars p l).1.sz.1 + (pStars p l).2.length ≤ n ∧ (pStars p l).1.sz.2 + (pStars p l).2.length ≤ n
  | [], p, n, h1, h2 => ⟨h1, h2⟩
  | x :: l, p, n, h1, h2 => by
    simp only [List.length_cons] at h1 h2
    rw [pStars]
    have up : ∀ k : Int, k ≠ 1 → (Pth.mk k [] [p]).sz.1 + l.length ≤ n ∧ (Pth.mk k [] [p]).sz.2 + l.length ≤ n := fun k hk => by
      rw [sz_eq, if_neg hk, szl_cons, szl_nil]; simp; omega
    split
    · exact pStars_fits l _ n (up 4 (by decide)).1 (up 4 (by decide)).2
    · split
      · exact pStars_fits l _ n (up 5 (by decide)).1 (up 5 (by decide)).2
      · split
        · exact pStars_fits l _ n (up 6 (by decide)).1 (up 6 (by decide)).2
        · exact ⟨by simp only [List.length_cons]; omega, by simp only [List.length_cons]; omega⟩
theorem pPrim_fits {P : List Sg → PR Pth} (hP : ∀ l, (P l).fits l.length) (l : List Sg) : (pPrim P l).fits l.length := by
  unfold pPrim
  split
  · rename_i l' hl
    have h0 := pIs_lt hl
    have h1 := hP l'
    cases hp : P l' with
    | bad l2 => trivial
    | ok p l2 =>
      rw [hp] at h1
      rw [PR.bind_ok]
      cases ht : pTake 3 [[41]] l2 with
      | bad l3 => trivial
      | ok w l3 => have := pTake_lt ht; have h1' : p.sz.1 + l2.length ≤ l'.length ∧ p.sz.2 + l2.length ≤ l'.length := h1; exact ⟨by omega, by omega⟩
  · cases ht : pTake 1 [] l with
    | bad l3 => trivial
    | ok w l3 =>
      have := pTake_lt ht
      show (Pth.mk 1 w []).sz.1 + l3.length ≤ l.length ∧ (Pth.mk 1 w []).sz.2 + l3.length ≤ l.length
      rw [sz_eq, szl_nil]; simp; omega
theorem pPost_fits {P : List Sg → PR Pth} (hP : ∀ l, (P l).fits l.length) (l : List Sg) : (pPost P l).fits l.length := by
  unfold pPost
  have h1 := pPrim_fits hP l
  cases hp : pPrim P l with
  | bad l2 => trivial
  | ok p l2 => rw [hp] at h1; exact pStars_fits l2 p _ h1.1 h1.2
theorem szl_app (a b : List Pth) : Pth.szl (a ++ b) = ((Pth.szl a).1 + (Pth.szl b).1, max (Pth.szl a).2 (Pth.szl b).2) := by
  induction a with
  | nil => rw [szl_nil]; simp
  | cons p a ih => rw [List.cons_append, szl_cons, szl_cons, ih]; ext <;> simp <;> omega
def PR.fitsL (r : PR (List Pth)) (n : Nat) : Prop := match r with | .ok ps l => (Pth.szl ps).1 + l.length ≤ n ∧ (Pth.szl ps).2 + 1 + l.length ≤ n ∨ (∃ p, ps = [p] ∧ p.sz.1 + l.length ≤ n ∧ p.sz.2 + l.length ≤ n) | .bad _ => True
theorem pMore_fits {m : List UInt8} {P : List Sg → PR Pth} (hP : ∀ l, (P l).fits l.length) (N : Nat) : ∀ (n : Nat) (ps : List Pth) (l : List Sg), (Pth.szl ps).1 + l.length ≤ N → (Pth.szl ps).2 + l.length ≤ N → ((∃ p, ps = [p]) ∨ (Pth.szl ps).2 + 1 + l.length ≤ N) → (pMore m P n ps l).fitsL N
  | 0, ps, l, _, _, _ => trivial
  | n + 1, ps, l, h1, h2, h3 => by
    rw [pMore]
    split
    · show _ ∨ _
      rcases h3 with ⟨p, rfl⟩ | h3
      · refine .inr ⟨p, rfl, ?_⟩
        rw [szl_cons, szl_nil] at h1 h2
        simp at h1 h2
        exact ⟨h1, h2⟩
      · exact .inl ⟨h1, h3⟩
    · rename_i l' hl
      have h0 := pIs_lt hl
      have hp := hP l'
      cases hr : P l' with
      | bad l2 => trivial
      | ok p l2 =>
        rw [hr] at hp
        have hp' : p.sz.1 + l2.length ≤ l'.length ∧ p.sz.2 + l2.length ≤ l'.length := hp
        rw [PR.bind_ok]
        have e : Pth.szl (ps ++ [p]) = ((Pth.szl ps).1 + p.sz.1, max (Pth.szl ps).2 p.sz.2) := by rw [szl_app, szl_cons, szl_nil]; simp
        exact pMore_fits hP N n (ps ++ [p]) l2 (by rw [e]; simp only; omega) (by rw [e]; simp only; omega) (.inr (by rw [e]; simp only; omega))
theorem pSome_fits {k : Int} (hk : k ≠ 1) {m : List UInt8} {P : List Sg → PR Pth} (hP : ∀ l, (P l).fits l.length) (n : Nat) (l : List Sg) : (pSome k m P n l).fits l.length := by
  unfold pSome
  have hp := hP l
  cases hr : P l with
  | bad l2 => trivial
  | ok p l2 =>
    rw [hr] at hp
    have hp' : p.sz.1 + l2.length ≤ l.length ∧ p.sz.2 + l2.length ≤ l.length := hp
    rw [PR.bind_ok]
    have h := pMore_fits (m := m) hP l.length n [p] l2 (by rw [szl_cons, szl_nil]; simp; exact hp'.1) (by rw [szl_cons, szl_nil]; simp; exact hp'.2) (.inl ⟨p, rfl⟩)
    cases hm : pMore m P n [p] l2 with
    | bad l3 => trivial
    | ok ps l3 =>
      rw [hm] at h
      rw [PR.bind_ok]
      show (mkN k ps).sz.1 + l3.length ≤ l.length ∧ (mkN k ps).sz.2 + l3.length ≤ l.length
      rcases h with ⟨g1, g2⟩ | ⟨p', rfl, g1, g2⟩
      · unfold mkN
        split
        · rename_i p'
          rw [szl_cons, szl_nil] at g1 g2
          simp at g1 g2
          exact ⟨by omega, by omega⟩
        · rw [sz_eq, if_neg hk]; simp; omega
      · exact ⟨g1, g2⟩
theorem pPath_fits : ∀ (n : Nat) (l : List Sg), (pPath n l).fits l.length
  | 0, l => trivial
  | n + 1, l => by
    rw [pPath]
    exact pSome_fits (by decide) (fun l => pSome_fits (by decide) (fun l => pPost_fits (pPath_fits n) l) n l) n l
/-! how many nodes -/
def Pth.nd : Pth → Nat
  | .mk _ _ l => ndl l + 1
where ndl : List Pth → Nat
  | [] => 0
  | p :: l => p.nd + ndl l
abbrev Pth.ndl := Pth.nd.ndl
theorem nd_eq (k : Int) (w : List UInt8) (l : List Pth) : (Pth.mk k w l).nd = Pth.ndl l + 1 := rfl
theorem ndl_cons (p : Pth) (l : List Pth) : Pth.ndl (p :: l) = p.nd + Pth.ndl l := rfl
theorem ndl_nil : Pth.ndl [] = 0 := rfl
theorem nd_pos (p : Pth) : 1 ≤ p.nd := by cases p; rw [nd_eq]; omega
theorem ndl_len : ∀ l : List Pth, l.length ≤ Pth.ndl l
  | [] => Nat.le_refl _
  | p :: l => by have := ndl_len l; have := nd_pos p; rw [ndl_cons, List.length_cons]; omega
theorem ndl_mem {l : List Pth} {p : Pth} (h : p ∈ l) : p.nd ≤ Pth.ndl l := by
  induction l with
  | nil => cases h
  | cons a l ih =>
    rw [ndl_cons]
    rcases List.mem_cons.1 h with rfl | g
    · omega
    · have := ih g; omega
theorem ndl_app (a b : List Pth) : Pth.ndl (a ++ b) = Pth.ndl a + Pth.ndl b := by
  induction a with
  | nil => rw [ndl_nil]; simp
  | cons p a ih => rw [List.cons_append, ndl_cons, ndl_cons, ih]; omega
def PR.fitN (r : PR Pth) (n : Nat) : Prop := match r with | .ok p l => p.nd + 1 + 2 * l.length ≤ 2 * n | .bad _ => True
theorem pStars_fitN : ∀ (l : List Sg) (p : Pth) (n : Nat), p.nd + 1 + 2 * l.length ≤ 2 * n → (pStars p l).1.nd + 1 + 2 * (pStars p l).2.length ≤ 2 * n
  | [], p, n, h1 => h1
  | x :: l, p, n, h1 => by
    simp only [List.length_cons] at h1
    rw [pStars]
    have up : ∀ k : Int, (Pth.mk k [] [p]).nd + 1 + 2 * l.length ≤ 2 * n := fun k => by rw [nd_eq, ndl_cons, ndl_nil]; omega
    split
    · exact pStars_fitN l _ n (up 4)
    · split
      · exact pStars_fitN l _ n (up 5)
      · split
        · exact pStars_fitN l _ n (up 6)
        · simp only [List.length_cons]; omega
theorem pPrim_fitN {P : List Sg → PR Pth} (hP : ∀ l, (P l).fitN l.length) (l : List Sg) : (pPrim P l).fitN l.length := by
  unfold pPrim
  split
  · rename_i l' hl
    have h0 := pIs_lt hl
    have h1 := hP l'
    cases hp : P l' with
    | bad l2 => trivial
    | ok p l2 =>
      rw [hp] at h1
      rw [PR.bind_ok]
      cases ht : pTake 3 [[41]] l2 with
      | bad l3 => trivial
      | ok w l3 => have := pTake_lt ht; have h1' : p.nd + 1 + 2 * l2.length ≤ 2 * l'.length := h1; show p.nd + 1 + 2 * l3.length ≤ 2 * l.length; omega
  · cases ht : pTake 1 [] l with
    | bad l3 => trivial
    | ok w l3 =>
      have := pTake_lt ht
      show (Pth.mk 1 w []).nd + 1 + 2 * l3.length ≤ 2 * l.length
      rw [nd_eq, ndl_nil]; omega
theorem pPost_fitN {P : List Sg → PR Pth} (hP : ∀ l, (P l).fitN l.length) (l : List Sg) : (pPost P l).fitN l.length := by
  unfold pPost
  have h1 := pPrim_fitN hP l
  cases hp : pPrim P l with
  | bad l2 => trivial
  | ok p l2 => rw [hp] at h1; exact pStars_fitN l2 p _ h1
theorem pMore_fitN {m : List UInt8} {P : List Sg → PR Pth} (hP : ∀ l, (P l).fitN l.length) (N : Nat) : ∀ (n : Nat) (ps : List Pth) (l : List Sg), Pth.ndl ps + ps.length + 2 * l.length ≤ 2 * N → match pMore m P n ps l with | .ok qs l' => Pth.ndl qs + qs.length + 2 * l'.length ≤ 2 * N ∧ ps.length ≤ qs.length | .bad _ => True
  | 0, ps, l, _ => trivial
  | n + 1, ps, l, h1 => by
    rw [pMore]
    cases hl : pIs m l with
    | none => exact ⟨h1, Nat.le_refl _⟩
    | some l' =>
      have h0 := pIs_lt hl
      have hp := hP l'
      show match (P l').bind _ with | .ok qs l' => Pth.ndl qs + qs.length + 2 * l'.length ≤ 2 * N ∧ ps.length ≤ qs.length | .bad _ => True
      cases hr : P l' with
      | bad l2 => trivial
      | ok p l2 =>
        rw [hr] at hp
        have hp' : p.nd + 1 + 2 * l2.length ≤ 2 * l'.length := hp
        rw [PR.bind_ok]
        have := pMore_fitN (m := m) hP N n (ps ++ [p]) l2 (by rw [ndl_app, ndl_cons, ndl_nil]; simp; omega)
        cases hm : pMore m P n (ps ++ [p]) l2 with
        | bad l3 => trivial
        | ok qs l3 => rw [hm] at this; simp at this; exact ⟨this.1, by omega⟩
theorem pSome_fitN {k : Int} {m : List UInt8} {P : List Sg → PR Pth} (hP : ∀ l, (P l).fitN l.length) (n : Nat) (l : List Sg) : (pSome k m P n l).fitN l.length := by
  unfold pSome
  have hp := hP l
  cases hr : P l with
  | bad l2 => trivial
  | ok p l2 =>
    rw [hr] at hp
    have hp' : p.nd + 1 + 2 * l2.length ≤ 2 * l.length := hp
    rw [PR.bind_ok]
    have h := pMore_fitN (m := m) hP l.length n [p] l2 (by rw [ndl_cons, ndl_nil]; simp; omega)
    cases hm : pMore m P n [p] l2 with
    | bad l3 => trivial
    | ok ps l3 =>
      rw [hm] at h
      simp only [List.length_cons, List.length_nil] at h
      obtain ⟨h, hlen⟩ := h
      rw [PR.bind_ok]
      show (mkN k ps).nd + 1 + 2 * l3.length ≤ 2 * l.length
      unfold mkN
      split
      · rename_i p'
        rw [ndl_cons, ndl_nil] at h
        simp at h; omega
      · rename_i hne
        rw [nd_eq]
        match ps, hne with
        | [], _ => simp at hlen
        | [q], hne => exact absurd rfl (hne q)
        | q :: q2 :: ps, _ => simp only [List.length_cons] at h; omega
theorem pPath_fitN : ∀ (n : Nat) (l : List Sg), (pPath n l).fitN l.length
  | 0, l => trivial
  | n + 1, l => by
    rw [pPath]
    exact pSome_fitN (fun l => pSome_fitN (fun l => pPost_fitN (pPath_fitN n) l) n l) n l
/-! how much is read -/
def smallR (r : Rq) (n : Nat) : Prop := r.vars.length ≤ n ∧ r.atoms.length ≤ n ∧ r.ch.length ≤ n ∧ ∀ a ∈ r.atoms, a.p.sz.1 ≤ n ∧ a.p.sz.2 ≤ n ∧ a.p.nd ≤ 2 * n
theorem pAtoms_small (N M : Nat) : ∀ (n : Nat) (ats : List AtP) (l : List Sg) (b : List AtP) (l' : List Sg), ats.length + l.length ≤ M → (∀ a ∈ ats, a.p.sz.1 ≤ M ∧ a.p.sz.2 ≤ M ∧ a.p.nd ≤ 2 * M) → pAtoms N n ats l = .ok b l' → b.length ≤ M ∧ ∀ a ∈ b, a.p.sz.1 ≤ M ∧ a.p.sz.2 ≤ M ∧ a.p.nd ≤ 2 * M := by
  intro n
  induction n with
  | zero => intro ats l b l' _ _ h; cases h
  | succ n ih =>
    intro ats l b l' h1 h2 h
    rw [pAtoms] at h
    cases ha : pAtom N l with
    | bad l2 => rw [ha] at h; cases h
    | ok a l2 =>
      rw [ha, PR.bind_ok] at h
      have hl2 := pAtom_lt ha
      have hfit : a.p.sz.1 ≤ M ∧ a.p.sz.2 ≤ M ∧ a.p.nd ≤ 2 * M := by
        unfold pAtom at ha
        cases q1 : pTerm l with
        | bad l3 => rw [q1] at ha; cases ha
        | ok s l3 =>
          rw [q1, PR.bind_ok] at ha
          have w1 := pTerm_lt q1
          have w2 := pPath_fits N l3
          have w4 := pPath_fitN N l3
          cases q2 : pPath N l3 with
          | bad l4 => rw [q2] at ha; cases ha
          | ok p l4 =>
            rw [q2] at w2 w4
            rw [q2, PR.bind_ok] at ha
            have w2' : p.sz.1 + l4.length ≤ l3.length ∧ p.sz.2 + l4.length ≤ l3.length := w2
            have w4' : p.nd + 1 + 2 * l4.length ≤ 2 * l3.length := w4
            cases q3 : pTerm l4 with
            | bad l5 => rw [q3] at ha; cases ha
            | ok o l5 => rw [q3] at ha; cases ha; exact ⟨by simp only; omega, by simp only; omega, by simp only; omega⟩
      have h3 : ∀ x ∈ ats ++ [a], x.p.sz.1 ≤ M ∧ x.p.sz.2 ≤ M ∧ x.p.nd ≤ 2 * M := by
        intro x hx
        rcases List.mem_append.1 hx with g | g
        · exact h2 x g
        · simp at g; subst g; exact hfit
      cases h4 : pIs [46] l2 with
      | none =>
        rw [h4] at h; cases h
        exact ⟨by simp; omega, h3⟩
      | some l3 =>
        rw [h4] at h
        simp only at h
        have := pIs_lt h4
        cases h5 : pIs [125] l3 with
        | none =>
          rw [h5] at h
          exact ih (ats ++ [a]) l3 b l' (by simp; omega) h3 h
        | some l4 =>
          rw [h5] at h; cases h
          exact ⟨by simp; omega, h3⟩
theorem pVars_small : ∀ (l : List Sg) (vs : List (List UInt8)), (pVars vs l).1.length + (pVars vs l).2.length = vs.length + l.length
  | [], vs => rfl
  | x :: l, vs => by
    rw [pVars]
    split
    · rw [pVars_small l (vs ++ [x.tx])]; simp; omega
    · rfl
theorem pChs_small (M : Nat) : ∀ (n : Nat) (cs : List Chg) (l : List Sg) (b : List Chg) (l' : List Sg), cs.length + l.length ≤ M → pChs n cs l = .ok b l' → b.length ≤ M := by
  intro n
  induction n with
  | zero => intro cs l b l' _ h; cases h
  | succ n ih =>
    intro cs l b l' h1 h
    rw [pChs] at h
    cases ha : pChg l with
    | bad l2 => rw [ha] at h; cases h
    | ok a l2 =>
      rw [ha, PR.bind_ok] at h
      have hl2 := pChg_lt ha
      cases h4 : pIs [46] l2 with
      | none => rw [h4] at h; cases h; simp; omega
      | some l3 =>
        rw [h4] at h
        have := pIs_lt h4
        exact ih (cs ++ [a]) l3 b l' (by simp; omega) h
theorem pQuery_small (N : Nat) {l l' : List Sg} {q : List (List UInt8) × List AtP} (h : pQuery N l = .ok q l') : q.1.length ≤ l.length ∧ q.2.length ≤ l.length ∧ ∀ a ∈ q.2, a.p.sz.1 ≤ l.length ∧ a.p.sz.2 ≤ l.length ∧ a.p.nd ≤ 2 * l.length := by
  unfold pQuery at h
  cases h1 : pTake 1 [selW] l with
  | bad x => rw [h1] at h; cases h
  | ok w l1 =>
    rw [h1, PR.bind_ok] at h
    cases h2 : pTake 2 [] l1 with
    | bad x => rw [h2] at h; cases h
    | ok v l2 =>
      rw [h2, PR.bind_ok] at h
      have e := pVars_small l2 [v]
      have w1 := pTake_lt h1
      have w2 := pTake_lt h2
      cases h3 : pTake 1 [[119, 104, 101, 114, 101]] (pVars [v] l2).2 with
      | bad x => rw [h3] at h; cases h
      | ok w l3 =>
        rw [h3, PR.bind_ok] at h
        have w3 := pTake_lt h3
        cases h4 : pTake 3 [[123]] l3 with
        | bad x => rw [h4] at h; cases h
        | ok w l4 =>
          rw [h4, PR.bind_ok] at h
          have w4 := pTake_lt h4
          cases h5 : pAtoms N N [] l4 with
          | bad x => rw [h5] at h; cases h
          | ok ats l5 =>
            rw [h5, PR.bind_ok] at h
            simp only [List.length_cons, List.length_nil] at e
            have w5 := pAtoms_small N l.length N [] l4 ats l5 (by simp; omega) (by simp) h5
            cases h6 : pTake 3 [[125]] l5 with
            | bad x => rw [h6] at h; cases h
            | ok w l6 =>
              rw [h6] at h; cases h
              exact ⟨by simp only; omega, w5.1, w5.2⟩
theorem pReq_small (N : Nat) {l l' : List Sg} {r : Rq} (h : pReq N l = .ok r l') : smallR r l.length := by
  unfold pReq at h
  split at h
  · cases hq : pQuery N l with
    | bad x => rw [hq] at h; cases h
    | ok q l1 =>
      rw [hq, PR.bind_ok] at h
      have w := pQuery_small N hq
      split at h
      · cases h; exact ⟨w.1, w.2.1, by simp, w.2.2⟩
      · cases h
  · cases hq : pChs N [] l with
    | bad x => rw [hq] at h; cases h
    | ok q l1 =>
      rw [hq, PR.bind_ok] at h
      have w := pChs_small l.length N [] l q l1 (by simp) hq
      split at h
      · cases h; exact ⟨by simp, by simp, w, by simp⟩
      · cases h
end Go.Ab
