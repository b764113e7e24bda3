import Derived.Test.YtimidokohhiacaaAbA09e
import Derived.Test.YtimidokohhiacaaAbA09i
/- sinew/query: what is read is made of what the signs hold. -/
namespace Go.Ab
open Go.Proofs Go.RowKit
set_option linter.unusedVariables false
set_option linter.unusedSimpArgs false
/-- The texts of words and names. -/
def SgW (W : List UInt8 → Prop) (l : List Sg) : Prop := ∀ x ∈ l, (x.k = 1 ∨ x.k = 2) → W x.tx
theorem SgW.suf {W : List UInt8 → Prop} {l l' : List Sg} (h : SgW W l) (k : l' <:+ l) : SgW W l' := fun x hx => h x (k.subset hx)
/-- What holds of all paths that are read. -/
structure QC (W : List UInt8 → Prop) (Q : Pth → Prop) : Prop where
  word : ∀ w, W w → Q (.mk 1 w [])
  post : ∀ k p, (k = 4 ∨ k = 5 ∨ k = 6) → Q p → Q (.mk k [] [p])
  more : ∀ k ps, (k = 2 ∨ k = 3) → 2 ≤ ps.length → (∀ p ∈ ps, Q p) → Q (.mk k [] ps)
def PR.all {α : Type} (Q : α → Prop) (r : PR α) : Prop := match r with | .ok a _ => Q a | .bad _ => True
theorem PR.all.bind {α β : Type} {Q : α → Prop} {P : β → Prop} {r : PR α} {W : List UInt8 → Prop} {l : List Sg} (h : r.all Q) (hs : r.suf l) (hw : SgW W l) {f : α → List Sg → PR β} (k : ∀ a l', SgW W l' → Q a → (f a l').all P) : (r.bind f).all P := by
  cases r with
  | ok a l' => exact k a l' (hw.suf hs) h
  | bad l' => trivial
theorem pTake_all {W : List UInt8 → Prop} {l : List Sg} (hw : SgW W l) (k : Int) (hk : k = 1 ∨ k = 2) (ts : List (List UInt8)) : (pTake k ts l).all W := by
  cases l with
  | nil => trivial
  | cons x l =>
    rw [pTake]
    split
    · rename_i h
      refine hw x (by simp) ?_
      rw [h.1]; exact hk
    · trivial
theorem pTake_any (k : Int) (ts : List (List UInt8)) (l : List Sg) : (pTake k ts l).all fun _ => True := by
  cases pTake k ts l <;> trivial
variable {W : List UInt8 → Prop} {Q : Pth → Prop}
theorem pPrim_all (hQ : QC W Q) {P : List Sg → PR Pth} (hP : ∀ l, SgW W l → (P l).all Q) (hPs : ∀ l, (P l).suf l) {l : List Sg} (hw : SgW W l) : (pPrim P l).all Q := by
  unfold pPrim
  split
  · rename_i l' hl
    have hw' := hw.suf (pIs_suf hl)
    refine (hP l' hw').bind (hPs l') hw' fun p l2 hw2 hq => ?_
    exact (pTake_any 3 _ l2).bind (pTake_suf 3 _ l2) hw2 fun _ _ _ _ => hq
  · exact (pTake_all hw 1 (.inl rfl) []).bind (pTake_suf 1 [] l) hw fun w l2 hw2 h => hQ.word w h
theorem pStars_all (hQ : QC W Q) : ∀ (l : List Sg) (p : Pth), Q p → Q (pStars p l).1
  | [], p, h => h
  | x :: l, p, h => by
    rw [pStars]
    split
    · exact pStars_all hQ l _ (hQ.post 4 p (.inl rfl) h)
    split
    · exact pStars_all hQ l _ (hQ.post 5 p (.inr (.inl rfl)) h)
    split
    · exact pStars_all hQ l _ (hQ.post 6 p (.inr (.inr rfl)) h)
    · exact h
theorem pPost_all (hQ : QC W Q) {P : List Sg → PR Pth} (hP : ∀ l, SgW W l → (P l).all Q) (hPs : ∀ l, (P l).suf l) {l : List Sg} (hw : SgW W l) : (pPost P l).all Q := by
  unfold pPost
  exact (pPrim_all hQ hP hPs hw).bind (pPrim_suf hPs l) hw fun p l2 hw2 hq => pStars_all hQ l2 p hq
theorem pMore_all {m : List UInt8} {P : List Sg → PR Pth} (hP : ∀ l, SgW W l → (P l).all Q) (hPs : ∀ l, (P l).suf l) : ∀ (n : Nat) (ps : List Pth) (l : List Sg), SgW W l → (∀ p ∈ ps, Q p) → ps ≠ [] → (pMore m P n ps l).all fun qs => qs ≠ [] ∧ ∀ p ∈ qs, Q p
  | 0, _, _, _, _, _ => trivial
  | n + 1, ps, l, hw, hp, hne => by
    unfold pMore
    split
    · exact ⟨hne, hp⟩
    · rename_i l' hl
      have hw' := hw.suf (pIs_suf hl)
      refine (hP l' hw').bind (hPs l') hw' fun p l2 hw2 hq => ?_
      refine pMore_all hP hPs n (ps ++ [p]) l2 hw2 (fun q hq2 => ?_) (by simp)
      rcases List.mem_append.1 hq2 with g | g
      · exact hp q g
      · simp at g; rw [g]; exact hq
theorem pSome_all (hQ : QC W Q) {k : Int} (hk : k = 2 ∨ k = 3) {m : List UInt8} {P : List Sg → PR Pth} (hP : ∀ l, SgW W l → (P l).all Q) (hPs : ∀ l, (P l).suf l) (n : Nat) {l : List Sg} (hw : SgW W l) : (pSome k m P n l).all Q := by
  unfold pSome
  refine (hP l hw).bind (hPs l) hw fun p l2 hw2 hq => ?_
  refine (pMore_all hP hPs n [p] l2 hw2 (fun q hq2 => by simp at hq2; rw [hq2]; exact hq) (by simp)).bind (pMore_suf hPs n [p] l2) hw2 fun ps l3 hw3 hps => ?_
  show Q (mkN k ps)
  obtain ⟨h1, h2⟩ := hps
  match ps, h1, h2 with
  | [q], _, h2 => exact h2 q (by simp)
  | q :: q2 :: ps, _, h2 => exact hQ.more k _ hk (by simp) h2
theorem pPath_all (hQ : QC W Q) : ∀ (n : Nat) (l : List Sg), SgW W l → (pPath n l).all Q
  | 0, l, _ => trivial
  | n + 1, l, hw => by
    unfold pPath
    have s1 := pPath_suf n
    have h1 : ∀ l, SgW W l → (pPost (pPath n) l).all Q := fun l hw => pPost_all hQ (pPath_all hQ n) s1 hw
    have s2 := pPost_suf s1
    have h2 : ∀ l, SgW W l → (pSome 2 [47] (pPost (pPath n)) n l).all Q := fun l hw => pSome_all hQ (.inl rfl) h1 s2 n hw
    exact pSome_all hQ (.inr rfl) h2 (pSome_suf s2 n) n hw
def AtQ (W : List UInt8 → Prop) (Q : Pth → Prop) (a : AtP) : Prop := W a.s.n ∧ Q a.p ∧ W a.o.n
def ChQ (W : List UInt8 → Prop) (c : Chg) : Prop := W c.s ∧ W c.p ∧ W c.o
theorem pTerm_all {l : List Sg} (hw : SgW W l) : (pTerm l).all fun t => W t.n := by
  unfold pTerm
  split
  · exact (pTake_all hw 2 (.inr rfl) []).bind (pTake_suf 2 [] l) hw fun w l2 hw2 h => h
  · exact (pTake_all hw 1 (.inl rfl) []).bind (pTake_suf 1 [] l) hw fun w l2 hw2 h => h
theorem pAtom_all (hQ : QC W Q) (N : Nat) {l : List Sg} (hw : SgW W l) : (pAtom N l).all (AtQ W Q) := by
  unfold pAtom
  refine (pTerm_all hw).bind (pTerm_suf l) hw fun s l2 hw2 h1 => ?_
  refine (pPath_all hQ N l2 hw2).bind (pPath_suf N l2) hw2 fun p l3 hw3 h2 => ?_
  refine (pTerm_all hw3).bind (pTerm_suf l3) hw3 fun o l4 hw4 h3 => ?_
  exact ⟨h1, h2, h3⟩
theorem pVars_all : ∀ (l : List Sg) (vs : List (List UInt8)), SgW W l → (∀ v ∈ vs, W v) → (∀ v ∈ (pVars vs l).1, W v) ∧ SgW W (pVars vs l).2 ∧ (vs ≠ [] → (pVars vs l).1 ≠ [])
  | [], vs, hw, h => ⟨h, hw, id⟩
  | x :: l, vs, hw, h => by
    rw [pVars]
    split
    · rename_i hx
      obtain ⟨a, b, c⟩ := pVars_all l (vs ++ [x.tx]) (hw.suf ⟨[x], rfl⟩) (fun v hv => by
        rcases List.mem_append.1 hv with g | g
        · exact h v g
        · simp at g; rw [g]; exact hw x (by simp) (.inr hx))
      exact ⟨a, b, fun _ => c (by simp)⟩
    · exact ⟨h, hw, id⟩
theorem pAtoms_all (hQ : QC W Q) (N : Nat) : ∀ (n : Nat) (ats : List AtP) (l : List Sg), SgW W l → (∀ a ∈ ats, AtQ W Q a) → (pAtoms N n ats l).all fun b => b ≠ [] ∧ ∀ a ∈ b, AtQ W Q a
  | 0, _, _, _, _ => trivial
  | n + 1, ats, l, hw, h => by
    unfold pAtoms
    refine (pAtom_all hQ N hw).bind (pAtom_suf N l) hw fun a l2 hw2 ha => ?_
    have h' : ∀ b ∈ ats ++ [a], AtQ W Q b := fun b hb => by
      rcases List.mem_append.1 hb with g | g
      · exact h b g
      · simp at g; rw [g]; exact ha
    split
    · exact ⟨by simp, h'⟩
    · rename_i l3 hl3
      split
      · exact ⟨by simp, h'⟩
      · exact pAtoms_all hQ N n _ l3 (hw2.suf (pIs_suf hl3)) h'
theorem pChg_all {l : List Sg} (hw : SgW W l) : (pChg l).all (ChQ W) := by
  unfold pChg
  refine (pTake_any 1 _ l).bind (pTake_suf 1 _ l) hw fun h l2 hw2 _ => ?_
  refine (pTake_all hw2 1 (.inl rfl) []).bind (pTake_suf 1 [] l2) hw2 fun s l3 hw3 h1 => ?_
  refine (pTake_all hw3 1 (.inl rfl) []).bind (pTake_suf 1 [] l3) hw3 fun p l4 hw4 h2 => ?_
  refine (pTake_all hw4 1 (.inl rfl) []).bind (pTake_suf 1 [] l4) hw4 fun o l5 hw5 h3 => ?_
  exact ⟨h1, h2, h3⟩
theorem pChs_all : ∀ (n : Nat) (cs : List Chg) (l : List Sg), SgW W l → (∀ c ∈ cs, ChQ W c) → (pChs n cs l).all fun b => b ≠ [] ∧ ∀ c ∈ b, ChQ W c
  | 0, _, _, _, _ => trivial
  | n + 1, cs, l, hw, h => by
    unfold pChs
    refine (pChg_all hw).bind (pChg_suf l) hw fun a l2 hw2 ha => ?_
    have h' : ∀ b ∈ cs ++ [a], ChQ W b := fun b hb => by
      rcases List.mem_append.1 hb with g | g
      · exact h b g
      · simp at g; rw [g]; exact ha
    split
    · exact ⟨by simp, h'⟩
    · rename_i l3 hl3
      exact pChs_all n _ l3 (hw2.suf (pIs_suf hl3)) h'
/-- A request that is read. -/
def RqQ (W : List UInt8 → Prop) (Q : Pth → Prop) (r : Rq) : Prop :=
  (r.kind = 1 ∧ r.ch = [] ∧ r.vars ≠ [] ∧ (∀ v ∈ r.vars, W v) ∧ r.atoms ≠ [] ∧ ∀ a ∈ r.atoms, AtQ W Q a) ∨ (r.kind = 2 ∧ r.vars = [] ∧ r.atoms = [] ∧ r.ch ≠ [] ∧ ∀ c ∈ r.ch, ChQ W c)
theorem pAtoms_suf' (N : Nat) : ∀ (n : Nat) (ats : List AtP) (l : List Sg), (pAtoms N n ats l).suf l
  | 0, _, l => List.suffix_refl _
  | n + 1, ats, l => by
    unfold pAtoms
    refine (pAtom_suf N l).bind fun a l2 => ?_
    split
    · exact List.suffix_refl _
    · rename_i l3 hl3
      split
      · exact pIs_suf hl3
      · exact suf_of (pAtoms_suf' N n _ l3) (pIs_suf hl3)
theorem pQuery_all (hQ : QC W Q) (N : Nat) {l : List Sg} (hw : SgW W l) : (pQuery N l).all fun q => q.1 ≠ [] ∧ (∀ v ∈ q.1, W v) ∧ q.2 ≠ [] ∧ ∀ a ∈ q.2, AtQ W Q a := by
  unfold pQuery
  refine (pTake_any 1 _ l).bind (pTake_suf 1 _ l) hw fun h l2 hw2 _ => ?_
  refine (pTake_all hw2 2 (.inr rfl) []).bind (pTake_suf 2 [] l2) hw2 fun v l3 hw3 h1 => ?_
  obtain ⟨a, b, c⟩ := pVars_all l3 [v] hw3 (fun u hu => by simp at hu; rw [hu]; exact h1)
  refine (pTake_any 1 _ _).bind (pTake_suf 1 _ _) b fun h l4 hw4 _ => ?_
  refine (pTake_any 3 _ l4).bind (pTake_suf 3 _ l4) hw4 fun h l5 hw5 _ => ?_
  refine PR.all.bind (pAtoms_all hQ N N [] l5 hw5 (by simp)) (l := l5) (pAtoms_suf' N N [] l5) hw5 fun b l6 hw6 hb => ?_
  exact (pTake_any 3 _ l6).bind (pTake_suf 3 _ l6) hw6 fun _ _ _ _ => ⟨c (by simp), a, hb⟩
theorem pReq_all (hQ : QC W Q) (N : Nat) {l : List Sg} (hw : SgW W l) : (pReq N l).all (RqQ W Q) := by
  unfold pReq
  split
  · have h := pQuery_all hQ N hw
    cases hq : pQuery N l with
    | bad l2 => trivial
    | ok q l2 =>
      rw [hq] at h
      show ((if l2 = [] then PR.ok (⟨1, q.1, q.2, []⟩ : Rq) [] else .bad l2).all (RqQ W Q))
      split
      · exact .inl ⟨rfl, rfl, h⟩
      · trivial
  · have h := pChs_all N [] l hw (by simp)
    cases hq : pChs N [] l with
    | bad l2 => trivial
    | ok q l2 =>
      rw [hq] at h
      show ((if l2 = [] then PR.ok (⟨2, [], [], q⟩ : Rq) [] else .bad l2).all (RqQ W Q))
      split
      · exact .inr ⟨rfl, rfl, rfl, h⟩
      · trivial
end Go.Ab
