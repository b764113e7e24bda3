import Derived.Test.YtimidokohhiacaaAbA10c
import Derived.Test.YtimidokohhiacaaAbN10b
/- sinew/query: there and back, in plain words. -/
namespace Go.Ab
open Go.RowKit
set_option linter.unusedVariables false
set_option linter.unusedSimpArgs false
def nameT (t : Tm) : List UInt8 := if t.v = true then 63 :: t.n else t.n
def atT (a : AtP) : List UInt8 := nameT a.s ++ (32 :: (a.p.text ++ (32 :: nameT a.o)))
def chT2 (c : Chg) : List UInt8 := howW c ++ (32 :: (c.s ++ (32 :: (c.p ++ (32 :: c.o)))))
def selQ : List UInt8 := [115, 101, 108, 101, 99, 116, 32, 63]
def whrQ : List UInt8 := [32, 119, 104, 101, 114, 101, 32, 123, 32]
def whrW : List UInt8 := [119, 104, 101, 114, 101]
def dot3 : List UInt8 := [32, 46, 32]
def reqT (r : Rq) : List UInt8 := if r.kind = 1 then selQ ++ (joinL [32, 63] r.vars ++ (whrQ ++ (joinL dot3 (r.atoms.map atT) ++ [32, 125]))) else joinL dot3 (r.ch.map chT2)
def termK (t : Tm) : Sg := ⟨if t.v = true then 2 else 1, t.n, 0⟩
def atK (a : AtP) : List Sg := termK a.s :: (a.p.tk ++ [termK a.o])
def nameK (v : List UInt8) : Sg := ⟨2, v, 0⟩
def endK : List Sg := [⟨3, [125], 0⟩]
def reqK (r : Rq) : List Sg := if r.kind = 1 then (⟨1, selW, 0⟩ : Sg) :: (r.vars.map nameK ++ (⟨1, whrW, 0⟩ :: ⟨3, [123], 0⟩ :: (joinL [dotS] (r.atoms.map atK) ++ endK))) else chsTk r.ch
theorem p32 : partB 32 = false := by decide
theorem b32 : blB 32 = true := by decide
/-! the signs of the text -/
theorem term_lex {t : Tm} (h : isWord t.n = true) {rest : List UInt8} {tk : List Sg} (hr : NoPart rest) (hl : LexT rest tk) : LexT (nameT t ++ rest) (termK t :: tk) := by
  obtain ⟨v, n⟩ := t
  cases v with
  | true => exact .name h hr hl
  | false => exact .word h hr hl
/-- An atom that is well. -/
def wellAt (a : AtP) : Prop := isWord a.s.n = true ∧ a.p.shP = true ∧ isWord a.o.n = true
theorem at_lex {a : AtP} (h : wellAt a) {rest : List UInt8} {tk : List Sg} (hr : NoPart rest) (hl : LexT rest tk) : LexT (atT a ++ rest) (atK a ++ tk) := by
  have e1 : atT a ++ rest = nameT a.s ++ (32 :: (a.p.text ++ (32 :: (nameT a.o ++ rest)))) := by simp [atT]
  have e2 : atK a ++ tk = termK a.s :: (a.p.tk ++ (termK a.o :: tk)) := by simp [atK]
  rw [e1, e2]
  exact term_lex h.1 (.cons p32) (.blank b32 (text_lex a.p h.2.1 _ _ (.cons p32) (.blank b32 (term_lex h.2.2 hr hl))))
theorem atsTl_lex : ∀ (l : List AtP), (∀ a ∈ l, wellAt a) → ∀ (rest : List UInt8) (tk : List Sg), NoPart rest → LexT rest tk → NoPart (tlL dot3 (l.map atT) ++ rest) ∧ LexT (tlL dot3 (l.map atT) ++ rest) (tlL [dotS] (l.map atK) ++ tk)
  | [], h, rest, tk, hr, hl => ⟨hr, hl⟩
  | a :: l, h, rest, tk, hr, hl => by
    obtain ⟨t1, t2⟩ := atsTl_lex l (fun b hb => h b (by simp [hb])) rest tk hr hl
    have e1 : tlL dot3 ((a :: l).map atT) ++ rest = 32 :: 46 :: 32 :: (atT a ++ (tlL dot3 (l.map atT) ++ rest)) := by
      show (dot3 ++ (atT a ++ tlL dot3 (l.map atT))) ++ rest = _
      simp [dot3]
    have e2 : tlL [dotS] ((a :: l).map atK) ++ tk = dotS :: (atK a ++ (tlL [dotS] (l.map atK) ++ tk)) := by
      show ([dotS] ++ (atK a ++ tlL [dotS] (l.map atK))) ++ tk = _
      simp
    rw [e1, e2]
    exact ⟨.cons p32, .blank b32 (.mark (by decide) (.inl (by decide)) (.blank b32 (at_lex (h a (by simp)) t1 t2)))⟩
theorem ats_lex {l : List AtP} (h : ∀ a ∈ l, wellAt a) {rest : List UInt8} {tk : List Sg} (hr : NoPart rest) (hl : LexT rest tk) : LexT (joinL dot3 (l.map atT) ++ rest) (joinL [dotS] (l.map atK) ++ tk) := by
  cases l with
  | nil => exact hl
  | cons a l =>
    show LexT ((atT a ++ tlL dot3 (l.map atT)) ++ rest) ((atK a ++ tlL [dotS] (l.map atK)) ++ tk)
    rw [List.append_assoc, List.append_assoc]
    obtain ⟨t1, t2⟩ := atsTl_lex l (fun b hb => h b (by simp [hb])) rest tk hr hl
    exact at_lex (h a (by simp)) t1 t2
theorem chsTl_lex : ∀ (l : List Chg), (∀ c ∈ l, okCh c = true) → l ≠ [] → LexT (joinL dot3 (l.map chT2)) (chsTk l)
  | [], _, h => absurd rfl h
  | [c], h, _ => by
    have e1 : joinL dot3 ([c].map chT2) = howW c ++ (32 :: (c.s ++ (32 :: (c.p ++ (32 :: (c.o ++ [])))))) := by
      show chT2 c ++ [] = _
      simp [chT2]
    rw [e1]
    have := LexT.ch (h c (by simp)) 32 b32 NoPart.nil LexT.nil
    have e2 : chsTk [c] = chTk c ++ [] := by simp [chsTk]
    rw [e2]
    exact this
  | c :: d :: l, h, _ => by
    have ih := chsTl_lex (d :: l) (fun b hb => h b (by simp at hb ⊢; exact .inr hb)) (by simp)
    have e1 : joinL dot3 ((c :: d :: l).map chT2) = howW c ++ (32 :: (c.s ++ (32 :: (c.p ++ (32 :: (c.o ++ (32 :: 46 :: 32 :: joinL dot3 ((d :: l).map chT2)))))))) := by
      show chT2 c ++ (dot3 ++ (chT2 d ++ tlL dot3 (l.map chT2))) = _
      simp [chT2, dot3, joinL]
    rw [e1]
    exact LexT.ch (h c (by simp)) 32 b32 (.cons p32) (.blank b32 (.mark (by decide) (.inl (by decide)) (.blank b32 ih)))
theorem vars_lex : ∀ (vs : List (List UInt8)), (∀ v ∈ vs, isWord v = true) → ∀ (rest : List UInt8) (tk : List Sg), NoPart rest → LexT rest tk → NoPart (tlL [32, 63] vs ++ rest) ∧ LexT (tlL [32, 63] vs ++ rest) (vs.map nameK ++ tk)
  | [], h, rest, tk, hr, hl => ⟨hr, hl⟩
  | v :: vs, h, rest, tk, hr, hl => by
    obtain ⟨t1, t2⟩ := vars_lex vs (fun b hb => h b (by simp [hb])) rest tk hr hl
    have e1 : tlL [32, 63] (v :: vs) ++ rest = 32 :: 63 :: (v ++ (tlL [32, 63] vs ++ rest)) := by
      show ([32, 63] ++ (v ++ tlL [32, 63] vs)) ++ rest = _
      simp
    rw [e1]
    exact ⟨.cons p32, .blank b32 (.name (h v (by simp)) t1 t2)⟩
/-- A request that is well. -/
def wellR (r : Rq) : Prop := (r.kind = 1 ∧ r.ch = [] ∧ r.vars ≠ [] ∧ (∀ v ∈ r.vars, isWord v = true) ∧ r.atoms ≠ [] ∧ ∀ a ∈ r.atoms, wellAt a) ∨ (r.kind = 2 ∧ r.vars = [] ∧ r.atoms = [] ∧ r.ch ≠ [] ∧ ∀ c ∈ r.ch, okCh c = true)
theorem req_lex {r : Rq} (h : wellR r) : LexT (reqT r) (reqK r) := by
  rcases h with ⟨h1, _, hv, hvw, ha, haw⟩ | ⟨h2, _, _, hc, hcw⟩
  · unfold reqT reqK
    rw [if_pos h1, if_pos h1]
    match hvs : r.vars, hv, hvw with
    | v :: vs, _, hvw =>
      have e1 : selQ ++ (joinL [32, 63] (v :: vs) ++ (whrQ ++ (joinL dot3 (r.atoms.map atT) ++ [32, 125]))) = selW ++ (32 :: 63 :: (v ++ (tlL [32, 63] vs ++ (32 :: (whrW ++ (32 :: 123 :: 32 :: (joinL dot3 (r.atoms.map atT) ++ [32, 125]))))))) := by
        show selQ ++ ((v ++ tlL [32, 63] vs) ++ _) = _
        simp [selQ, selW, whrQ, whrW]
      rw [e1]
      refine .word (by decide) (.cons p32) (.blank b32 ?_)
      have te : LexT (32 :: (whrW ++ (32 :: 123 :: 32 :: (joinL dot3 (r.atoms.map atT) ++ [32, 125])))) (⟨1, whrW, 0⟩ :: ⟨3, [123], 0⟩ :: (joinL [dotS] (r.atoms.map atK) ++ endK)) := by
        refine .blank b32 (.word (by decide) (.cons p32) (.blank b32 (.mark (by decide) (.inl (by decide)) (.blank b32 ?_))))
        refine ats_lex haw (.cons p32) (.blank b32 (.mark (by decide) (.inl (by decide)) .nil))
      obtain ⟨t1, t2⟩ := vars_lex vs (fun b hb => hvw b (by simp [hb])) _ _ (.cons p32) te
      exact .name (hvw v (by simp)) t1 t2
  · unfold reqT reqK
    rw [if_neg (by rw [h2]; decide), if_neg (by rw [h2]; decide)]
    exact chsTl_lex r.ch hcw hc
/-! the signs are read -/
theorem term_read (t : Tm) (rest : List Sg) : pTerm (termK t :: rest) = .ok t rest := by
  obtain ⟨v, n⟩ := t
  cases v <;> rfl
theorem at_read {N : Nat} {a : AtP} (h : wellAt a) (hN : a.p.nd < N) (rest : List Sg) : pAtom N (atK a ++ rest) = .ok a rest := by
  have e2 : atK a ++ rest = termK a.s :: (a.p.tk ++ (termK a.o :: rest)) := by simp [atK]
  rw [e2, pAtom, term_read, PR.bind_ok, path_tk N a.p h.2.1 hN _ (NoMk.other (by unfold termK; split <;> (intro g; cases g))), PR.bind_ok, term_read]
  rfl
theorem ats_read {N : Nat} : ∀ (l : List AtP) (n : Nat) (acc : List AtP), l ≠ [] → l.length ≤ n → (∀ a ∈ l, wellAt a ∧ a.p.nd < N) → pAtoms N n acc (joinL [dotS] (l.map atK) ++ endK) = .ok (acc ++ l) endK
  | [], _, _, h, _, _ => absurd rfl h
  | [a], n, acc, _, hn, h => by
    obtain ⟨n, rfl⟩ : ∃ n', n = n' + 1 := ⟨n - 1, by simp at hn; omega⟩
    have e1 : joinL [dotS] ([a].map atK) ++ endK = atK a ++ endK := by
      show (atK a ++ []) ++ endK = _
      simp
    rw [e1, pAtoms, at_read (h a (by simp)).1 (h a (by simp)).2, PR.bind_ok]
    rfl
  | a :: b :: l, n, acc, _, hn, h => by
    obtain ⟨n, rfl⟩ : ∃ n', n = n' + 1 := ⟨n - 1, by simp at hn; omega⟩
    have e1 : joinL [dotS] ((a :: b :: l).map atK) ++ endK = atK a ++ (dotS :: (joinL [dotS] ((b :: l).map atK) ++ endK)) := by
      show (atK a ++ ([dotS] ++ (atK b ++ tlL [dotS] (l.map atK)))) ++ endK = atK a ++ (dotS :: ((atK b ++ tlL [dotS] (l.map atK)) ++ endK))
      simp
    rw [e1, pAtoms, at_read (h a (by simp)).1 (h a (by simp)).2, PR.bind_ok]
    have hp : pIs [46] (dotS :: (joinL [dotS] ((b :: l).map atK) ++ endK)) = some (joinL [dotS] ((b :: l).map atK) ++ endK) := rfl
    have hp2 : pIs [125] (joinL [dotS] ((b :: l).map atK) ++ endK) = none := by
      show pIs [125] (termK b.s :: _) = none
      rw [pIs, if_neg]
      rintro ⟨g, _⟩
      unfold termK at g
      revert g
      split <;> intro g <;> cases g
    rw [hp]
    simp only
    rw [hp2]
    simp only
    rw [ats_read (b :: l) n (acc ++ [a]) (by simp) (by simp at hn ⊢; omega) (fun x hx => h x (by simp at hx ⊢; exact .inr hx))]
    simp
theorem vars_read : ∀ (vs acc : List (List UInt8)) (x : Sg) (rest : List Sg), x.k ≠ 2 → pVars acc (vs.map nameK ++ x :: rest) = (acc ++ vs, x :: rest)
  | [], acc, x, rest, hx => by
    show pVars acc (x :: rest) = _
    rw [pVars, if_neg hx, List.append_nil]
  | v :: vs, acc, x, rest, hx => by
    show pVars acc (nameK v :: (vs.map nameK ++ x :: rest)) = _
    rw [pVars, if_pos (show (nameK v).k = 2 from rfl), vars_read vs _ x rest hx]
    simp [nameK]
theorem atK_len (a : AtP) : 1 ≤ (atK a).length := by simp [atK]
theorem atsK_len : ∀ l : List AtP, l.length ≤ (joinL [dotS] (l.map atK)).length ∧ l.length ≤ (tlL [dotS] (l.map atK)).length
  | [] => ⟨Nat.le_refl _, Nat.le_refl _⟩
  | a :: l => by
    have := (atsK_len l).2
    have h1 := atK_len a
    have e1 : joinL [dotS] ((a :: l).map atK) = atK a ++ tlL [dotS] (l.map atK) := rfl
    have e2 : tlL [dotS] ((a :: l).map atK) = [dotS] ++ (atK a ++ tlL [dotS] (l.map atK)) := rfl
    rw [e1, e2]
    simp only [List.length_append, List.length_cons, List.length_nil]
    omega
theorem at_in : ∀ (l : List AtP) (a : AtP), a ∈ l → a.p.tk.length ≤ (joinL [dotS] (l.map atK)).length ∧ a.p.tk.length ≤ (tlL [dotS] (l.map atK)).length
  | [], a, h => by cases h
  | b :: l, a, h => by
    have e1 : joinL [dotS] ((b :: l).map atK) = atK b ++ tlL [dotS] (l.map atK) := rfl
    have e2 : tlL [dotS] ((b :: l).map atK) = [dotS] ++ (atK b ++ tlL [dotS] (l.map atK)) := rfl
    rw [e1, e2]
    simp only [List.length_append, List.length_cons, List.length_nil]
    rcases List.mem_cons.1 h with rfl | g
    · simp only [atK, List.length_cons, List.length_append]; omega
    · have := (at_in l a g).2; omega
theorem req_read {r : Rq} (h : wellR r) {N : Nat} (hN : (reqK r).length < N) : pReq N (reqK r) = .ok r [] := by
  obtain ⟨kind, vars, atoms, ch⟩ := r
  rcases h with ⟨h1, h2, hv, hvw, ha, haw⟩ | ⟨h1, h2, h3, hc, hcw⟩
  · simp only at h1 h2 hv hvw ha haw
    subst h1; subst h2
    match vars, hv, hvw with
    | v :: vs, _, hvw =>
      have e : reqK ⟨1, v :: vs, atoms, []⟩ = (⟨1, selW, 0⟩ : Sg) :: nameK v :: (vs.map nameK ++ (⟨1, whrW, 0⟩ :: ⟨3, [123], 0⟩ :: (joinL [dotS] (atoms.map atK) ++ endK))) := rfl
      rw [e] at hN ⊢
      simp only [List.length_cons, List.length_append] at hN
      have hq : pQuery N ((⟨1, selW, 0⟩ : Sg) :: nameK v :: (vs.map nameK ++ (⟨1, whrW, 0⟩ :: ⟨3, [123], 0⟩ :: (joinL [dotS] (atoms.map atK) ++ endK)))) = .ok (v :: vs, atoms) [] := by
        unfold pQuery
        have t1 : pTake 1 [selW] ((⟨1, selW, 0⟩ : Sg) :: nameK v :: (vs.map nameK ++ (⟨1, whrW, 0⟩ :: ⟨3, [123], 0⟩ :: (joinL [dotS] (atoms.map atK) ++ endK)))) = .ok selW (nameK v :: (vs.map nameK ++ (⟨1, whrW, 0⟩ :: ⟨3, [123], 0⟩ :: (joinL [dotS] (atoms.map atK) ++ endK)))) := rfl
        have t2 : pTake 2 [] (nameK v :: (vs.map nameK ++ (⟨1, whrW, 0⟩ :: ⟨3, [123], 0⟩ :: (joinL [dotS] (atoms.map atK) ++ endK)))) = .ok v (vs.map nameK ++ (⟨1, whrW, 0⟩ :: ⟨3, [123], 0⟩ :: (joinL [dotS] (atoms.map atK) ++ endK))) := rfl
        rw [t1, PR.bind_ok, t2, PR.bind_ok, vars_read vs [v] ⟨1, whrW, 0⟩ _ (by decide)]
        have t3 : pTake 1 [[119, 104, 101, 114, 101]] ((⟨1, whrW, 0⟩ : Sg) :: ⟨3, [123], 0⟩ :: (joinL [dotS] (atoms.map atK) ++ endK)) = .ok whrW ((⟨3, [123], 0⟩ : Sg) :: (joinL [dotS] (atoms.map atK) ++ endK)) := rfl
        have t4 : pTake 3 [[123]] ((⟨3, [123], 0⟩ : Sg) :: (joinL [dotS] (atoms.map atK) ++ endK)) = .ok [123] (joinL [dotS] (atoms.map atK) ++ endK) := rfl
        rw [t3, PR.bind_ok, t4, PR.bind_ok, ats_read atoms N [] ha (by have := (atsK_len atoms).1; omega) (fun a hm => ⟨haw a hm, by have := (at_in atoms a hm).1; have := tk_nd a.p (haw a hm).2.1; omega⟩), PR.bind_ok]
        rfl
      unfold pReq
      rw [if_pos (show isSel _ = true from rfl), hq, PR.bind_ok]
      rfl
  · simp only at h1 h2 h3 hc hcw
    subst h1; subst h2; subst h3
    have e : reqK ⟨2, [], [], ch⟩ = chsTk ch := rfl
    rw [e] at hN ⊢
    exact pReq_chs hc (by have := chsTk_len ch; omega)
theorem LexT.uniq {s : List UInt8} {t1 t2 : List Sg} (h1 : LexT s t1) (h2 : LexT s t2) : t1 = t2 := by
  obtain ⟨l1, a1, b1⟩ := h1 (s.length + 1) 0 (by omega)
  obtain ⟨l2, a2, b2⟩ := h2 (s.length + 1) 0 (by omega)
  rw [a1] at a2
  cases a2
  rw [← b1, ← b2]
/-- Two requests that are well have the same text just if they are the same. -/
theorem text_inj {a b : Rq} (ha : wellR a) (hb : wellR b) (h : reqT a = reqT b) : a = b := by
  have h1 := req_lex ha
  rw [h] at h1
  have h2 := LexT.uniq h1 (req_lex hb)
  have r1 := req_read ha (N := (reqK a).length + 1) (by omega)
  rw [h2] at r1
  have r2 := req_read hb (N := (reqK b).length + 1) (by omega)
  rw [r1] at r2
  cases r2; rfl
/-! what may be is well; what is read may be -/
theorem why_b2 {cs : List Chg} (h : cs.length ≤ 64) : whyP ⟨2, [], [], cs⟩ = 0 := by
  unfold whyP
  have h1 : deepA ([] : List AtP) = false := rfl
  rw [if_neg (by simp [h1]), if_neg (by simp [namesP]; omega)]
  rfl
theorem ok_well {r : Rq} (h : okAll r = true) : wellR r ∧ whyP r = 0 := by
  unfold okAll at h
  split at h
  · rename_i h2
    rw [Bool.and_eq_true, beq_iff_eq] at h
    obtain ⟨h0, hb⟩ := h
    have hv : r.vars = [] := List.length_eq_zero_iff.1 (by omega)
    have ha : r.atoms = [] := List.length_eq_zero_iff.1 (by omega)
    have hb' := hb
    unfold okB at hb'
    simp only [Bool.and_eq_true, decide_eq_true_eq, List.all_eq_true] at hb'
    refine ⟨.inr ⟨h2, hv, ha, List.length_pos_iff.1 hb'.1, hb'.2.2⟩, ?_⟩
    obtain ⟨k, v, a, c⟩ := r
    simp only at h2 hv ha hb'
    subst h2; subst hv; subst ha
    exact why_b2 hb'.2.1
  · split at h
    · rename_i h2 h1
      simp only [Bool.and_eq_true, decide_eq_true_eq, beq_iff_eq, List.all_eq_true] at h
      obtain ⟨c0, c1, c2, c3, c4, c5, c6, c7⟩ := h
      refine ⟨.inl ⟨h1, List.length_eq_zero_iff.1 c0, List.length_pos_iff.1 c1, c5, List.length_pos_iff.1 c2, fun a ha => ?_⟩, c7⟩
      have := c6 a ha
      unfold okAt at this
      simp only [Bool.and_eq_true] at this
      exact ⟨this.1, ((fits_some a.p).1 this.2.2).1, this.2.1⟩
    · cases h
theorem whyP_zero {r : Rq} (h : whyP r = 0) : deepA r.atoms = false ∧ r.vars.length ≤ 6 ∧ r.atoms.length ≤ 6 ∧ r.ch.length ≤ 64 := by
  unfold whyP at h
  split at h
  · cases h
  rename_i h1
  split at h
  · cases h
  rename_i h2
  exact ⟨by simpa using h1, by omega, by omega, by omega⟩
end Go.Ab
