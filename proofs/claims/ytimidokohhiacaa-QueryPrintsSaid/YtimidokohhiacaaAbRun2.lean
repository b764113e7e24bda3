import Derived.Test.YtimidokohhiacaaAbRun0
import Derived.Test.YtimidokohhiacaaAbP09k
import Derived.Test.YtimidokohhiacaaAbP09u
/- sinew/query: where signs stand does not matter; how many blanks stand between does not. -/
namespace Go.Ab
open Go.RowKit
set_option linter.unusedVariables false
set_option linter.unusedSimpArgs false
def strip (x : Sg) : Sg := ⟨x.k, x.tx, 0⟩
def PR.mp {α : Type} (r : PR α) : PR α := match r with | .ok a l => .ok a (l.map strip) | .bad l => .bad (l.map strip)
/-! blanks -/
inductive Bl : List UInt8 → List UInt8 → Prop
  | nil (u : List UInt8) (h : ∀ b ∈ u, blB b = true) : Bl [] u
  | blank (b : UInt8) (s u t : List UInt8) (hb : blB b = true) (h : ∀ b ∈ u, blB b = true) (hu : u ≠ []) : Bl s t → Bl (b :: s) (u ++ t)
  | other (b : UInt8) (s t : List UInt8) (hb : blB b = false) : Bl s t → Bl (b :: s) (b :: t)
theorem blank_part (b : UInt8) (h : blB b = true) : partB b = false := by
  revert h
  exact all256 (P := fun b => blB b = true → partB b = false) (by decide +kernel) b
theorem Bl.app {s t : List UInt8} (h : Bl s t) (u : List UInt8) (hu : ∀ b ∈ u, blB b = true) : Bl s (t ++ u) := by
  induction h with
  | nil v hv => exact .nil _ fun b hb => by rcases List.mem_append.1 hb with g | g; exact hv b g; exact hu b g
  | blank b s v t hb hv hne _ ih => rw [List.append_assoc]; exact .blank b s v _ hb hv hne ih
  | other b s t hb _ ih => exact .other b s _ hb ih
theorem Bl.run {s t : List UInt8} (h : Bl s t) : runL s = runL t ∧ Bl (s.drop (runL s).length) (t.drop (runL s).length) := by
  induction h with
  | nil u hu =>
    have : runL u = [] := by
      cases u with
      | nil => rfl
      | cons b u => exact runL_no (blank_part b (hu b (by simp)))
    rw [this]; exact ⟨rfl, .nil u hu⟩
  | blank b s u t hb hu hne hst ih =>
    have h1 : runL (b :: s) = [] := runL_no (blank_part b hb)
    have h2 : runL (u ++ t) = [] := by
      cases u with
      | nil => exact absurd rfl hne
      | cons c u => exact runL_no (blank_part c (hu c (by simp)))
    rw [h1, h2]; exact ⟨rfl, .blank b s u t hb hu hne hst⟩
  | other b s t hb hst ih =>
    cases hp : partB b with
    | true =>
      rw [runL_cons hp, runL_cons hp]
      exact ⟨by rw [ih.1], by simpa using ih.2⟩
    | false => rw [runL_no hp, runL_no hp]; exact ⟨rfl, .other b s t hb hst⟩
end Go.Ab

/- sinew/query: texts of signs. -/
namespace Go.Ab
open Go.RowKit
set_option linter.unusedVariables false
set_option linter.unusedSimpArgs false
def isWord (s : List UInt8) : Bool := s != [] && (decide (s.length ≤ 16) && s.all partB)
theorem isWord_some {s : List UInt8} (h : isWord s = true) : s ≠ [] ∧ s.length ≤ 16 ∧ ∀ b ∈ s, partB b = true := by
  unfold isWord at h
  simp only [Bool.and_eq_true, bne_iff_ne, ne_eq, decide_eq_true_eq, List.all_eq_true] at h
  exact ⟨h.1, h.2.1, h.2.2⟩
/-- A text that has these signs. -/
def LexT (s : List UInt8) (tk : List Sg) : Prop := ∀ n i, s.length < n → ∃ l, lex n i s = .ok l ∧ l.map strip = tk
/-- It does not begin with a byte of a word. -/
def NoPart (s : List UInt8) : Prop := runL s = []
theorem NoPart.nil : NoPart [] := rfl
theorem NoPart.cons {b : UInt8} {s : List UInt8} (h : partB b = false) : NoPart (b :: s) := runL_no h
theorem runL_word {w rest : List UInt8} (hw : ∀ b ∈ w, partB b = true) (hr : NoPart rest) : runL (w ++ rest) = w := by
  induction w with
  | nil => exact hr
  | cons b w ih => rw [List.cons_append, runL_cons (hw b (by simp)), ih (fun c hc => hw c (by simp [hc]))]
theorem part_blank (b : UInt8) (h : partB b = true) : blB b = false := by
  revert h
  exact all256 (P := fun b => partB b = true → blB b = false) (by decide +kernel) b
theorem LexT.nil : LexT [] [] := fun n i h => by
  obtain ⟨m, rfl⟩ : ∃ m, n = m + 1 := ⟨n - 1, by simp at h; omega⟩
  exact ⟨[], rfl, rfl⟩
theorem LexT.blank {b : UInt8} {s : List UInt8} {tk : List Sg} (hb : blB b = true) (h : LexT s tk) : LexT (b :: s) tk := fun n i hn => by
  obtain ⟨m, rfl⟩ : ∃ m, n = m + 1 := ⟨n - 1, by omega⟩
  rw [lex, if_pos hb]
  exact h m (i + 1) (by simp at hn; omega)
theorem LexT.word {w rest : List UInt8} {tk : List Sg} (hw : isWord w = true) (hr : NoPart rest) (h : LexT rest tk) : LexT (w ++ rest) (⟨1, w, 0⟩ :: tk) := fun n i hn => by
  obtain ⟨m, rfl⟩ : ∃ m, n = m + 1 := ⟨n - 1, by omega⟩
  obtain ⟨h1, h2, h3⟩ := isWord_some hw
  cases w with
  | nil => exact absurd rfl h1
  | cons b w =>
    have hrun := runL_word h3 hr
    rw [List.cons_append] at hrun hn ⊢
    have hb := h3 b (by simp)
    rw [lex, if_neg (by rw [part_blank b hb]; exact Bool.false_ne_true), if_pos hb, hrun, if_neg (by omega)]
    have hd : (b :: (w ++ rest)).drop (b :: w).length = rest := by rw [← List.cons_append, List.drop_left]
    rw [hd]
    simp only [List.length_cons, List.length_append] at hn
    obtain ⟨l, g1, g2⟩ := h m (i + (b :: w).length) (by omega)
    rw [g1]
    exact ⟨_, rfl, by simp [g2, strip]⟩
theorem LexT.name {w rest : List UInt8} {tk : List Sg} (hw : isWord w = true) (hr : NoPart rest) (h : LexT rest tk) : LexT (63 :: (w ++ rest)) (⟨2, w, 0⟩ :: tk) := fun n i hn => by
  obtain ⟨m, rfl⟩ : ∃ m, n = m + 1 := ⟨n - 1, by omega⟩
  obtain ⟨h1, h2, h3⟩ := isWord_some hw
  have hrun := runL_word h3 hr
  rw [lex, if_neg (by decide), if_neg (by decide), hrun, if_pos ⟨rfl, h1⟩, if_neg (by omega), List.drop_left]
  simp only [List.length_cons, List.length_append] at hn
  obtain ⟨l, g1, g2⟩ := h m (i + w.length + 1) (by omega)
  rw [g1]
  exact ⟨_, rfl, by simp [g2, strip]⟩
theorem mark_kind (b : UInt8) (h : marksL.contains b = true) : blB b = false ∧ partB b = false := by
  revert h
  exact all256 (P := fun b => marksL.contains b = true → blB b = false ∧ partB b = false) (by decide +kernel) b
theorem LexT.mark {b : UInt8} {rest : List UInt8} {tk : List Sg} (hb : marksL.contains b = true) (hr : b ≠ 63 ∨ NoPart rest) (h : LexT rest tk) : LexT (b :: rest) (⟨3, [b], 0⟩ :: tk) := fun n i hn => by
  obtain ⟨m, rfl⟩ : ∃ m, n = m + 1 := ⟨n - 1, by omega⟩
  obtain ⟨k1, k2⟩ := mark_kind b hb
  have hn' : ¬ (b = 63 ∧ runL rest ≠ []) := by
    rintro ⟨g1, g2⟩
    rcases hr with g | g
    · exact g g1
    · exact g2 g
  rw [lex, if_neg (by rw [k1]; exact Bool.false_ne_true), if_neg (by rw [k2]; exact Bool.false_ne_true), if_neg hn', if_pos hb]
  obtain ⟨l, g1, g2⟩ := h m (i + 1) (by simp at hn; omega)
  rw [g1]
  exact ⟨_, rfl, by simp [g2, strip]⟩
/-! changes -/
def howW (c : Chg) : List UInt8 := if c.gone = true then delW else insW
def chTk (c : Chg) : List Sg := [⟨1, howW c, 0⟩, ⟨1, c.s, 0⟩, ⟨1, c.p, 0⟩, ⟨1, c.o, 0⟩]
def dotS : Sg := ⟨3, [46], 0⟩
def chsTk : List Chg → List Sg
  | [] => []
  | [c] => chTk c
  | c :: cs => chTk c ++ dotS :: chsTk cs
def okCh (c : Chg) : Bool := isWord c.s && (isWord c.p && isWord c.o)
theorem how_word (c : Chg) : isWord (howW c) = true := by unfold howW; split <;> decide
/-- A change's text, ahead of some other. -/
theorem LexT.ch {c : Chg} (h : okCh c = true) (b : UInt8) (hb : blB b = true) {rest : List UInt8} {tk : List Sg} (hr : NoPart rest) (hl : LexT rest tk) : LexT (howW c ++ (32 :: (c.s ++ (b :: (c.p ++ (32 :: (c.o ++ rest))))))) (chTk c ++ tk) := by
  unfold okCh at h
  rw [Bool.and_eq_true, Bool.and_eq_true] at h
  have h32 : partB 32 = false := by decide
  have hbp := blank_part b hb
  exact .word (how_word c) (.cons h32) (.blank (by decide) (.word h.1 (.cons hbp) (.blank hb (.word h.2.1 (.cons h32) (.blank (by decide) (.word h.2.2 hr hl))))))
end Go.Ab

/- sinew/query: what is read is made of what the signs hold. -/
namespace Go.Ab
open Go.Proofs Go.RowKit
set_option linter.unusedVariables false
set_option linter.unusedSimpArgs false
/-- The texts of words and names. -/
def SgW (W : List UInt8 → Prop) (l : List Sg) : Prop := ∀ x ∈ l, (x.k = 1 ∨ x.k = 2) → W x.tx
theorem SgW.suf {W : List UInt8 → Prop} {l l' : List Sg} (h : SgW W l) (k : l' <:+ l) : SgW W l' := fun x hx => h x (k.subset hx)
/-- What holds of all paths that are read. -/
structure QC (W : List UInt8 → Prop) (Q : Pth → Prop) : Prop where
  word : ∀ w, W w → Q (.mk 1 w [])
  post : ∀ k p, (k = 4 ∨ k = 5 ∨ k = 6) → Q p → Q (.mk k [] [p])
  more : ∀ k ps, (k = 2 ∨ k = 3) → 2 ≤ ps.length → (∀ p ∈ ps, Q p) → Q (.mk k [] ps)
def PR.all {α : Type} (Q : α → Prop) (r : PR α) : Prop := match r with | .ok a _ => Q a | .bad _ => True
theorem PR.all.bind {α β : Type} {Q : α → Prop} {P : β → Prop} {r : PR α} {W : List UInt8 → Prop} {l : List Sg} (h : r.all Q) (hs : r.suf l) (hw : SgW W l) {f : α → List Sg → PR β} (k : ∀ a l', SgW W l' → Q a → (f a l').all P) : (r.bind f).all P := by
  cases r with
  | ok a l' => exact k a l' (hw.suf hs) h
  | bad l' => trivial
variable {W : List UInt8 → Prop} {Q : Pth → Prop}
def AtQ (W : List UInt8 → Prop) (Q : Pth → Prop) (a : AtP) : Prop := W a.s.n ∧ Q a.p ∧ W a.o.n
def ChQ (W : List UInt8 → Prop) (c : Chg) : Prop := W c.s ∧ W c.p ∧ W c.o
/-- A request that is read. -/
def RqQ (W : List UInt8 → Prop) (Q : Pth → Prop) (r : Rq) : Prop :=
  (r.kind = 1 ∧ r.ch = [] ∧ r.vars ≠ [] ∧ (∀ v ∈ r.vars, W v) ∧ r.atoms ≠ [] ∧ ∀ a ∈ r.atoms, AtQ W Q a) ∨ (r.kind = 2 ∧ r.vars = [] ∧ r.atoms = [] ∧ r.ch ≠ [] ∧ ∀ c ∈ r.ch, ChQ W c)
end Go.Ab

/- sinew/query: how many places a path has. -/
namespace Go.Ab
open Go.RowKit
set_option linter.unusedVariables false
set_option linter.unusedSimpArgs false
/-- The places of a path, as the reference counts them. -/
def Pth.pl : Pth → Nat
  | .mk k _ l => if k = 1 then 1 else pll l
where pll : List Pth → Nat
  | [] => 0
  | p :: l => p.pl + pll l
abbrev Pth.pll := Pth.pl.pll
theorem pl_eq (k : Int) (w : List UInt8) (l : List Pth) : (Pth.mk k w l).pl = if k = 1 then 1 else Pth.pll l := rfl
theorem pll_cons (p : Pth) (l : List Pth) : Pth.pll (p :: l) = p.pl + Pth.pll l := rfl
theorem pll_nil : Pth.pll [] = 0 := rfl
mutual
theorem pl_nd : ∀ p : Pth, p.pl ≤ p.nd
  | .mk k w l => by
    rw [pl_eq, nd_eq]
    have := pll_nd l
    split <;> omega
theorem pll_nd : ∀ l : List Pth, Pth.pll l ≤ Pth.ndl l
  | [] => Nat.le_refl _
  | p :: l => by rw [pll_cons, ndl_cons]; have := pl_nd p; have := pll_nd l; omega
end
mutual
theorem sz2_nd : ∀ p : Pth, p.sz.2 ≤ p.nd
  | .mk k w l => by
    rw [sz_eq, nd_eq]
    have := szl2_nd l
    simp only; omega
theorem szl2_nd : ∀ l : List Pth, (Pth.szl l).2 ≤ Pth.ndl l
  | [] => Nat.le_refl _
  | p :: l => by rw [szl_cons, ndl_cons]; have := sz2_nd p; have := szl2_nd l; simp only; omega
end
end Go.Ab

/- sinewlaw09: QueryBatch. -/
namespace Go.Ab
open Go.Proofs Go.RowKit
set_option linter.unusedVariables false
set_option linter.unusedSimpArgs false
set_option maxRecDepth 100000
theorem odd_part (b : UInt8) : oddB b = !partB b := all256 (P := fun b => oddB b = !partB b) (by decide +kernel) b
theorem any_odd (s : List UInt8) : s.any oddB = !s.all partB := by
  induction s with
  | nil => rfl
  | cons b s ih => rw [List.any_cons, List.all_cons, odd_part, ih]; cases partB b <;> simp
theorem word_s (s : List UInt8) (st : St) : s39 [.str s] st = some (.ret (.bool (isWord s)), st) := by
  rw [s39_eq]
  refine fg_of (v := .bool (isWord s)) (st' := st) ?_ (Ks.refl st) rfl
  unfold f39 isWord
  simp only [eql_str, if_true, lenS_str, bin_leq]
  cases h1 : (s != []) with
  | false => rw [guard_ft]; rfl
  | true =>
    rw [guard_tt]
    by_cases h2 : s.length ≤ 16
    · rw [decide_eq_true (show ((s.length : Int) ≤ 16) by omega), guard_tt]
      simp only [er1_str, er1_fn, s73_v, ret_ret, un_not, any_odd, Bool.not_not, er1_bool, h2, decide_true, Bool.true_and]
    · rw [decide_eq_false (show ¬ ((s.length : Int) ≤ 16) by omega), guard_ft, decide_eq_false h2]; rfl
theorem odd_ch (c : Chg) (st : St) : ∃ st', s38 [chV c] st = some (.ret (.bool (!okCh c)), st') ∧ Ks st st' := by
  rw [s38_eq]
  unfold f38
  have bx : ∀ K : V → St → Res, A.box (chV c) st K = K (.ptr st.n 0) (st.new (.cells (chC c))) := fun K => rfl
  rw [bx]
  have o := new_at st (.cells (chC c))
  have k : Ks st (st.new (.cells (chC c))) := (Ks.refl st).new _
  generalize st.new (.cells (chC c)) = s1 at o k ⊢
  have w1 : ∀ K : V → St → Res, A.load false 1 (.ptr st.n 1) s1 K = K (.str c.s) s1 := fun K => by rw [load_ob, o]; rfl
  have w2 : ∀ K : V → St → Res, A.load false 1 (.ptr st.n 2) s1 K = K (.str c.p) s1 := fun K => by rw [load_ob, o]; rfl
  have w3 : ∀ K : V → St → Res, A.load false 1 (.ptr st.n 3) s1 K = K (.str c.o) s1 := fun K => by rw [load_ob, o]; rfl
  unfold okCh
  simp only [faddr_ptr, Nat.zero_add, w1, er1_str, word_s, ret_ret, un_not]
  unfold g38b10_6
  cases h1 : isWord c.s with
  | false => rw [Bool.not_false, guard_tf]; unfold g38b10_13; rw [guard_tf]; exact ⟨s1, rfl, k⟩
  | true =>
    rw [Bool.not_true, guard_ff]
    simp only [faddr_ptr, Nat.zero_add, w2, er1_str, word_s, ret_ret, un_not]
    unfold g38b10_13
    cases h2 : isWord c.p with
    | false => rw [Bool.not_false, guard_tf]; exact ⟨s1, rfl, k⟩
    | true =>
      rw [Bool.not_true, guard_ff]
      simp only [faddr_ptr, Nat.zero_add, w3, er1_str, word_s, ret_ret, un_not, er1_bool, Bool.true_and]
      exact ⟨s1, rfl, k⟩
theorem idx_ch (cs : List Chg) (t : Nat) (hl : cs.length ≤ 1000000000) {st0 : St} : ∀ (n i : Nat) (st : St), i ≤ cs.length → cs.length < n + i → Ks st0 st →
    ∃ (r : Int) (st' : St), g74b1010 n (.lst (cs.map chV) t) (.fn 38 [] []) (.int .i64 (cs.length : Nat)) (.int .i64 (i : Nat)) st = some (.ret (.int .i64 r), st') ∧ decide (0 ≤ r) = !(cs.drop i).all okCh ∧ Ks st0 st' := by
  intro n
  induction n with
  | zero => intro i st hi hn; omega
  | succ n ih =>
    intro i st hi hn hk
    rw [g74b1010]
    simp only [bin_lss]
    by_cases hil : i < cs.length
    · have e4 : ∀ K, A.bin .add (.int .i64 (i : Nat)) (.int .i64 1) K = K (.int .i64 ((i + 1 : Nat) : Int)) := fun K => bin_inc (by omega) K
      have ld : ∀ (x : Chg) (s : St) K, A.load true 4 (.lptr (chC x)) s K = K (chV x) s := fun x s K => by rw [load_lptrA]; rfl
      have call : ∀ (v : V) (s : St) K, A.call g74T (.fn 38 [] []) [v] s K = A.ret (s38 [v.er1] s) K := fun v s K => rfl
      obtain ⟨s1, q1, k1⟩ := odd_ch cs[i] st
      simp only [show ((i : Int) < (cs.length : Int)) from by omega, decide_true, cond_true, iaddr_ch t hil, ld, call]
      rw [show (chV cs[i]).er1 = chV cs[i] from rfl, q1, ret_ret, List.drop_eq_getElem_cons hil, List.all_cons]
      cases h : okCh cs[i] with
      | false => exact ⟨i, s1, rfl, by rw [decide_eq_true (by omega)]; rfl, hk.trans k1⟩
      | true =>
        rw [Bool.not_true, cond_false, e4, Bool.true_and]
        exact ih (i + 1) s1 (by omega) (by omega) (hk.trans k1)
    · have : i = cs.length := by omega
      subst this
      simp only [Int.lt_irrefl, decide_false, cond_false, List.drop_length]
      exact ⟨-1, st, rfl, rfl, hk⟩
theorem anyodd_ch (cs : List Chg) (t : Nat) (hl : cs.length ≤ 1000000000) (st : St) : ∃ st', s40 [.lst (cs.map chV) t, .fn 38 [] []] st = some (.ret (.bool (!cs.all okCh)), st') ∧ Ks st st' := by
  rw [s40_eq]
  unfold f40
  have : ∃ (r : Int) (st' : St), s74 [.lst (cs.map chV) t, .fn 38 [] []] st = some (.ret (.int .i64 r), st') ∧ decide (0 ≤ r) = !cs.all okCh ∧ Ks st st' := by
    rw [s74_eq]
    unfold f74
    simp only [lenL_lst, List.length_map]
    obtain ⟨r, st', h1, h2, h3⟩ := idx_ch cs t hl (st0 := st) big 0 st (by omega) (lt_big (by omega)) (Ks.refl st)
    rw [show ((0 : Nat) : Int) = 0 from rfl] at h1
    rw [List.drop_zero] at h2
    exact ⟨r, st', h1, h2, h3⟩
  obtain ⟨r, st', h1, h2, h3⟩ := this
  simp only [er1_lst, er1_fn, h1, ret_ret, bin_geq, er1_bool, h2]
  exact ⟨st', rfl, h3⟩
def okB (cs : List Chg) : Bool := decide (0 < cs.length) && (decide (cs.length ≤ 64) && cs.all okCh)
end Go.Ab

/- sinew/query: the walk of Check: paths. -/
namespace Go.Ab
open Go.Proofs Go.RowKit
set_option linter.unusedVariables false
set_option linter.unusedSimpArgs false
set_option maxRecDepth 100000
/-- Has a path kids as its kind wants them? -/
def shape1 (k : Int) (w : List UInt8) (n : Nat) : Bool := ((k == 2 || k == 3) && decide (2 ≤ n) || (k == 4 || (k == 5 || k == 6)) && n == 1) && w == []
/-- May a path be, so deep, with so many words left? How many are left then. -/
def Pth.fitsP : Pth → Nat → Int → Option Int
  | .mk k w l, d, left => if k = 1 then (if 0 < d ∧ l.length = 0 ∧ isWord w = true ∧ 0 ≤ left - 1 then some (left - 1) else none)
    else if shape1 k w l.length = true ∧ 0 < d then fitsL l (d - 1) left else none
where fitsL : List Pth → Nat → Int → Option Int
  | [], _, left => some left
  | p :: l, d, left => match p.fitsP d left with
    | none => none
    | some x => fitsL l d x
abbrev Pth.fitsL := Pth.fitsP.fitsL
theorem fits_eq (k : Int) (w : List UInt8) (l : List Pth) (d : Nat) (left : Int) : (Pth.mk k w l).fitsP d left = if k = 1 then (if 0 < d ∧ l.length = 0 ∧ isWord w = true ∧ 0 ≤ left - 1 then some (left - 1) else none)
    else if shape1 k w l.length = true ∧ 0 < d then Pth.fitsL l (d - 1) left else none := rfl
theorem fitsL_nil (d : Nat) (left : Int) : Pth.fitsL [] d left = some left := rfl
theorem fitsL_cons (p : Pth) (l : List Pth) (d : Nat) (left : Int) : Pth.fitsL (p :: l) d left = match p.fitsP d left with
    | none => none
    | some x => Pth.fitsL l d x := rfl
mutual
theorem fits_le : ∀ (p : Pth) (d : Nat) (left x : Int), p.fitsP d left = some x → 0 ≤ left → 0 ≤ x ∧ x ≤ left
  | .mk k w l, d, left, x, h, h0 => by
    rw [fits_eq] at h
    split at h
    · split at h
      · rename_i hc; cases h; omega
      · cases h
    · split at h
      · exact fitsL_le l _ _ _ h h0
      · cases h
theorem fitsL_le : ∀ (l : List Pth) (d : Nat) (left x : Int), Pth.fitsL l d left = some x → 0 ≤ left → 0 ≤ x ∧ x ≤ left
  | [], d, left, x, h, h0 => by cases h; omega
  | p :: l, d, left, x, h, h0 => by
    rw [fitsL_cons] at h
    cases hp : p.fitsP d left with
    | none => rw [hp] at h; cases h
    | some y =>
      rw [hp] at h
      have a := fits_le p d left y hp h0
      have b := fitsL_le l d y x h a.1
      omega
end
/-- What a walk over a path answers: whether it may be, and what is left. -/
def FitR (q : Nat) (st : St) (neg : Bool) (r : Option Int) (x : Res) : Prop := ∃ st' y, x = some (.ret (.bool (if neg then !r.isSome else r.isSome)), st') ∧ KsP q st st' ∧ st'.ob q = some (.cells [.int .i64 y]) ∧ ∀ z, r = some z → y = z
/-- The kids one by one. -/
theorem idx_kids {R : Nat → Fn} {d : Nat} {q a b : Nat} (l : List Pth) (t : Nat) (hl : l.length ≤ 1000000000) {st0 : St} (hq : q < st0.n) (ha : a < st0.n) (hb : b < st0.n) (haq : a ≠ q) (hbq : b ≠ q)
    (hR : ∀ p ∈ l, ∀ (st : St) (left : Int), 0 ≤ left → left ≤ 1000 → st.ob q = some (.cells [.int .i64 left]) → q < st.n → st.ob a = st0.ob a → st.ob b = st0.ob b → st0.n ≤ st.n → FitR q st true (p.fitsP d left) (R 77 [p.v, .ptr a 0, .ptr b 0] st)) :
    ∀ (n i : Nat) (left : Int) (st : St), 0 ≤ left → left ≤ 1000 → i ≤ l.length → l.length < n + i → KsP q st0 st → st.ob q = some (.cells [.int .i64 left]) →
      ∃ (r : Int) (st' : St) (y : Int), g93b1010 R n (.lst (l.map Pth.v) t) (.fn 77 [] [.ptr a 0, .ptr b 0]) (.int .i64 (l.length : Nat)) (.int .i64 (i : Nat)) st = some (.ret (.int .i64 r), st') ∧ decide (0 ≤ r) = !(Pth.fitsL (l.drop i) d left).isSome ∧ KsP q st0 st' ∧ st'.ob q = some (.cells [.int .i64 y]) ∧ ∀ z, Pth.fitsL (l.drop i) d left = some z → y = z := by
  intro n
  induction n with
  | zero => intro i left st h0 h1 hi hn; omega
  | succ n ih =>
    intro i left st h0 h1 hi hn hk ho
    rw [g93b1010]
    simp only [bin_lss]
    by_cases hil : i < l.length
    · have e4 : ∀ K, A.bin .add (.int .i64 (i : Nat)) (.int .i64 1) K = K (.int .i64 ((i + 1 : Nat) : Int)) := fun K => bin_inc (by omega) K
      have call : ∀ (v : V) (s : St) K, A.call (g93T R) (.fn 77 [] [.ptr a 0, .ptr b 0]) [v] s K = A.ret (R 77 [v.er1, .ptr a 0, .ptr b 0] s) K := fun v s K => rfl
      have kn := hk.n
      obtain ⟨s1, y, q1, k1, o1, hy⟩ := hR l[i] (List.getElem_mem hil) st left h0 h1 ho (by omega) (hk.ob a ha haq) (hk.ob b hb hbq) kn
      simp only [show ((i : Int) < (l.length : Int)) from by omega, decide_true, cond_true, iaddr_pth t hil, load_pth, call, pth_er]
      rw [q1, ret_ret, List.drop_eq_getElem_cons hil, fitsL_cons]
      cases h : l[i].fitsP d left with
      | none => exact ⟨i, s1, y, rfl, by rw [decide_eq_true (by omega)]; rfl, hk.trans k1, o1, fun z hz => by cases hz⟩
      | some x =>
        have hxy := hy x h
        subst hxy
        have hx := fits_le _ _ _ _ h h0
        show ∃ r st' z, A.cond (.bool false) _ _ = _ ∧ _
        rw [cond_false, e4]
        exact ih (i + 1) y s1 hx.1 (by omega) (by omega) (by omega) (hk.trans k1) o1
    · have : i = l.length := by omega
      subst this
      simp only [Int.lt_irrefl, decide_false, cond_false, List.drop_length, fitsL_nil]
      exact ⟨-1, st, left, rfl, rfl, hk, ho, fun z hz => by cases hz; rfl⟩
theorem bin_dec (d : Nat) (h : d ≤ 1000000) (K : V → Res) : A.bin .sub (.int .i64 (d : Nat)) (.int .i64 1) K = K (.int .i64 ((d : Int) - 1)) := bin_sub K (by omega) (by omega)
theorem fits_tail {R : Nat → Fn} {q c a b d : Nat} {k : Int} {w : List UInt8} {l : List Pth} {left : Int} {st0 s1 : St} (hk1 : k ≠ 1) (h0 : 0 ≤ left) (h1 : left ≤ 1000) (hd : d ≤ 1000) (hl : l.length ≤ 1000000000)
    (hR : 0 < d → ∀ (st : St), KsP q st0 st → st.ob q = some (.cells [.int .i64 left]) → st.ob a = some (.cells [.int .i64 (d : Nat)]) → st.ob b = some (.cells [.ptr q 0]) → a < st.n → b < st.n → FitR q st true (Pth.fitsL l (d - 1) left) (R 76 [.lst (l.map Pth.v) 0, .fn 77 [] [.ptr a 0, .ptr b 0]] st))
    (hk : KsP q st0 s1) (oc : s1.ob c = some (.cells (pthC (.mk k w l)))) (oa : s1.ob a = some (.cells [.int .i64 (d : Nat)])) (ob : s1.ob b = some (.cells [.ptr q 0])) (oq : s1.ob q = some (.cells [.int .i64 left])) (ha : a < s1.n) (hb : b < s1.n) (ok : Bool) (hok : ok = ((k == 2 || k == 3) && decide (2 ≤ l.length) || (k == 4 || (k == 5 || k == 6)) && l.length == 1)) :
    FitR q st0 false ((Pth.mk k w l).fitsP d left) (g43b1111 R (.ptr c 0) (.ptr a 0) (.ptr b 0) (.bool ok) s1) := by
  rw [fits_eq, if_neg hk1]
  have bad : ¬ (shape1 k w l.length = true ∧ 0 < d) → FitR q st0 false (if shape1 k w l.length = true ∧ 0 < d then Pth.fitsL l (d - 1) left else none) (some (.ret ((.bool false : V).er1), s1)) := fun h => by
    rw [if_neg h]
    exact ⟨s1, left, rfl, hk, oq, fun z hz => by cases hz⟩
  unfold g43b1111
  rw [un_not]
  have hsh : shape1 k w l.length = (ok && w == []) := by rw [hok]; rfl
  cases ok with
  | false => rw [Bool.not_false, guard_tf]; exact bad (fun h => by rw [hsh] at h; cases h.1)
  | true =>
    have la : ∀ K : V → St → Res, A.load false 1 (.ptr a 0) s1 K = K (.int .i64 (d : Nat)) s1 := fun K => by rw [load_ob, oa]; rfl
    have lw : ∀ K : V → St → Res, A.load false 1 (.ptr c 1) s1 K = K (.str w) s1 := fun K => by rw [load_ob, oc]; rfl
    have ll : ∀ K : V → St → Res, A.load false 1 (.ptr c 2) s1 K = K (.lst (l.map Pth.v) 0) s1 := fun K => by rw [load_ob, oc]; rfl
    rw [Bool.not_true, guard_ff, la, bin_leq]
    by_cases hd0 : 0 < d
    · rw [decide_eq_false (show ¬ ((d : Int) ≤ 0) by omega), guard_ff]
      rw [faddr_ptr, Nat.zero_add, lw, eql_str, if_pos rfl]
      by_cases hw : w = []
      · rw [show (w != []) = false from by rw [hw]; rfl, cond_false, if_pos ⟨by rw [hsh, hw]; rfl, hd0⟩]
        unfold g43b11111
        rw [faddr_ptr, Nat.zero_add, ll, er1_lst]
        obtain ⟨s2, y, q2, k2, o2, hy⟩ := hR hd0 s1 hk oq oa ob ha hb
        rw [show (V.fn 77 [] [.ptr a 0, .ptr b 0]).er1 = .fn 77 [] [.ptr a 0, .ptr b 0] from rfl, q2, ret_ret]
        refine ⟨s2, y, ?_, hk.trans k2, o2, hy⟩
        cases (Pth.fitsL l (d - 1) left).isSome <;> rfl
      · rw [show (w != []) = true from bne_iff_ne.2 hw, cond_true]
        exact bad (fun h => by rw [hsh] at h; simp at h; exact hw h.1)
    · rw [decide_eq_true (show (d : Int) ≤ 0 by omega), guard_tf]
      exact bad (fun h => hd0 h.2)
theorem fits_s1 {R : Nat → Fn} {q d : Nat} {p : Pth} {left : Int} {st : St} (h0 : 0 ≤ left) (h1 : left ≤ 1000) (hd : d ≤ 1000) (hl : p.kids.length ≤ 1000000000)
    (hR : ∀ a b, 0 < d → ∀ (s : St), KsP q st s → s.ob q = some (.cells [.int .i64 left]) → s.ob a = some (.cells [.int .i64 (d : Nat)]) → s.ob b = some (.cells [.ptr q 0]) → a < s.n → b < s.n → st.n ≤ a → st.n ≤ b → FitR q s true (Pth.fitsL p.kids (d - 1) left) (R 76 [.lst (p.kids.map Pth.v) 0, .fn 77 [] [.ptr a 0, .ptr b 0]] s))
    (oq : st.ob q = some (.cells [.int .i64 left])) (hq : q < st.n) : FitR q st false (p.fitsP d left) (f43 R p.v (.int .i64 (d : Nat)) (.ptr q 0) st) := by
  obtain ⟨k, w, l⟩ := p
  simp only [Pth.kids] at hl hR
  unfold f43
  have bx : ∀ K : V → St → Res, A.box (Pth.mk k w l).v st K = K (.ptr st.n 0) (st.new (.cells (pthC (.mk k w l)))) := fun K => by rw [pth_c]; rfl
  rw [bx]
  have k1 : KsP q st (st.new (.cells (pthC (.mk k w l)))) := (KsP.refl q st).new _
  have oc1 := new_at st (.cells (pthC (.mk k w l)))
  have oq1 : (st.new (.cells (pthC (.mk k w l)))).ob q = _ := (new_ne _ _ (by omega)).trans oq
  have n1 : (st.new (.cells (pthC (.mk k w l)))).n = st.n + 1 := by simp
  generalize st.new (.cells (pthC (.mk k w l))) = s1 at k1 oc1 oq1 n1 ⊢
  have bx2 : ∀ (x : Int) (s : St) (K : V → St → Res), A.box (.int .i64 x) s K = K (.ptr s.n 0) (s.new (.cells [.int .i64 x])) := fun x s K => rfl
  have bx3 : ∀ (x : Nat) (s : St) (K : V → St → Res), A.box (.ptr x 0) s K = K (.ptr s.n 0) (s.new (.cells [.ptr x 0])) := fun x s K => rfl
  rw [bx2]
  have k2 : KsP q st (s1.new (.cells [.int .i64 (d : Nat)])) := k1.new _
  have oc2 : (s1.new (.cells [.int .i64 (d : Nat)])).ob st.n = _ := (new_ne _ _ (by omega)).trans oc1
  have oq2 : (s1.new (.cells [.int .i64 (d : Nat)])).ob q = _ := (new_ne _ _ (by omega)).trans oq1
  have oa2 := new_at s1 (.cells [.int .i64 (d : Nat)])
  have n2 : (s1.new (.cells [.int .i64 (d : Nat)])).n = s1.n + 1 := by simp
  generalize s1.new (.cells [.int .i64 (d : Nat)]) = s2 at k2 oc2 oq2 oa2 n2 ⊢
  rw [bx3]
  have k3 : KsP q st (s2.new (.cells [.ptr q 0])) := k2.new _
  have oc3 : (s2.new (.cells [.ptr q 0])).ob st.n = _ := (new_ne _ _ (by omega)).trans oc2
  have oq3 : (s2.new (.cells [.ptr q 0])).ob q = _ := (new_ne _ _ (by omega)).trans oq2
  have oa3 : (s2.new (.cells [.ptr q 0])).ob s1.n = _ := (new_ne _ _ (by omega)).trans oa2
  have ob3 := new_at s2 (.cells [.ptr q 0])
  have n3 : (s2.new (.cells [.ptr q 0])).n = s2.n + 1 := by simp
  generalize s2.new (.cells [.ptr q 0]) = s3 at k3 oc3 oq3 oa3 ob3 n3 ⊢
  have lk : ∀ K : V → St → Res, A.load false 1 (.ptr st.n 0) s3 K = K (.int .i64 k) s3 := fun K => by rw [load_ob, oc3]; rfl
  have ll : ∀ K : V → St → Res, A.load false 1 (.ptr st.n 2) s3 K = K (.lst (l.map Pth.v) 0) s3 := fun K => by rw [load_ob, oc3]; rfl
  have lb : ∀ (s : St), s.ob s2.n = s3.ob s2.n → ∀ K : V → St → Res, A.load false 1 (.ptr s2.n 0) s K = K (.ptr q 0) s := fun s hs K => by rw [load_ob, hs, ob3]; rfl
  have la : ∀ (s : St), s.ob s1.n = s3.ob s1.n → ∀ K : V → St → Res, A.load false 1 (.ptr s1.n 0) s K = K (.int .i64 (d : Nat)) s := fun s hs K => by rw [load_ob, hs, oa3]; rfl
  have lq : ∀ K : V → St → Res, A.load false 1 (.ptr q 0) s3 K = K (.int .i64 left) s3 := fun K => by rw [load_ob, oq3]; rfl
  simp only [faddr_ptr, Nat.zero_add, ll, lenL_lst, List.length_map, lk]
  unfold g43b11101
  rw [eql_int, if_neg Bool.false_ne_true]
  by_cases hk1 : k = 1
  · -- a word
    rw [show (k == 1) = true from by rw [hk1]; rfl, cond_true, lb s3 rfl, nilc_ptr, lq, bin_sub _ (by omega) (by omega), nilc_ptr]
    have so : ∀ K : St → Res, A.store 1 (.ptr q 0) (.int .i64 (left - 1)) s3 K = K (s3.put q (.cells [.int .i64 (left - 1)])) := fun K => by rw [store_ob _ _ _ _ _ rfl, oq3]; rfl
    rw [so]
    have o4a : (s3.put q (.cells [.int .i64 (left - 1)])).ob s1.n = s3.ob s1.n := put_ne _ _ (by omega)
    have o4b : (s3.put q (.cells [.int .i64 (left - 1)])).ob s2.n = s3.ob s2.n := put_ne _ _ (by omega)
    have o4c : (s3.put q (.cells [.int .i64 (left - 1)])).ob st.n = _ := (put_ne _ _ (by omega)).trans oc3
    have o4q := put_at s3 q (.cells [.int .i64 (left - 1)])
    have k4 := k3.putP (.cells [.int .i64 (left - 1)])
    generalize s3.put q (.cells [.int .i64 (left - 1)]) = s4 at o4a o4b o4c o4q k4 ⊢
    have lq4 : ∀ K : V → St → Res, A.load false 1 (.ptr q 0) s4 K = K (.int .i64 (left - 1)) s4 := fun K => by rw [load_ob, o4q]; rfl
    have lw4 : ∀ K : V → St → Res, A.load false 1 (.ptr st.n 1) s4 K = K (.str w) s4 := fun K => by rw [load_ob, o4c]; rfl
    rw [la s4 o4a, bin_gtr]
    have bad : ¬ (0 < d ∧ l.length = 0 ∧ isWord w = true ∧ 0 ≤ left - 1) → FitR q st false ((Pth.mk k w l).fitsP d left) (some (.ret ((.bool false : V).er1), s4)) := fun h => by
      rw [fits_eq, if_pos hk1, if_neg h]
      exact ⟨s4, left - 1, rfl, k4, o4q, fun z hz => by cases hz⟩
    by_cases hd0 : 0 < d
    · rw [decide_eq_true (show (0 : Int) < (d : Int) by omega), guard_tt, eql_int, if_neg Bool.false_ne_true]
      unfold g43b1110101010_7
      by_cases hl0 : l.length = 0
      · rw [show (((l.length : Nat) : Int) == 0) = true from by rw [hl0]; rfl, guard_tt]
        simp only [faddr_ptr, Nat.zero_add, lw4, er1_str, word_s, ret_ret]
        cases hw : isWord w with
        | false => rw [guard_ft]; exact bad (fun h => by rw [h.2.2.1] at hw; cases hw)
        | true =>
          rw [guard_tt]
          simp only [lb s4 o4b, nilc_ptr, lq4, bin_geq, er1_bool]
          rw [fits_eq, if_pos hk1]
          by_cases hx : 0 ≤ left - 1
          · rw [if_pos ⟨hd0, hl0, hw, hx⟩]
            exact ⟨s4, left - 1, by rw [decide_eq_true hx]; rfl, k4, o4q, fun z hz => by cases hz; rfl⟩
          · rw [if_neg (fun h => hx h.2.2.2)]
            exact ⟨s4, left - 1, by rw [decide_eq_false hx]; rfl, k4, o4q, fun z hz => by cases hz⟩
      · rw [show (((l.length : Nat) : Int) == 0) = false from by rw [beq_eq_false_iff_ne]; omega, guard_ft]
        exact bad (fun h => hl0 h.2.1)
    · rw [decide_eq_false (show ¬ ((0 : Int) < (d : Int)) by omega), guard_ft]
      unfold g43b1110101010_7
      rw [guard_ft]
      exact bad (fun h => hd0 h.1)
  · rw [show (k == 1) = false from beq_eq_false_iff_ne.2 hk1, cond_false]
    have tail : ∀ ok : Bool, ok = ((k == 2 || k == 3) && decide (2 ≤ l.length) || (k == 4 || (k == 5 || k == 6)) && l.length == 1) → FitR q st false ((Pth.mk k w l).fitsP d left) (g43b1111 R (.ptr st.n 0) (.ptr s1.n 0) (.ptr s2.n 0) (.bool ok) s3) := fun ok hok =>
      fits_tail hk1 h0 h1 hd hl (fun hd0 s ks oqs oas obs hns hbs => hR s1.n s2.n hd0 s ks oqs oas obs hns hbs (by omega) (by omega)) k3 oc3 oa3 ob3 oq3 (by omega) (by omega) ok hok
    have e1 : (((l.length : Nat) : Int) == 1) = (l.length == 1) := by
      by_cases h : l.length = 1
      · rw [h]; rfl
      · rw [beq_eq_false_iff_ne.2 h, beq_eq_false_iff_ne]; omega
    have more : ∀ c : Bool, (c = true ↔ k = 2 ∨ k = 3) → FitR q st false ((Pth.mk k w l).fitsP d left) (g43b111010111 R (.ptr st.n 0) (.ptr s1.n 0) (.ptr s2.n 0) (.int .i64 (l.length : Nat)) (.bool false) (.int .i64 k) (.bool c) s3) := fun c hc => by
      unfold g43b111010111
      cases c with
      | true =>
        have h23 := hc.1 rfl
        rw [cond_true, bin_geq]
        refine tail _ ?_
        have e2 : decide ((2 : Int) ≤ ((l.length : Nat) : Int)) = decide (2 ≤ l.length) := by
          by_cases h : 2 ≤ l.length
          · rw [decide_eq_true h, decide_eq_true (by omega)]
          · rw [decide_eq_false h, decide_eq_false (by omega)]
        rw [e2]
        rcases h23 with rfl | rfl <;> simp
      | false =>
        have h2 : k ≠ 2 := fun h => by have := hc.2 (.inl h); cases this
        have h3 : k ≠ 3 := fun h => by have := hc.2 (.inr h); cases this
        rw [cond_false, eql_int, if_neg Bool.false_ne_true]
        by_cases h4 : k = 4
        · rw [show (k == 4) = true from by rw [h4]; rfl, cond_true, cond_true, eql_int, if_neg Bool.false_ne_true, e1]
          refine tail _ ?_
          subst h4; simp
        rw [show (k == 4) = false from beq_eq_false_iff_ne.2 h4, cond_false, eql_int, if_neg Bool.false_ne_true]
        by_cases h5 : k = 5
        · rw [show (k == 5) = true from by rw [h5]; rfl, cond_true, cond_true, eql_int, if_neg Bool.false_ne_true, e1]
          refine tail _ ?_
          subst h5; simp
        rw [show (k == 5) = false from beq_eq_false_iff_ne.2 h5, cond_false, eql_int, if_neg Bool.false_ne_true]
        by_cases h6 : k = 6
        · rw [show (k == 6) = true from by rw [h6]; rfl, cond_true, eql_int, if_neg Bool.false_ne_true, e1]
          refine tail _ ?_
          subst h6; simp
        rw [show (k == 6) = false from beq_eq_false_iff_ne.2 h6, cond_false]
        refine tail _ ?_
        rw [beq_eq_false_iff_ne.2 h2, beq_eq_false_iff_ne.2 h3, beq_eq_false_iff_ne.2 h4, beq_eq_false_iff_ne.2 h5, beq_eq_false_iff_ne.2 h6]; rfl
    rw [eql_int, if_neg Bool.false_ne_true]
    by_cases h2 : k = 2
    · rw [show (k == 2) = true from by rw [h2]; rfl, cond_true]
      exact more true (by simp [h2])
    · rw [show (k == 2) = false from beq_eq_false_iff_ne.2 h2, cond_false, eql_int, if_neg Bool.false_ne_true]
      refine more _ ?_
      rw [beq_iff_eq]
      exact ⟨.inr, fun h => h.resolve_left h2⟩
theorem fits_n : ∀ (d n : Nat), 4 * d ≤ n → d ≤ 1000 → ∀ (p : Pth) (q : Nat) (left : Int) (st : St), p.nd ≤ 1000000 → 0 ≤ left → left ≤ 1000 → st.ob q = some (.cells [.int .i64 left]) → q < st.n →
    FitR q st false (p.fitsP d left) (G43 (n + 1) 43 [p.v, .int .i64 (d : Nat), .ptr q 0] st)
  | 0, n, hn, hd, p, q, left, st, hp, h0, h1, oq, hq => by
    rw [G43_43_eq]
    have hkl : p.kids.length ≤ 1000000 := by
      obtain ⟨k, w, l⟩ := p
      rw [nd_eq] at hp
      have := ndl_len l
      show l.length ≤ _; omega
    exact fits_s1 h0 h1 (by omega) (by omega) (fun a b h => absurd h (by omega)) oq hq
  | d + 1, n, hn, hd, p, q, left, st, hp, h0, h1, oq, hq => by
    obtain ⟨m, rfl⟩ : ∃ m, n = m + 4 := ⟨n - 4, by omega⟩
    rw [G43_43_eq]
    have hkl : Pth.ndl p.kids ≤ 1000000 := by
      obtain ⟨k, w, l⟩ := p
      rw [nd_eq] at hp
      show Pth.ndl l ≤ _; omega
    have hkl2 := ndl_len p.kids
    refine fits_s1 h0 h1 (by omega) (by omega) (fun a b _ s ks oqs oas obs ha hb hna hnb => ?_) oq hq
    have hqs : q < s.n := by have := ks.n; omega
    rw [show d + 1 - 1 = d from rfl, G43_76_eq]
    unfold f76
    rw [er1_lst, show (V.fn 77 [] [.ptr a 0, .ptr b 0]).er1 = .fn 77 [] [.ptr a 0, .ptr b 0] from rfl, G43_93_eq]
    unfold f93
    rw [lenL_lst, List.length_map]
    obtain ⟨r, s2, y, q2, hr, k2, o2, hy⟩ := idx_kids (R := G43 (m + 2)) (d := d) (q := q) (a := a) (b := b) p.kids 0 (by omega) (st0 := s) hqs ha hb (by omega) (by omega) (fun pk hpk sx lx hx0 hx1 oqx hqx oax obx hnx => by
      have hm := ndl_mem hpk
      rw [G43_77_eq]
      unfold f77
      have bx : ∀ K : V → St → Res, A.box pk.v sx K = K (.ptr sx.n 0) (sx.new (.cells (pthC pk))) := fun K => by rw [pth_c]; rfl
      rw [bx]
      have o1 := new_at sx (.cells (pthC pk))
      have oq1 : (sx.new (.cells (pthC pk))).ob q = _ := (new_ne _ _ (by omega)).trans oqx
      have oa1 : (sx.new (.cells (pthC pk))).ob a = _ := (new_ne _ _ (by omega)).trans (oax.trans oas)
      have ob1 : (sx.new (.cells (pthC pk))).ob b = _ := (new_ne _ _ (by omega)).trans (obx.trans obs)
      have k1 : KsP q sx (sx.new (.cells (pthC pk))) := (KsP.refl q sx).new _
      have n1 : (sx.new (.cells (pthC pk))).n = sx.n + 1 := by simp
      generalize sx.new (.cells (pthC pk)) = s5 at o1 oq1 oa1 ob1 k1 n1 ⊢
      have l1 : ∀ K : V → St → Res, A.load true 3 (.ptr sx.n 0) s5 K = K pk.v s5 := fun K => by rw [load_obA, o1, pth_c]; rfl
      have l2 : ∀ K : V → St → Res, A.load false 1 (.ptr a 0) s5 K = K (.int .i64 ((d + 1 : Nat) : Int)) s5 := fun K => by rw [load_ob, oa1]; rfl
      have l3 : ∀ K : V → St → Res, A.load false 1 (.ptr b 0) s5 K = K (.ptr q 0) s5 := fun K => by rw [load_ob, ob1]; rfl
      rw [l1, l2, bin_dec (d + 1) (by omega), show (((d + 1 : Nat) : Int) - 1) = ((d : Nat) : Int) from by omega, l3, pth_er, er1_int, er1_ptr]
      obtain ⟨s6, y, q6, k6, o6, hy⟩ := fits_n d m (by omega) (by omega) pk q lx s5 (by omega) hx0 hx1 oq1 (by omega)
      rw [q6, ret_ret, un_not, er1_bool]
      exact ⟨s6, y, rfl, k1.trans k6, o6, hy⟩) big 0 left s h0 h1 (by omega) (lt_big (by omega)) (KsP.refl q s) oqs
    rw [show (.int .i64 0 : V) = .int .i64 ((0 : Nat) : Int) from rfl, q2, ret_ret]
    rw [List.drop_zero] at hr hy
    refine ⟨s2, y, ?_, k2, o2, hy⟩
    rw [show (.int .i64 ((0 : Nat) : Int) : V) = .int .i64 0 from rfl, bin_geq, er1_bool, hr]; rfl
theorem fits_s (p : Pth) (q : Nat) (d : Nat) (hd : d ≤ 1000) (left : Int) (st : St) (hp : p.nd ≤ 1000000) (h0 : 0 ≤ left) (h1 : left ≤ 1000) (oq : st.ob q = some (.cells [.int .i64 left])) (hq : q < st.n) :
    FitR q st false (p.fitsP d left) (s43 [p.v, .int .i64 (d : Nat), .ptr q 0] st) := by
  rw [s43_n]
  obtain ⟨M, hM, hM2⟩ := big_succ
  rw [hM]
  exact fits_n d M (by omega) hd p q left st hp h0 h1 oq hq
end Go.Ab

/- sinew/query: paths as text, and as signs. -/
namespace Go.Ab
open Go.RowKit
set_option linter.unusedVariables false
set_option linter.unusedSimpArgs false
def tlL {α : Type} (sep : List α) : List (List α) → List α
  | [] => []
  | t :: ts => sep ++ (t ++ tlL sep ts)
def joinL {α : Type} (sep : List α) : List (List α) → List α
  | [] => []
  | t :: ts => t ++ tlL sep ts
structure Rend (α : Type) where
  word : List UInt8 → List α
  mark : UInt8 → α
def sgnB (k : Int) : UInt8 := if k = 4 then 42 else if k = 5 then 43 else 63
/-- Does a kid stand in brackets? -/
def wrap (m k : Int) : Bool := if m = 3 then k == 3 else if m = 2 then k == 3 || k == 2 else k != 1
def brk {α : Type} (R : Rend α) (b : Bool) (t : List α) : List α := if b = true then R.mark 40 :: (t ++ [R.mark 41]) else t
def Pth.rend {α : Type} (R : Rend α) : Pth → List α
  | .mk k w l => if k = 1 then R.word w else if k = 3 then joinL [R.mark 124] (rends R 3 l) else if k = 2 then joinL [R.mark 47] (rends R 2 l) else (rends R 4 l).headD [] ++ [R.mark (sgnB k)]
where rends {α : Type} (R : Rend α) (m : Int) : List Pth → List (List α)
  | [] => []
  | p :: l => brk R (wrap m p.kind) (p.rend R) :: rends R m l
abbrev Pth.rends {α : Type} := @Pth.rend.rends α
def kidR {α : Type} (R : Rend α) (m : Int) (p : Pth) : List α := brk R (wrap m p.kind) (p.rend R)
theorem rend_eq {α : Type} (R : Rend α) (k : Int) (w : List UInt8) (l : List Pth) : (Pth.mk k w l).rend R = if k = 1 then R.word w else if k = 3 then joinL [R.mark 124] (Pth.rends R 3 l) else if k = 2 then joinL [R.mark 47] (Pth.rends R 2 l) else (Pth.rends R 4 l).headD [] ++ [R.mark (sgnB k)] := rfl
theorem rends_map {α : Type} (R : Rend α) (m : Int) : ∀ l : List Pth, Pth.rends R m l = l.map (kidR R m)
  | [] => rfl
  | p :: l => by show kidR R m p :: Pth.rends R m l = _; rw [rends_map R m l]; rfl
/-- As text; as signs. -/
def RT : Rend UInt8 := ⟨id, id⟩
def RK : Rend Sg := ⟨fun w => [⟨1, w, 0⟩], fun b => ⟨3, [b], 0⟩⟩
abbrev Pth.text (p : Pth) : List UInt8 := p.rend RT
abbrev Pth.tk (p : Pth) : List Sg := p.rend RK
/-- Has a path kids as its kinds want them, and words? -/
def Pth.shP : Pth → Bool
  | .mk k w l => if k = 1 then l.isEmpty && isWord w else shape1 k w l.length && shPl l
where shPl : List Pth → Bool
  | [] => true
  | p :: l => p.shP && shPl l
abbrev Pth.shPl := Pth.shP.shPl
theorem shP_eq (k : Int) (w : List UInt8) (l : List Pth) : (Pth.mk k w l).shP = if k = 1 then l.isEmpty && isWord w else shape1 k w l.length && Pth.shPl l := rfl
theorem shPl_all : ∀ l : List Pth, Pth.shPl l = l.all Pth.shP
  | [] => rfl
  | p :: l => by show (p.shP && Pth.shPl l) = _; rw [shPl_all l]; rfl
/-- The kinds of a path that is well. -/
theorem shP_cases {k : Int} {w : List UInt8} {l : List Pth} (h : (Pth.mk k w l).shP = true) : (k = 1 ∧ l = [] ∧ isWord w = true) ∨ ((k = 2 ∨ k = 3) ∧ w = [] ∧ 2 ≤ l.length ∧ ∀ p ∈ l, p.shP = true) ∨ ((k = 4 ∨ k = 5 ∨ k = 6) ∧ w = [] ∧ ∃ q, l = [q] ∧ q.shP = true) := by
  rw [shP_eq] at h
  by_cases hk : k = 1
  · rw [if_pos hk, Bool.and_eq_true, List.isEmpty_iff] at h
    exact .inl ⟨hk, h⟩
  · rw [if_neg hk, Bool.and_eq_true, shPl_all, List.all_eq_true] at h
    obtain ⟨h1, h2⟩ := h
    unfold shape1 at h1
    simp only [Bool.and_eq_true, Bool.or_eq_true, beq_iff_eq, decide_eq_true_eq] at h1
    obtain ⟨h1 | h1, h3⟩ := h1
    · exact .inr (.inl ⟨h1.1, h3, h1.2, h2⟩)
    · obtain ⟨h1, h4⟩ := h1
      match l, h4 with
      | [q], _ => exact .inr (.inr ⟨h1, h3, q, rfl, h2 q (by simp)⟩)
mutual
theorem fits_iff : ∀ (p : Pth) (d : Nat) (left x : Int), 0 ≤ left → (p.fitsP d left = some x ↔ p.shP = true ∧ (p.pl : Int) ≤ left ∧ p.sz.2 ≤ d ∧ x = left - p.pl)
  | .mk k w l, d, left, x, h0 => by
    rw [fits_eq, shP_eq, pl_eq, sz_eq]
    by_cases hk : k = 1
    · rw [if_pos hk, if_pos hk, if_pos hk, Bool.and_eq_true, List.isEmpty_iff]
      simp only
      constructor
      · intro h
        split at h
        · rename_i hc
          obtain ⟨c1, c2, c3, c4⟩ := hc
          have hl : l = [] := List.length_eq_zero_iff.1 c2
          subst hl
          cases h
          exact ⟨⟨rfl, c3⟩, by omega, by rw [szl_nil]; simp only; omega, rfl⟩
        · cases h
      · rintro ⟨⟨rfl, h2⟩, h3, h4, rfl⟩
        rw [szl_nil] at h4
        simp only at h4
        rw [if_pos ⟨by omega, rfl, h2, by omega⟩]
        rfl
    · rw [if_neg hk, if_neg hk, if_neg hk, Bool.and_eq_true]
      simp only
      have ih := fitsL_iff l (d - 1) left x h0
      by_cases hs : shape1 k w l.length = true ∧ 0 < d
      · rw [if_pos hs, ih]
        constructor
        · rintro ⟨a, b, c, e⟩; exact ⟨⟨hs.1, a⟩, b, by omega, e⟩
        · rintro ⟨⟨_, a⟩, b, c, e⟩; exact ⟨a, b, by omega, e⟩
      · rw [if_neg hs]
        constructor
        · intro h; cases h
        · rintro ⟨⟨a, _⟩, _, c, _⟩; exact absurd ⟨a, by omega⟩ hs
theorem fitsL_iff : ∀ (l : List Pth) (d : Nat) (left x : Int), 0 ≤ left → (Pth.fitsL l d left = some x ↔ Pth.shPl l = true ∧ (Pth.pll l : Int) ≤ left ∧ (Pth.szl l).2 ≤ d ∧ x = left - Pth.pll l)
  | [], d, left, x, h0 => by
    rw [fitsL_nil, szl_nil, pll_nil]
    constructor
    · intro h; cases h; exact ⟨rfl, by omega, Nat.zero_le _, by omega⟩
    · rintro ⟨_, _, _, rfl⟩; simp
  | p :: l, d, left, x, h0 => by
    rw [fitsL_cons, szl_cons, pll_cons]
    show _ ↔ (p.shP && Pth.shPl l) = true ∧ _
    rw [Bool.and_eq_true]
    simp only
    cases hp : p.fitsP d left with
    | none =>
      constructor
      · intro h; cases h
      · rintro ⟨⟨a, b⟩, c, e, f⟩
        have := (fits_iff p d left (left - p.pl) h0).2 ⟨a, by omega, by omega, rfl⟩
        rw [hp] at this; cases this
    | some y =>
      obtain ⟨g1, g2, g3, g4⟩ := (fits_iff p d left y h0).1 hp
      have ih := fitsL_iff l d y x (by omega)
      show Pth.fitsL l d y = some x ↔ _
      rw [ih]
      constructor
      · rintro ⟨a, b, c, e⟩; exact ⟨⟨g1, a⟩, by omega, by omega, by omega⟩
      · rintro ⟨⟨_, a⟩, b, c, e⟩; exact ⟨a, by omega, by omega, by omega⟩
end
theorem fits_some (p : Pth) : (p.fitsP 12 24).isSome = true ↔ p.shP = true ∧ p.pl ≤ 24 ∧ p.sz.2 ≤ 12 := by
  rw [Option.isSome_iff_exists]
  constructor
  · rintro ⟨x, h⟩
    obtain ⟨a, b, c, _⟩ := (fits_iff p 12 24 x (by omega)).1 h
    exact ⟨a, by omega, c⟩
  · rintro ⟨a, b, c⟩
    exact ⟨_, (fits_iff p 12 24 (24 - p.pl) (by omega)).2 ⟨a, by omega, c, rfl⟩⟩
/-! how long -/
mutual
theorem text_len : ∀ p : Pth, p.shP = true → p.text.length + 3 ≤ 20 * p.nd
  | .mk k w l, h => by
    rw [Pth.text, rend_eq, nd_eq]
    rcases shP_cases h with ⟨rfl, rfl, hw⟩ | ⟨hk, rfl, hl, hq⟩ | ⟨hk, rfl, q, rfl, hq⟩
    · rw [if_pos rfl, ndl_nil]
      have := (isWord_some hw).2.1
      show w.length + 3 ≤ _; omega
    · have hk1 : k ≠ 1 := by rcases hk with rfl | rfl <;> decide
      rw [if_neg hk1]
      have key : ∀ m (b : UInt8), (joinL [RT.mark b] (Pth.rends RT m l)).length + 3 ≤ 20 * (Pth.ndl l + 1) := fun m b => by
        have := texts_len l m b (fun p hp => hq p hp)
        match l, hl with
        | p :: l, _ =>
          show (brk RT (wrap m p.kind) (p.rend RT) ++ tlL [RT.mark b] (Pth.rends RT m l)).length + 3 ≤ _
          have e : tlL [RT.mark b] (Pth.rends RT m (p :: l)) = [RT.mark b] ++ (brk RT (wrap m p.kind) (p.rend RT) ++ tlL [RT.mark b] (Pth.rends RT m l)) := rfl
          rw [e] at this
          simp only [List.length_append, List.length_cons, List.length_nil] at this ⊢
          omega
      split
      · exact key 3 124
      · rcases hk with rfl | rfl
        · rw [if_pos rfl]; exact key 2 47
        · rename_i h; exact absurd rfl h
    · have hk1 : k ≠ 1 ∧ k ≠ 3 ∧ k ≠ 2 := by rcases hk with rfl | rfl | rfl <;> decide
      rw [if_neg hk1.1, if_neg hk1.2.1, if_neg hk1.2.2, ndl_cons, ndl_nil]
      have : (q.rend RT).length + 3 ≤ 20 * q.nd := text_len q hq
      show (brk RT (wrap 4 q.kind) (q.rend RT) ++ [RT.mark (sgnB k)]).length + 3 ≤ _
      unfold brk
      split <;> simp only [List.length_append, List.length_cons, List.length_nil] <;> omega
theorem texts_len : ∀ (l : List Pth) (m : Int) (b : UInt8), (∀ p ∈ l, p.shP = true) → (tlL [RT.mark b] (Pth.rends RT m l)).length ≤ 20 * Pth.ndl l
  | [], m, b, h => by show 0 ≤ _; omega
  | p :: l, m, b, h => by
    have h1 : (p.rend RT).length + 3 ≤ 20 * p.nd := text_len p (h p (by simp))
    have h2 := texts_len l m b fun q hq => h q (by simp [hq])
    have e : tlL [RT.mark b] (Pth.rends RT m (p :: l)) = [RT.mark b] ++ (brk RT (wrap m p.kind) (p.rend RT) ++ tlL [RT.mark b] (Pth.rends RT m l)) := rfl
    rw [e, ndl_cons]
    unfold brk
    split <;> simp only [List.length_append, List.length_cons, List.length_nil] <;> omega
end
/-! the signs of the text -/
end Go.Ab

/- sinew/query: a path's signs are read as it is. -/
namespace Go.Ab
open Go.RowKit
set_option linter.unusedVariables false
set_option linter.unusedSimpArgs false
/-- None of these marks comes. -/
def NoMk (ms : List (List UInt8)) (rest : List Sg) : Prop := ∀ m ∈ ms, pIs m rest = none
def M0 : List (List UInt8) := [[42], [43], [63]]
def M1 : List (List UInt8) := [[42], [43], [63], [47]]
def M2 : List (List UInt8) := [[42], [43], [63], [47], [124]]
theorem NoMk.mark {ms : List (List UInt8)} {b : UInt8} {l : List Sg} (h : ms.contains [b] = false) : NoMk ms (⟨3, [b], 0⟩ :: l) := fun m hm => by
  rw [pIs, if_neg]
  rintro ⟨_, g⟩
  have : ms.contains [b] = true := List.contains_iff_mem.2 (by have : m = [b] := g.symm; rw [← this]; exact hm)
  rw [h] at this; cases this
theorem NoMk.sub {ms ns : List (List UInt8)} {l : List Sg} (h : NoMk ms l) (k : ∀ m ∈ ns, m ∈ ms) : NoMk ns l := fun m hm => h m (k m hm)
theorem NoMk.other {ms : List (List UInt8)} {x : Sg} {l : List Sg} (h : x.k ≠ 3) : NoMk ms (x :: l) := fun m hm => by
  rw [pIs, if_neg]
  exact fun g => h g.1
/-- A path's parser on some paths. -/
def Reads (F : List Sg → PR Pth) (ms : List (List UInt8)) (t : List Sg) (q : Pth) : Prop := ∀ rest, NoMk ms rest → F (t ++ rest) = .ok q rest
/-- All smaller paths are read. -/
def HF (F : List Sg → PR Pth) (m : Nat) : Prop := ∀ q : Pth, q.shP = true → q.nd < m → Reads F M2 q.tk q
end Go.Ab

/- sinew/query: the walk of Check. -/
namespace Go.Ab
open Go.Proofs Go.RowKit
set_option linter.unusedVariables false
set_option linter.unusedSimpArgs false
set_option maxRecDepth 100000
theorem odd_v (s : List UInt8) (st : St) : s41 [.str s] st = some (.ret (.bool (!isWord s)), st) := by
  rw [s41_eq]
  unfold f41
  rw [er1_str, word_s, ret_ret, un_not]; rfl
theorem idx_vs (vs : List (List UInt8)) (t : Nat) (hl : vs.length ≤ 1000000000) (st : St) : ∀ (n i : Nat), i ≤ vs.length → vs.length < n + i →
    ∃ (r : Int), g75b1010 n (.lst (strsV vs) t) (.fn 41 [] []) (.int .i64 (vs.length : Nat)) (.int .i64 (i : Nat)) st = some (.ret (.int .i64 r), st) ∧ decide (0 ≤ r) = !(vs.drop i).all isWord := by
  intro n
  induction n with
  | zero => intro i hi hn; omega
  | succ n ih =>
    intro i hi hn
    rw [g75b1010]
    simp only [bin_lss]
    by_cases hil : i < vs.length
    · have e4 : ∀ K, A.bin .add (.int .i64 (i : Nat)) (.int .i64 1) K = K (.int .i64 ((i + 1 : Nat) : Int)) := fun K => bin_inc (by omega) K
      have call : ∀ (v : V) (s : St) K, A.call g75T (.fn 41 [] []) [v] s K = A.ret (s41 [v.er1] s) K := fun v s K => rfl
      simp only [show ((i : Int) < (vs.length : Int)) from by omega, decide_true, cond_true, iaddr_strs t hil, load_l1', call, er1_str, odd_v, ret_ret]
      rw [List.drop_eq_getElem_cons hil, List.all_cons]
      cases h : isWord vs[i] with
      | false => exact ⟨i, rfl, by rw [decide_eq_true (by omega)]; rfl⟩
      | true =>
        rw [Bool.not_true, cond_false, e4, Bool.true_and]
        exact ih (i + 1) (by omega) (by omega)
    · have : i = vs.length := by omega
      subst this
      simp only [Int.lt_irrefl, decide_false, cond_false, List.drop_length]
      exact ⟨-1, rfl, rfl⟩
theorem anyodd_v (vs : List (List UInt8)) (t : Nat) (hl : vs.length ≤ 1000000000) (st : St) : s42 [.lst (strsV vs) t, .fn 41 [] []] st = some (.ret (.bool (!vs.all isWord)), st) := by
  rw [s42_eq]
  unfold f42
  rw [er1_lst, show (V.fn 41 [] []).er1 = .fn 41 [] [] from rfl, s75_eq]
  unfold f75
  rw [lenL_lst, strsV_len]
  obtain ⟨r, q, hr⟩ := idx_vs vs t hl st big 0 (by omega) (lt_big (by omega))
  rw [show (.int .i64 0 : V) = .int .i64 ((0 : Nat) : Int) from rfl, q, ret_ret]
  rw [List.drop_zero] at hr
  rw [show (.int .i64 ((0 : Nat) : Int) : V) = .int .i64 0 from rfl, bin_geq, er1_bool, hr]
/-- May an atom be? -/
def okAt (a : AtP) : Bool := isWord a.s.n && (isWord a.o.n && (a.p.fitsP 12 24).isSome)
/-- May a request be? -/
def okAll (r : Rq) : Bool :=
  if r.kind = 2 then r.vars.length + r.atoms.length == 0 && okB r.ch
  else if r.kind = 1 then r.ch.length == 0 && (decide (0 < r.vars.length) && (decide (0 < r.atoms.length) && (decide (r.vars.length ≤ 6) && (decide (r.atoms.length ≤ 6) && (r.vars.all isWord && (r.atoms.all okAt && whyP r == 0))))))
  else false
/-- The atoms one by one. -/
theorem check_loop {c : Nat} {r : Rq} {st0 : St} (hc : c < st0.n) (oc : st0.ob c = some (.cells (rqC r))) (hw : okW r) : ∀ (n i : Nat) (ok : Bool) (st : St), i ≤ r.atoms.length → r.atoms.length < n + i → Ks st0 st →
    ∃ st', g19b111010111011010 n (.ptr c 0) (.bool ok) (.fn 41 [] []) (.lst (r.atoms.map atpV) 0) (.int .i64 (r.atoms.length : Nat)) (.int .i64 (i : Nat)) st = some (.ret (.int .i64 (if (ok && ((r.atoms.drop i).all okAt && whyP r == 0)) = true then 0 else 1)), st') ∧ Ks st0 st' := by
  intro n
  induction n with
  | zero => intro i ok st hi hn; omega
  | succ n ih =>
    intro i ok st hi hn hk
    have kn := hk.n
    rw [g19b111010111011010]
    simp only [bin_lss]
    by_cases hil : i < r.atoms.length
    · have e4 : ∀ K, A.bin .add (.int .i64 (i : Nat)) (.int .i64 1) K = K (.int .i64 ((i + 1 : Nat) : Int)) := fun K => bin_inc (by have := hw.2.1; omega) K
      have ld : ∀ (s : St) K, A.load true 7 (.lptr (atpC r.atoms[i])) s K = K (.agg (atpC r.atoms[i])) s := fun s K => by rw [load_lptrA]; rfl
      simp only [show ((i : Int) < (r.atoms.length : Int)) from by omega, decide_true, cond_true, iaddr_atp 0 hil, ld, bx_atp]
      rw [sv_all 7 _ (new_at _ _) rfl rfl rfl]
      have k2 : Ks st0 ((st.new (.cells [(.bool false), (.str []), (.int .i64 0), (.str []), (.lst [] 1), (.bool false), (.str [])])).put st.n (.cells (atpC r.atoms[i]))) := (hk.new _).put hk.n _
      have o2 := put_at (st.new (.cells [(.bool false), (.str []), (.int .i64 0), (.str []), (.lst [] 1), (.bool false), (.str [])])) st.n (.cells (atpC r.atoms[i]))
      have n2 : ((st.new (.cells [(.bool false), (.str []), (.int .i64 0), (.str []), (.lst [] 1), (.bool false), (.str [])])).put st.n (.cells (atpC r.atoms[i]))).n = st.n + 1 := by simp
      generalize (st.new (.cells [(.bool false), (.str []), (.int .i64 0), (.str []), (.lst [] 1), (.bool false), (.str [])])).put st.n (.cells (atpC r.atoms[i])) = s2 at k2 o2 n2 ⊢
      have bx1 : ∀ K : V → St → Res, A.box (.int .i64 0) s2 K = K (.ptr s2.n 0) (s2.new (.cells [.int .i64 0])) := fun K => rfl
      have so1 : ∀ K : St → Res, A.store 1 (.ptr s2.n 0) (.int .i64 24) (s2.new (.cells [.int .i64 0])) K = K ((s2.new (.cells [.int .i64 0])).put s2.n (.cells [.int .i64 24])) := fun K => by rw [store_ob _ _ _ _ _ rfl, new_at]; rfl
      rw [bx1, so1]
      have k3 : Ks st0 ((s2.new (.cells [.int .i64 0])).put s2.n (.cells [.int .i64 24])) := (k2.new _).put (by omega) _
      have o3 : ((s2.new (.cells [.int .i64 0])).put s2.n (.cells [.int .i64 24])).ob st.n = _ := (put_ne _ _ (by omega)).trans ((new_ne _ _ (by omega)).trans o2)
      have q3 := put_at (s2.new (.cells [.int .i64 0])) s2.n (.cells [.int .i64 24])
      have n3 : ((s2.new (.cells [.int .i64 0])).put s2.n (.cells [.int .i64 24])).n = s2.n + 1 := by simp
      generalize (s2.new (.cells [.int .i64 0])).put s2.n (.cells [.int .i64 24]) = s3 at k3 o3 q3 n3 ⊢
      have w1 : ∀ K : V → St → Res, A.load false 1 (.ptr st.n 1) s3 K = K (.str r.atoms[i].s.n) s3 := fun K => by rw [load_ob, o3]; rfl
      have w6 : ∀ K : V → St → Res, A.load false 1 (.ptr st.n 6) s3 K = K (.str r.atoms[i].o.n) s3 := fun K => by rw [load_ob, o3]; rfl
      have w2 : ∀ K : V → St → Res, A.load true 3 (.ptr st.n 2) s3 K = K (r.atoms[i].p).v s3 := fun K => by rw [load_obA, o3, pth_c]; rfl
      have call : ∀ (v : V) (s : St) K, A.call g19T (.fn 41 [] []) [v] s K = A.ret (s41 [v.er1] s) K := fun v s K => rfl
      obtain ⟨b1, b2, b3⟩ := hw.2.2.2 r.atoms[i] (List.getElem_mem hil)
      have hd : ((r.atoms.drop i).all okAt) = (okAt r.atoms[i] && (r.atoms.drop (i + 1)).all okAt) := by rw [List.drop_eq_getElem_cons hil, List.all_cons]
      rw [hd]
      have t18 : ∀ v : Bool, ∃ st', g19b1110101110110100110011_18 (g19b111010111011010 n) (.ptr c 0) (.fn 41 [] []) (.ptr st.n 0) (.ptr s2.n 0) (.lst (r.atoms.map atpV) 0) (.int .i64 (r.atoms.length : Nat)) (.int .i64 (i : Nat)) (.bool v) s3 = some (.ret (.int .i64 (if ((v && (r.atoms[i].p.fitsP 12 24).isSome) && ((r.atoms.drop (i + 1)).all okAt && whyP r == 0)) = true then 0 else 1)), st') ∧ Ks st0 st' := fun v => by
        unfold g19b1110101110110100110011_18
        cases v with
        | false =>
          rw [guard_ft, e4]
          obtain ⟨st', r1, r2⟩ := ih (i + 1) false s3 (by omega) (by omega) k3
          exact ⟨st', r1, r2⟩
        | true =>
          rw [guard_tt, faddr_ptr, Nat.zero_add, w2, pth_er, er1_int, er1_ptr]
          obtain ⟨s4, y, q4, k4, o4, _⟩ := fits_s r.atoms[i].p s2.n 12 (by omega) 24 s3 b3 (by omega) (by omega) q3 (by omega)
          rw [show (.int .i64 12 : V) = .int .i64 ((12 : Nat) : Int) from rfl, q4, ret_ret, e4]
          have k34 : Ks st0 s4 := ⟨fun j hj => (k4.ob j (by omega) (by omega)).trans (k3.ob j hj), by have := k4.n; omega, Nat.le_trans k3.nt k4.nt, fun t ht => (k4.tk t (Nat.lt_of_lt_of_le ht k3.nt)).trans (k3.tk t ht)⟩
          obtain ⟨st', r1, r2⟩ := ih (i + 1) (r.atoms[i].p.fitsP 12 24).isSome s4 (by omega) (by omega) k34
          exact ⟨st', r1, r2⟩
      have t10 : ∀ v : Bool, ∃ st', g19b1110101110110100110011_10 (g19b111010111011010 n) (.ptr c 0) (.fn 41 [] []) (.ptr st.n 0) (.ptr s2.n 0) (.lst (r.atoms.map atpV) 0) (.int .i64 (r.atoms.length : Nat)) (.int .i64 (i : Nat)) (.bool v) s3 = some (.ret (.int .i64 (if ((v && (isWord r.atoms[i].o.n && (r.atoms[i].p.fitsP 12 24).isSome)) && ((r.atoms.drop (i + 1)).all okAt && whyP r == 0)) = true then 0 else 1)), st') ∧ Ks st0 st' := fun v => by
        unfold g19b1110101110110100110011_10
        cases v with
        | false => rw [guard_ft]; exact t18 false
        | true =>
          rw [guard_tt]
          simp only [faddr_ptr, Nat.zero_add, w6, call, er1_str, odd_v, ret_ret, un_not, Bool.not_not, Bool.true_and]
          exact t18 _
      cases ok with
      | false => rw [guard_ft]; exact t10 false
      | true =>
        rw [guard_tt]
        simp only [faddr_ptr, Nat.zero_add, w1, call, er1_str, odd_v, ret_ret, un_not, Bool.not_not, Bool.true_and]
        obtain ⟨st', r1, r2⟩ := t10 (isWord r.atoms[i].s.n)
        refine ⟨st', ?_, r2⟩
        rw [r1, Bool.and_assoc (okAt r.atoms[i])]; rfl
    · have : i = r.atoms.length := by omega
      subst this
      simp only [Int.lt_irrefl, decide_false, cond_false, List.drop_length, List.all_nil, Bool.true_and]
      have o := (hk.ob c hc).trans oc
      cases ok with
      | false => rw [guard_ft]; exact ⟨st, rfl, hk⟩
      | true =>
        have ld : ∀ K : V → St → Res, A.load true 4 (.ptr c 0) st K = K (rqV r) st := fun K => by rw [load_obA, o]; rfl
        rw [guard_tt, ld, show (rqV r).er1 = rqV r from rfl, why_s hw, ret_ret, eql_int, if_neg Bool.false_ne_true]
        unfold g19b1111
        cases h : (whyP r == 0) with
        | true => exact ⟨st, rfl, hk⟩
        | false => exact ⟨st, rfl, hk⟩
theorem check_s {r : Rq} (hw : okW r) (st : St) : s19 [rqV r] st = some (.ret (.int .i64 (if okAll r = true then 0 else 1)), st) := by
  rw [s19_eq]
  have main : ∃ st', f19 (rqV r) st = some (.ret (.int .i64 (if okAll r = true then 0 else 1)), st') ∧ Ks st st' := by
    unfold f19
    have bx : ∀ K : V → St → Res, A.box (rqV r) st K = K (.ptr st.n 0) (st.new (.cells (rqC r))) := fun K => rfl
    rw [bx]
    have o1 := new_at st (.cells (rqC r))
    have k1 : Ks st (st.new (.cells (rqC r))) := (Ks.refl st).new _
    have n1 : (st.new (.cells (rqC r))).n = st.n + 1 := rfl
    generalize st.new (.cells (rqC r)) = s1 at o1 k1 n1 ⊢
    have ld2 : ∀ K : V → St → Res, A.load true 2 (.ptr st.n 1) s1 K = K (.agg (qC r.vars 0 r.atoms 0)) s1 := fun K => by rw [load_obA, o1]; rfl
    have bx2 : ∀ K : V → St → Res, A.box (.agg [(.lst [] 1), (.lst [] 1)]) s1 K = K (.ptr s1.n 0) (s1.new (.cells [.lst [] 1, .lst [] 1])) := fun K => rfl
    rw [faddr_ptr, Nat.zero_add, ld2, bx2, sv_all 2 _ (new_at _ _) rfl rfl rfl]
    have k2 : Ks st ((s1.new (.cells [.lst [] 1, .lst [] 1])).put s1.n (.cells (qC r.vars 0 r.atoms 0))) := (k1.new _).put (by omega) _
    have o2 := put_at (s1.new (.cells [.lst [] 1, .lst [] 1])) s1.n (.cells (qC r.vars 0 r.atoms 0))
    have o12 : ((s1.new (.cells [.lst [] 1, .lst [] 1])).put s1.n (.cells (qC r.vars 0 r.atoms 0))).ob st.n = some (.cells (rqC r)) := by rw [put_ne _ _ (by omega), new_ne _ _ (by omega)]; exact o1
    have n2 : ((s1.new (.cells [.lst [] 1, .lst [] 1])).put s1.n (.cells (qC r.vars 0 r.atoms 0))).n = s1.n + 1 := by simp
    generalize (s1.new (.cells [.lst [] 1, .lst [] 1])).put s1.n (.cells (qC r.vars 0 r.atoms 0)) = s2 at k2 o2 o12 n2 ⊢
    obtain ⟨w0, _, _, w3⟩ := rq_load o12
    have y0 : ∀ K : V → St → Res, A.load false 1 (.ptr s1.n 0) s2 K = K (.lst (strsV r.vars) 0) s2 := fun K => by rw [load_ob, o2]; rfl
    have y1 : ∀ K : V → St → Res, A.load false 1 (.ptr s1.n 1) s2 K = K (.lst (r.atoms.map atpV) 0) s2 := fun K => by rw [load_ob, o2]; rfl
    simp only [faddr_ptr, Nat.zero_add, w0, eql_int, Bool.false_eq_true, if_false]
    unfold g19b1110101
    obtain ⟨hv, ha, hch, _⟩ := hw
    have hw' : okW r := ⟨hv, ha, hch, by assumption⟩
    have no : ∀ {s : St}, Ks st s → ∃ st', g19b1111 (.bool false) s = some (.ret (.int .i64 1), st') ∧ Ks st st' := fun {s} k => ⟨s, rfl, k⟩
    unfold okAll
    by_cases hk2 : r.kind = 2
    · rw [show (r.kind == 2) = true from by rw [hk2]; rfl, cond_true, if_pos hk2]
      simp only [faddr_ptr, Nat.zero_add, y0, y1, lenL_lst, List.length_map, strsV_len]
      rw [bin_addN r.vars.length r.atoms.length _ (by omega)]
      simp only [eql_int, Bool.false_eq_true, if_false]
      have e0 : (((r.vars.length + r.atoms.length : Nat) : Int) == 0) = (r.vars.length + r.atoms.length == 0) := by
        cases hz : (r.vars.length + r.atoms.length == 0) with
        | true => rw [beq_iff_eq] at hz ⊢; omega
        | false => rw [beq_eq_false_iff_ne] at hz ⊢; omega
      rw [e0]
      unfold g19b111010101_9
      cases hz : (r.vars.length + r.atoms.length == 0) with
      | false =>
        rw [guard_ft]
        unfold g19b111010101_15
        rw [guard_ft]
        unfold g19b111010101_21
        rw [guard_ft]
        exact no k2
      | true =>
        rw [guard_tt]
        simp only [faddr_ptr, Nat.zero_add, w3, lenL_lst, List.length_map, bin_gtr, Bool.true_and]
        unfold g19b111010101_15 okB
        by_cases h1 : 0 < r.ch.length
        case neg =>
          rw [decide_eq_false (show ¬ ((0 : Int) < (r.ch.length : Int)) by omega), guard_ft, decide_eq_false h1]
          unfold g19b111010101_21
          rw [guard_ft]
          exact no k2
        rw [decide_eq_true (show ((0 : Int) < (r.ch.length : Int)) by omega), guard_tt, decide_eq_true h1, Bool.true_and]
        simp only [faddr_ptr, Nat.zero_add, w3, lenL_lst, List.length_map, bin_leq]
        unfold g19b111010101_21
        by_cases h2 : r.ch.length ≤ 64
        case neg =>
          rw [decide_eq_false (show ¬ ((r.ch.length : Int) ≤ 64) by omega), guard_ft, decide_eq_false h2]
          exact no k2
        rw [decide_eq_true (show ((r.ch.length : Int) ≤ 64) by omega), guard_tt, decide_eq_true h2, Bool.true_and]
        obtain ⟨s3, q3, k3⟩ := anyodd_ch r.ch 0 (by omega) s2
        simp only [faddr_ptr, Nat.zero_add, w3, er1_lst, er1_fn, q3, ret_ret, un_not, Bool.not_not]
        unfold g19b1111
        cases h3 : r.ch.all okCh with
        | true => exact ⟨s3, rfl, k2.trans k3⟩
        | false => exact ⟨s3, rfl, k2.trans k3⟩
    · rw [show (r.kind == 2) = false from beq_eq_false_iff_ne.2 hk2, cond_false, if_neg hk2, eql_int, if_neg Bool.false_ne_true]
      by_cases hk1 : r.kind = 1
      case neg =>
        rw [show (r.kind == 1) = false from beq_eq_false_iff_ne.2 hk1, cond_false, if_neg hk1]
        exact no k2
      rw [show (r.kind == 1) = true from by rw [hk1]; rfl, cond_true, if_pos hk1]
      simp only [faddr_ptr, Nat.zero_add, w3, lenL_lst, List.length_map, eql_int, Bool.false_eq_true, if_false]
      have e0 : ((r.ch.length : Int) == 0) = (r.ch.length == 0) := by
        cases hz : (r.ch.length == 0) with
        | true => rw [beq_iff_eq] at hz ⊢; omega
        | false => rw [beq_eq_false_iff_ne] at hz ⊢; omega
      rw [e0]
      have edg : ∀ a b : Nat, decide ((a : Int) < (b : Int)) = decide (a < b) := fun a b => by by_cases h : a < b; rw [decide_eq_true h, decide_eq_true (by omega)]; rw [decide_eq_false h, decide_eq_false (by omega)]
      have edl : ∀ a b : Nat, decide ((a : Int) ≤ (b : Int)) = decide (a ≤ b) := fun a b => by by_cases h : a ≤ b; rw [decide_eq_true h, decide_eq_true (by omega)]; rw [decide_eq_false h, decide_eq_false (by omega)]
      -- from the end
      have t0 : ∀ ok : Bool, ∃ st', g19b111010111011 (.ptr st.n 0) (.bool ok) (.ptr s1.n 0) (.fn 41 [] []) s2 = some (.ret (.int .i64 (if (ok && (r.atoms.all okAt && whyP r == 0)) = true then 0 else 1)), st') ∧ Ks st st' := fun ok => by
        unfold g19b111010111011
        simp only [faddr_ptr, Nat.zero_add, y1, lenL_lst, List.length_map]
        obtain ⟨st', r1, r2⟩ := check_loop (st0 := s2) (by omega) o12 hw' big 0 ok s2 (by omega) (lt_big (by omega)) (Ks.refl s2)
        rw [List.drop_zero] at r1
        exact ⟨st', r1, k2.trans r2⟩
      have t29 : ∀ v : Bool, ∃ st', g19b111010111010_29 (.ptr st.n 0) (.ptr s1.n 0) (.fn 41 [] []) (.bool v) s2 = some (.ret (.int .i64 (if (v && (r.vars.all isWord && (r.atoms.all okAt && whyP r == 0))) = true then 0 else 1)), st') ∧ Ks st st' := fun v => by
        unfold g19b111010111010_29
        cases v with
        | false => rw [guard_ft]; exact t0 false
        | true =>
          rw [guard_tt]
          simp only [faddr_ptr, Nat.zero_add, y0, er1_lst, er1_fn, anyodd_v r.vars 0 (by omega) s2, ret_ret, un_not, Bool.not_not, Bool.true_and]
          exact t0 _
      have t23 : ∀ v : Bool, ∃ st', g19b111010111010_23 (.ptr st.n 0) (.ptr s1.n 0) (.fn 41 [] []) (.bool v) s2 = some (.ret (.int .i64 (if (v && (decide (r.atoms.length ≤ 6) && (r.vars.all isWord && (r.atoms.all okAt && whyP r == 0)))) = true then 0 else 1)), st') ∧ Ks st st' := fun v => by
        unfold g19b111010111010_23
        cases v with
        | false => rw [guard_ft]; exact t29 false
        | true =>
          rw [guard_tt]
          simp only [faddr_ptr, Nat.zero_add, y1, lenL_lst, List.length_map, bin_leq, Bool.true_and]
          have := t29 (decide (r.atoms.length ≤ 6))
          rw [← edl r.atoms.length 6] at this ⊢
          exact this
      have t17 : ∀ v : Bool, ∃ st', g19b111010111010_17 (.ptr st.n 0) (.ptr s1.n 0) (.fn 41 [] []) (.bool v) s2 = some (.ret (.int .i64 (if (v && (decide (r.vars.length ≤ 6) && (decide (r.atoms.length ≤ 6) && (r.vars.all isWord && (r.atoms.all okAt && whyP r == 0))))) = true then 0 else 1)), st') ∧ Ks st st' := fun v => by
        unfold g19b111010111010_17
        cases v with
        | false => rw [guard_ft]; exact t23 false
        | true =>
          rw [guard_tt]
          simp only [faddr_ptr, Nat.zero_add, y0, lenL_lst, strsV_len, bin_leq, Bool.true_and]
          have := t23 (decide (r.vars.length ≤ 6))
          rw [← edl r.vars.length 6] at this ⊢
          exact this
      have t11 : ∀ v : Bool, ∃ st', g19b111010111010_11 (.ptr st.n 0) (.ptr s1.n 0) (.fn 41 [] []) (.bool v) s2 = some (.ret (.int .i64 (if (v && (decide (0 < r.atoms.length) && (decide (r.vars.length ≤ 6) && (decide (r.atoms.length ≤ 6) && (r.vars.all isWord && (r.atoms.all okAt && whyP r == 0)))))) = true then 0 else 1)), st') ∧ Ks st st' := fun v => by
        unfold g19b111010111010_11
        cases v with
        | false => rw [guard_ft]; exact t17 false
        | true =>
          rw [guard_tt]
          simp only [faddr_ptr, Nat.zero_add, y1, lenL_lst, List.length_map, bin_gtr, Bool.true_and]
          have := t17 (decide (0 < r.atoms.length))
          rw [← edg 0 r.atoms.length] at this ⊢
          exact this
      cases hz : (r.ch.length == 0) with
      | false => rw [guard_ft]; exact t11 false
      | true =>
        rw [guard_tt]
        simp only [faddr_ptr, Nat.zero_add, y0, lenL_lst, strsV_len, bin_gtr, Bool.true_and]
        have := t11 (decide (0 < r.vars.length))
        rw [← edg 0 r.vars.length] at this ⊢
        exact this
  obtain ⟨st', q1, q2⟩ := main
  exact fg_of q1 q2 rfl
end Go.Ab

/- sinew/query: there and back, in plain words. -/
namespace Go.Ab
open Go.RowKit
set_option linter.unusedVariables false
set_option linter.unusedSimpArgs false
def nameT (t : Tm) : List UInt8 := if t.v = true then 63 :: t.n else t.n
def atT (a : AtP) : List UInt8 := nameT a.s ++ (32 :: (a.p.text ++ (32 :: nameT a.o)))
def chT2 (c : Chg) : List UInt8 := howW c ++ (32 :: (c.s ++ (32 :: (c.p ++ (32 :: c.o)))))
def selQ : List UInt8 := [115, 101, 108, 101, 99, 116, 32, 63]
def whrQ : List UInt8 := [32, 119, 104, 101, 114, 101, 32, 123, 32]
def whrW : List UInt8 := [119, 104, 101, 114, 101]
def dot3 : List UInt8 := [32, 46, 32]
def reqT (r : Rq) : List UInt8 := if r.kind = 1 then selQ ++ (joinL [32, 63] r.vars ++ (whrQ ++ (joinL dot3 (r.atoms.map atT) ++ [32, 125]))) else joinL dot3 (r.ch.map chT2)
def termK (t : Tm) : Sg := ⟨if t.v = true then 2 else 1, t.n, 0⟩
def atK (a : AtP) : List Sg := termK a.s :: (a.p.tk ++ [termK a.o])
def nameK (v : List UInt8) : Sg := ⟨2, v, 0⟩
def endK : List Sg := [⟨3, [125], 0⟩]
def reqK (r : Rq) : List Sg := if r.kind = 1 then (⟨1, selW, 0⟩ : Sg) :: (r.vars.map nameK ++ (⟨1, whrW, 0⟩ :: ⟨3, [123], 0⟩ :: (joinL [dotS] (r.atoms.map atK) ++ endK))) else chsTk r.ch
/-! the signs of the text -/
/-- An atom that is well. -/
def wellAt (a : AtP) : Prop := isWord a.s.n = true ∧ a.p.shP = true ∧ isWord a.o.n = true
/-- A request that is well. -/
def wellR (r : Rq) : Prop := (r.kind = 1 ∧ r.ch = [] ∧ r.vars ≠ [] ∧ (∀ v ∈ r.vars, isWord v = true) ∧ r.atoms ≠ [] ∧ ∀ a ∈ r.atoms, wellAt a) ∨ (r.kind = 2 ∧ r.vars = [] ∧ r.atoms = [] ∧ r.ch ≠ [] ∧ ∀ c ∈ r.ch, okCh c = true)
/-! the signs are read -/
/-! what may be is well; what is read may be -/
theorem why_b2 {cs : List Chg} (h : cs.length ≤ 64) : whyP ⟨2, [], [], cs⟩ = 0 := by
  unfold whyP
  have h1 : deepA ([] : List AtP) = false := rfl
  rw [if_neg (by simp [h1]), if_neg (by simp [namesP]; omega)]
  rfl
theorem ok_well {r : Rq} (h : okAll r = true) : wellR r ∧ whyP r = 0 := by
  unfold okAll at h
  split at h
  · rename_i h2
    rw [Bool.and_eq_true, beq_iff_eq] at h
    obtain ⟨h0, hb⟩ := h
    have hv : r.vars = [] := List.length_eq_zero_iff.1 (by omega)
    have ha : r.atoms = [] := List.length_eq_zero_iff.1 (by omega)
    have hb' := hb
    unfold okB at hb'
    simp only [Bool.and_eq_true, decide_eq_true_eq, List.all_eq_true] at hb'
    refine ⟨.inr ⟨h2, hv, ha, List.length_pos_iff.1 hb'.1, hb'.2.2⟩, ?_⟩
    obtain ⟨k, v, a, c⟩ := r
    simp only at h2 hv ha hb'
    subst h2; subst hv; subst ha
    exact why_b2 hb'.2.1
  · split at h
    · rename_i h2 h1
      simp only [Bool.and_eq_true, decide_eq_true_eq, beq_iff_eq, List.all_eq_true] at h
      obtain ⟨c0, c1, c2, c3, c4, c5, c6, c7⟩ := h
      refine ⟨.inl ⟨h1, List.length_eq_zero_iff.1 c0, List.length_pos_iff.1 c1, c5, List.length_pos_iff.1 c2, fun a ha => ?_⟩, c7⟩
      have := c6 a ha
      unfold okAt at this
      simp only [Bool.and_eq_true] at this
      exact ⟨this.1, ((fits_some a.p).1 this.2.2).1, this.2.1⟩
    · cases h
theorem whyP_zero {r : Rq} (h : whyP r = 0) : deepA r.atoms = false ∧ r.vars.length ≤ 6 ∧ r.atoms.length ≤ 6 ∧ r.ch.length ≤ 64 := by
  unfold whyP at h
  split at h
  · cases h
  rename_i h1
  split at h
  · cases h
  rename_i h2
  exact ⟨by simpa using h1, by omega, by omega, by omega⟩
end Go.Ab

/- sinew/query: the walk of text. -/
namespace Go.Ab
open Go.Proofs Go.RowKit
set_option linter.unusedVariables false
set_option linter.unusedSimpArgs false
set_option maxRecDepth 100000
theorem addB (a b : List UInt8) (h : a.length + b.length ≤ 100000000) (K : V → Res) : A.bin .add (.str a) (.str b) K = K (.str (a ++ b)) := by simp [A.bin, show a.length + b.length ≤ 4611686018427387904 by omega]
def kdsV (l : List Int) : List V := l.map (V.int .i64)
theorem idx_ints (l : List Int) (t : Nat) (k : Int) (hl : l.length ≤ 1000000) (st : St) : ∀ (n i : Nat), i ≤ l.length → l.length < n + i →
    ∃ (r : Int), g90b1010 n (.lst (kdsV l) t) (.int .i64 k) (.int .i64 (l.length : Nat)) (.int .i64 (i : Nat)) st = some (.ret (.int .i64 r), st) ∧ decide (0 ≤ r) = (l.drop i).contains k := by
  intro n
  induction n with
  | zero => intro i hi hn; omega
  | succ n ih =>
    intro i hi hn
    rw [g90b1010]
    simp only [bin_lss]
    by_cases hil : i < l.length
    · have e4 : ∀ K, A.bin .add (.int .i64 (i : Nat)) (.int .i64 1) K = K (.int .i64 ((i + 1 : Nat) : Int)) := fun K => bin_inc (by omega) K
      have ia : ∀ K, A.iaddr 1 (.lst (kdsV l) t) (.int .i64 (i : Nat)) K = K (.lptr [.int .i64 l[i]]) := fun K => iaddr_lst (v := .int .i64 l[i]) K (by simp [kdsV, hil]) rfl
      simp only [show ((i : Int) < (l.length : Int)) from by omega, decide_true, cond_true, ia, load_l1', eql_int, Bool.false_eq_true, if_false]
      rw [List.drop_eq_getElem_cons hil, List.contains_cons]
      cases h : (k == l[i]) with
      | true => exact ⟨i, rfl, by rw [decide_eq_true (by omega)]; rfl⟩
      | false =>
        rw [cond_false, e4, Bool.false_or]
        exact ih (i + 1) (by omega) (by omega)
    · have : i = l.length := by omega
      subst this
      simp only [Int.lt_irrefl, decide_false, cond_false, List.drop_length]
      exact ⟨-1, rfl, rfl⟩
theorem round_s (l : List Int) (t : Nat) (k : Int) (hl : l.length ≤ 1000000) (st : St) : s68 [.lst (kdsV l) t, .int .i64 k] st = some (.ret (.bool (l.contains k)), st) := by
  rw [s68_eq]
  unfold f68
  rw [er1_lst, er1_int, s90_eq]
  unfold f90
  have hlen : (kdsV l).length = l.length := by simp [kdsV]
  rw [lenL_lst, hlen]
  obtain ⟨r, q, hr⟩ := idx_ints l t k hl st big 0 (by omega) (lt_big (by omega))
  rw [show (.int .i64 0 : V) = .int .i64 ((0 : Nat) : Int) from rfl]
  rw [List.drop_zero] at hr
  rw [q, ret_ret]
  rw [show (.int .i64 ((0 : Nat) : Int) : V) = .int .i64 0 from rfl, bin_geq, er1_bool, hr]
theorem textsV_strs (ws : List (List UInt8)) : textsV (strsV ws) = some ws := by
  induction ws with
  | nil => rfl
  | cons w ws ih =>
    show textsV (V.str w :: strsV ws) = _
    rw [textsV, ih]
theorem inter_join (sep : List UInt8) : ∀ ts : List (List UInt8), sep.intercalate ts = joinL sep ts
  | [] => rfl
  | [t] => by simp [List.intercalate, List.intersperse, joinL, tlL]
  | t :: u :: ts => by
    have ih := inter_join sep (u :: ts)
    simp only [List.intercalate] at ih ⊢
    rw [List.intersperse_cons_cons, List.flatten_cons, List.flatten_cons, ih]
    rfl
theorem join_s (ts : List (List UInt8)) (u : Nat) (sep : List UInt8) (h1 : ts.length ≤ 1000000) (h2 : (joinL sep ts).length ≤ 1000000000) (st : St) : s32 [.lst (strsV ts) u, .str sep] st = some (.ret (.str (joinL sep ts)), st) := by
  rw [s32_v]
  unfold a32
  simp only [textsV_strs]
  have e : Lib.join ts sep = joinL sep ts := inter_join sep ts
  rw [e, if_pos ⟨by rw [strsV_len]; omega, by omega⟩]
/-- The kinds of which kids stand in brackets. -/
def rnd (m : Int) : List Int := if m = 3 then [3] else if m = 2 then [3, 2] else [3, 2, 4, 5, 6]
theorem rnd_wrap {m : Int} (hm : m = 2 ∨ m = 3 ∨ m = 4) {p : Pth} (h : p.shP = true) : (rnd m).contains p.kind = wrap m p.kind := by
  have hk : p.kind = 1 ∨ p.kind = 2 ∨ p.kind = 3 ∨ p.kind = 4 ∨ p.kind = 5 ∨ p.kind = 6 := by
    obtain ⟨k, w, l⟩ := p
    rcases shP_cases h with ⟨g, _⟩ | ⟨g, _⟩ | ⟨g, _⟩ <;> simp only [Pth.kind] <;> omega
  generalize p.kind = k at hk
  rcases hm with rfl | rfl | rfl <;> rcases hk with rfl | rfl | rfl | rfl | rfl | rfl <;> decide
theorem kid_len {m : Int} {p : Pth} (h : p.shP = true) : (kidR RT m p).length + 1 ≤ 20 * p.nd := by
  have : (p.rend RT).length + 3 ≤ 20 * p.nd := text_len p h
  unfold kidR brk
  split
  · simp only [List.length_append, List.length_cons, List.length_nil]; omega
  · omega
/-- Text, at a depth. -/
def TxtR (R : Nat → Fn) (p : Pth) : Prop := ∀ st, ∃ st', R 34 [p.v] st = some (.ret (.str p.text), st') ∧ Ks st st'
theorem kid_s {R : Nat → Fn} {m : Int} (hm : m = 2 ∨ m = 3 ∨ m = 4) {p : Pth} (h : p.shP = true) (hn : p.nd ≤ 100000) (hR : TxtR R p) (t : Nat) (st : St) : ∃ st', f67 R p.v (.lst (kdsV (rnd m)) t) st = some (.ret (.str (kidR RT m p)), st') ∧ Ks st st' := by
  unfold f67
  have bx : ∀ K : V → St → Res, A.box p.v st K = K (.ptr st.n 0) (st.new (.cells (pthC p))) := fun K => by rw [pth_c]; rfl
  rw [bx]
  have o1 := new_at st (.cells (pthC p))
  have k1 : Ks st (st.new (.cells (pthC p))) := (Ks.refl st).new _
  generalize st.new (.cells (pthC p)) = s1 at o1 k1 ⊢
  have w0 : ∀ K : V → St → Res, A.load false 1 (.ptr st.n 0) s1 K = K (.int .i64 p.kind) s1 := fun K => by rw [load_ob, o1]; rfl
  have w3 : ∀ K : V → St → Res, A.load true 3 (.ptr st.n 0) s1 K = K p.v s1 := fun K => by rw [load_obA, o1, pth_c]; rfl
  have hlen : (rnd m).length ≤ 1000000 := by rcases hm with rfl | rfl | rfl <;> decide
  have ht := text_len p h
  obtain ⟨s2, q2, k2⟩ := hR s1
  rw [faddr_ptr, Nat.zero_add, w0, er1_lst, er1_int, round_s (rnd m) t p.kind hlen, ret_ret, rnd_wrap hm h]
  unfold kidR
  cases wrap m p.kind with
  | true =>
    rw [cond_true, w3, pth_er, q2, ret_ret]
    have b1 : ∀ K, A.bin .add (.str [40]) (.str p.text) K = K (.str ([40] ++ p.text)) := addB _ _ (by simp; omega)
    have b2 : ∀ K, A.bin .add (.str ([40] ++ p.text)) (.str [41]) K = K (.str ([40] ++ p.text ++ [41])) := addB _ _ (by simp; omega)
    rw [b1, b2]
    exact ⟨s2, rfl, k1.trans k2⟩
  | false =>
    rw [cond_false, w3, pth_er, q2, ret_ret]
    exact ⟨s2, rfl, k1.trans k2⟩
/-- One loop of text. -/
structure TextL (R : Nat → Fn) (m : Int) (b : UInt8) (loop : Nat → V → V → V → V → V → St → Res) : Prop where
  eq : ∀ (f : Nat) (x3 x4 x19 x20 x21 : V) (st : St), loop (f + 1) x3 x4 x19 x20 x21 st = (A.bin .lss x21 x20 fun a1 =>
     A.cond a1
 (A.iaddr 3 x19 x21 fun a2 => A.load true 3 a2 st fun a3 z4 =>
 A.box (.agg [(.int .i64 0), (.str []), (.lst [] 1)]) z4 fun a5 z6 =>
 A.store 3 a5 a3 z6 fun z7 =>
 A.load true 3 a5 z7 fun a8 z9 =>
 A.bslice 1 (.int .i64 0) (rnd m).length (if m = 3 then [(0, (.int .i64 3))] else [(0, (.int .i64 3)), (1, (.int .i64 2))]) fun a10 =>
 A.call (g34T R) x3 [a8, a10] z9 fun a11 z12 =>
 A.bslice 1 (.str []) 1 [(0, a11)] fun a13 =>
 A.app 1 x4 (elemsOf 5 1 a13 z12) z12 fun a14 z15 =>
 A.bin .add x21 (.int .i64 1) fun a16 =>
 loop f x3 a14 x19 x20 a16 z15)
 (A.ret (s32 [x4.er1, ((.str [b]) : V).er1] st) fun a17 z18 =>
 some (.ret a17.er1, z18)))
theorem textL3 (R : Nat → Fn) : TextL R 3 124 (g34b1110101110010 R) := ⟨fun f x3 x4 x19 x20 x21 st => rfl⟩
theorem textL2 (R : Nat → Fn) : TextL R 2 47 (g34b111010111110010 R) := ⟨fun f x3 x4 x19 x20 x21 st => rfl⟩
theorem tlL_len (b : UInt8) (m : Int) : ∀ l : List Pth, (∀ p ∈ l, p.shP = true) → (tlL [b] (l.map (kidR RT m))).length ≤ 20 * Pth.ndl l
  | [], _ => Nat.zero_le _
  | p :: l, h => by
    have h1 := kid_len (m := m) (h p (by simp))
    have h2 := tlL_len b m l fun q hq => h q (by simp [hq])
    have e : tlL [b] ((p :: l).map (kidR RT m)) = [b] ++ (kidR RT m p ++ tlL [b] (l.map (kidR RT m))) := rfl
    rw [e, ndl_cons]
    simp only [List.length_append, List.length_cons, List.length_nil]; omega
theorem joinL_len (b : UInt8) (m : Int) (l : List Pth) (h : ∀ p ∈ l, p.shP = true) : (joinL [b] (l.map (kidR RT m))).length ≤ 20 * Pth.ndl l := by
  cases l with
  | nil => exact Nat.zero_le _
  | cons p l =>
    have := tlL_len b m (p :: l) h
    have e : tlL [b] ((p :: l).map (kidR RT m)) = [b] ++ joinL [b] ((p :: l).map (kidR RT m)) := rfl
    rw [e] at this
    simp only [List.length_append, List.length_cons, List.length_nil] at this; omega
theorem text_loop {R : Nat → Fn} {m : Int} (hm : m = 2 ∨ m = 3) {b : UInt8} {loop : Nat → V → V → V → V → V → St → Res} (hloop : TextL R m b loop) {l : List Pth} (t : Nat) (hl : Pth.ndl l ≤ 100000) (hs : ∀ p ∈ l, p.shP = true)
    (hR : ∀ p ∈ l, ∀ st t, ∃ st', R 67 [p.v, .lst (kdsV (rnd m)) t] st = some (.ret (.str (kidR RT m p)), st') ∧ Ks st st') {st0 : St} :
    ∀ (n i : Nat) (st : St) (u : Nat), i ≤ l.length → l.length < n + i → Ks st0 st → Own st0 st 1 u →
      ∃ st', loop n (.fn 67 [] []) (.lst (strsV ((l.take i).map (kidR RT m))) u) (.lst (l.map Pth.v) t) (.int .i64 (l.length : Nat)) (.int .i64 (i : Nat)) st = some (.ret (.str (joinL [b] (l.map (kidR RT m)))), st') ∧ Ks st0 st' := by
  intro n
  induction n with
  | zero => intro i st u hi hn; omega
  | succ n ih =>
    intro i st u hi hn hk ho
    have hll := ndl_len l
    rw [hloop.eq]
    simp only [bin_lss]
    by_cases hil : i < l.length
    · have e4 : ∀ K, A.bin .add (.int .i64 (i : Nat)) (.int .i64 1) K = K (.int .i64 ((i + 1 : Nat) : Int)) := fun K => bin_inc (by omega) K
      have bx : ∀ K : V → St → Res, A.box (.agg [(.int .i64 0), (.str []), (.lst [] 1)]) st K = K (.ptr st.n 0) (st.new (.cells [.int .i64 0, .str [], .lst [] 1])) := fun K => rfl
      simp only [show ((i : Int) < (l.length : Int)) from by omega, decide_true, cond_true, iaddr_pth t hil, load_pth, bx]
      rw [pth_store l[i] (new_at _ _) rfl, pth_load l[i] (put_at _ _ _)]
      have k2 : Ks st0 ((st.new (.cells [.int .i64 0, .str [], .lst [] 1])).put st.n (.cells (pthC l[i]))) := (hk.new _).put hk.n _
      have o2 : Own st0 ((st.new (.cells [.int .i64 0, .str [], .lst [] 1])).put st.n (.cells (pthC l[i]))) 1 u := own_put (own_new ho)
      generalize (st.new (.cells [.int .i64 0, .str [], .lst [] 1])).put st.n (.cells (pthC l[i])) = s2 at k2 o2 ⊢
      have bs : ∀ K, A.bslice 1 (.int .i64 0) (rnd m).length (if m = 3 then [(0, (.int .i64 3))] else [(0, (.int .i64 3)), (1, (.int .i64 2))]) K = K (.lst (kdsV (rnd m)) 2) := fun K => by rcases hm with rfl | rfl <;> rfl
      have call : ∀ (v w : V) (s : St) K, A.call (g34T R) (.fn 67 [] []) [v, w] s K = A.ret (R 67 [v.er1, w.er1] s) K := fun v w s K => rfl
      obtain ⟨s3, q3, k3⟩ := hR l[i] (List.getElem_mem hil) s2 2
      rw [bs, call, pth_er, er1_lst, q3, ret_ret]
      obtain ⟨s4, u4, q4, k4, o4, _, _⟩ := app_name (k2.trans k3) (o2.mono k3) (out := (l.take i).map (kidR RT m)) (by simp; omega) (kidR RT m l[i]) (fun a14 z15 => A.bin .add (.int .i64 (i : Nat)) (.int .i64 1) fun a16 => loop n (.fn 67 [] []) a14 (.lst (l.map Pth.v) t) (.int .i64 (l.length : Nat)) a16 z15)
      rw [q4, e4]
      have et : (l.take i).map (kidR RT m) ++ [kidR RT m l[i]] = (l.take (i + 1)).map (kidR RT m) := by
        rw [List.take_add_one, List.getElem?_eq_getElem hil, List.map_append]; rfl
      rw [et]
      exact ih (i + 1) s4 u4 (by omega) (by omega) k4 o4
    · have : i = l.length := by omega
      subst this
      simp only [Int.lt_irrefl, decide_false, cond_false, List.take_length, er1_lst, er1_str]
      have hj := joinL_len b m l hs
      rw [join_s (l.map (kidR RT m)) u [b] (by simp; omega) (by omega), ret_ret]
      exact ⟨st, rfl, hk⟩
theorem key_i (x : Int) : keyB Try.prog 3 (.int .i64 x) = true := by
  unfold keyB; rw [Try.underlying3]; rfl
def sgnMap : List (V × V) := [(.int .i64 4, .str [42]), (.int .i64 5, .str [43]), (.int .i64 6, .str [63])]
theorem sign_map (st : St) (K : V → St → Res) : ∃ st', (A.mkmap st fun a1 z2 => A.mapUpdK (keyB Try.prog 3 (.int .i64 4)) a1 (.int .i64 4) (.str [42]) z2 fun z3 => A.mapUpdK (keyB Try.prog 3 (.int .i64 5)) a1 (.int .i64 5) (.str [43]) z3 fun z4 => A.mapUpdK (keyB Try.prog 3 (.int .i64 6)) a1 (.int .i64 6) (.str [63]) z4 fun z5 => K a1 z5) = K (.map st.n) st' ∧ Ks st st' ∧ st'.ob st.n = some (.map sgnMap) := by
  have u1 : ∀ (s : St) (es : List (V × V)) (k : Int) (v : V) (K : St → Res), s.ob st.n = some (.map es) → findV (.int .i64 k) es 0 = some none → A.mapUpdK (keyB Try.prog 3 (.int .i64 k)) (.map st.n) (.int .i64 k) v s K = K (s.put st.n (.map (es ++ [(.int .i64 k, v)]))) := fun s es k v K ho hf => by
    rw [key_i]
    unfold A.mapUpdK
    rw [if_pos rfl]
    unfold A.mapUpd
    simp only [ho]
    rw [hf]
    rfl
  unfold A.mkmap
  dsimp only
  rw [u1 (st.new (.map [])) [] 4 (.str [42]) _ (new_at _ _) rfl]
  have o1 : ((st.new (.map [])).put st.n (.map ([] ++ [(V.int .i64 4, V.str [42])]))).ob st.n = some (.map [(V.int .i64 4, V.str [42])]) := put_at _ _ _
  rw [u1 _ [(V.int .i64 4, V.str [42])] 5 (.str [43]) _ o1 rfl]
  have o2 : (((st.new (.map [])).put st.n (.map ([] ++ [(V.int .i64 4, V.str [42])]))).put st.n (.map ([(V.int .i64 4, V.str [42])] ++ [(V.int .i64 5, V.str [43])]))).ob st.n = some (.map [(V.int .i64 4, V.str [42]), (V.int .i64 5, V.str [43])]) := put_at _ _ _
  rw [u1 _ [(V.int .i64 4, V.str [42]), (V.int .i64 5, V.str [43])] 6 (.str [63]) _ o2 rfl]
  exact ⟨_, rfl, ((((Ks.refl st).new _).put (Nat.le_refl _) _).put (Nat.le_refl _) _).put (Nat.le_refl _) _, put_at _ _ _⟩
theorem sign_look {st : St} {i : Nat} (h : st.ob i = some (.map sgnMap)) {k : Int} (hk : k = 4 ∨ k = 5 ∨ k = 6) (K : V → Res) : A.lookupK (keyB Try.prog 3 (.int .i64 k)) (.str []) false (.map i) (.int .i64 k) st K = K (.str [sgnB k]) := by
  rw [key_i]
  unfold A.lookupK
  rw [if_pos rfl]
  unfold A.lookup
  simp only [h]
  rcases hk with rfl | rfl | rfl <;> rfl
theorem text_go (n : Nat) (p : Pth) (hs : p.shP = true) (hnd : p.nd ≤ 100000) (hq : ∀ q ∈ p.kids, ∃ m, n = m + 1 ∧ TxtR (G34 m) q) : TxtR (G34 (n + 1)) p := by
  intro st
  obtain ⟨k, w, l⟩ := p
  rw [G34_34_eq]
  rw [nd_eq] at hnd
  have hll := ndl_len l
  have hkid : ∀ {m : Int}, (m = 2 ∨ m = 3 ∨ m = 4) → ∀ q ∈ l, q.shP = true → ∀ st t, ∃ st', G34 n 67 [q.v, .lst (kdsV (rnd m)) t] st = some (.ret (.str (kidR RT m q)), st') ∧ Ks st st' := fun {m} hm q hq1 hqs st t => by
    obtain ⟨m', rfl, ht⟩ := hq q hq1
    rw [G34_67_eq]
    exact kid_s hm hqs (by have := ndl_mem hq1; omega) ht t st
  have main : ∃ st', f34 (G34 n) (Pth.mk k w l).v st = some (.ret (.str (Pth.mk k w l).text), st') ∧ Ks st st' := by
    unfold f34
    have bx : ∀ K : V → St → Res, A.box (Pth.mk k w l).v st K = K (.ptr st.n 0) (st.new (.cells (pthC (.mk k w l)))) := fun K => by rw [pth_c]; rfl
    have o1 := new_at st (.cells (pthC (.mk k w l)))
    have k1 : Ks st (st.new (.cells (pthC (.mk k w l)))) := (Ks.refl st).new _
    have n1 : st.n < (st.new (.cells (pthC (.mk k w l)))).n := by simp
    rw [bx]
    generalize st.new (.cells (pthC (.mk k w l))) = s1 at o1 k1 n1 ⊢
    have w0 : ∀ K : V → St → Res, A.load false 1 (.ptr st.n 0) s1 K = K (.int .i64 k) s1 := fun K => by rw [load_ob, o1]; rfl
    have w1 : ∀ K : V → St → Res, A.load false 1 (.ptr st.n 1) s1 K = K (.str w) s1 := fun K => by rw [load_ob, o1]; rfl
    have w2 : ∀ K : V → St → Res, A.load false 1 (.ptr st.n 2) s1 K = K (.lst (l.map Pth.v) 0) s1 := fun K => by rw [load_ob, o1]; rfl
    simp only [faddr_ptr, Nat.zero_add, w0, eql_int, Bool.false_eq_true, if_false]
    rw [Pth.text, rend_eq]
    rcases shP_cases hs with ⟨rfl, rfl, hw⟩ | ⟨hk, rfl, hl, hqs⟩ | ⟨hk, rfl, q, rfl, hqs⟩
    · rw [show ((1 : Int) == 1) = true from rfl, cond_true, w1, er1_str, if_pos rfl]
      exact ⟨s1, rfl, k1⟩
    · have hk1 : k ≠ 1 := by rcases hk with rfl | rfl <;> decide
      rw [show (k == 1) = false from beq_eq_false_iff_ne.2 hk1, cond_false, if_neg hk1]
      by_cases h3 : k = 3
      · rw [show (k == 3) = true from by rw [h3]; rfl, cond_true, if_pos h3, w2, lenL_lst, List.length_map, rends_map]
        unfold g34b111010111001
        obtain ⟨st', r1, r2⟩ := text_loop (m := 3) (.inr rfl) (textL3 (G34 n)) 0 (by omega) hqs (fun q hq1 => hkid (.inr (.inl rfl)) q hq1 (hqs q hq1)) big 0 s1 1 (by omega) (lt_big (by omega)) (Ks.refl s1) (.inl rfl)
        exact ⟨st', r1, k1.trans r2⟩
      · have h2 : k = 2 := hk.resolve_right h3
        rw [show (k == 3) = false from beq_eq_false_iff_ne.2 h3, cond_false, if_neg h3, show (k == 2) = true from by rw [h2]; rfl, if_pos h2, rends_map]
        unfold g34b11101011111
        rw [cond_true, faddr_ptr, Nat.zero_add, w2, lenL_lst, List.length_map]
        obtain ⟨st', r1, r2⟩ := text_loop (m := 2) (.inl rfl) (textL2 (G34 n)) 0 (by omega) hqs (fun q hq1 => hkid (.inl rfl) q hq1 (hqs q hq1)) big 0 s1 1 (by omega) (lt_big (by omega)) (Ks.refl s1) (.inl rfl)
        exact ⟨st', r1, k1.trans r2⟩
    · have hk1 : k ≠ 1 ∧ k ≠ 3 ∧ k ≠ 2 := by rcases hk with rfl | rfl | rfl <;> decide
      rw [show (k == 1) = false from beq_eq_false_iff_ne.2 hk1.1, cond_false, if_neg hk1.1, show (k == 3) = false from beq_eq_false_iff_ne.2 hk1.2.1, cond_false, if_neg hk1.2.1, show (k == 2) = false from beq_eq_false_iff_ne.2 hk1.2.2, if_neg hk1.2.2]
      unfold g34b11101011111 g34b1111
      rw [cond_false]
      obtain ⟨s2, e2, k2, o2⟩ := sign_map s1 (fun a1 z5 => A.faddr 0 (.ptr st.n 0) fun a6 => A.load false 1 a6 z5 fun a7 z8 => A.lookupK (keyB Try.prog 3 a7) (.str []) false a1 a7 z8 fun a9 => A.faddr 2 (.ptr st.n 0) fun a10 => A.load false 1 a10 z8 fun a11 z12 => A.iaddr 3 a11 (.int .i64 0) fun a13 => A.load true 3 a13 z12 fun a14 z15 => A.bslice 1 (.int .i64 0) 5 [(0, (.int .i64 3)), (1, (.int .i64 2)), (2, (.int .i64 4)), (3, (.int .i64 5)), (4, (.int .i64 6))] fun a16 => A.call (g34T (G34 n)) (.fn 67 [] []) [a14, a16] z15 fun a17 z18 => A.bin .add a17 a9 fun a19 => some (.ret a19.er1, z18))
      rw [e2]
      have oc2 := (k2.ob st.n n1).trans o1
      have y0 : ∀ K : V → St → Res, A.load false 1 (.ptr st.n 0) s2 K = K (.int .i64 k) s2 := fun K => by rw [load_ob, oc2]; rfl
      have y2 : ∀ K : V → St → Res, A.load false 1 (.ptr st.n 2) s2 K = K (.lst ([q].map Pth.v) 0) s2 := fun K => by rw [load_ob, oc2]; rfl
      have bs : ∀ K, A.bslice 1 (.int .i64 0) 5 [(0, (.int .i64 3)), (1, (.int .i64 2)), (2, (.int .i64 4)), (3, (.int .i64 5)), (4, (.int .i64 6))] K = K (.lst (kdsV (rnd 4)) 2) := fun K => rfl
      have call : ∀ (v w : V) (s : St) K, A.call (g34T (G34 n)) (.fn 67 [] []) [v, w] s K = A.ret (G34 n 67 [v.er1, w.er1] s) K := fun v w s K => rfl
      have i0 : ∀ K, A.iaddr 3 (.lst ([q].map Pth.v) 0) (.int .i64 0) K = K (.lptr (pthC q)) := fun K => iaddr_pth (l := [q]) (i := 0) 0 (by simp) K
      rw [faddr_ptr, Nat.zero_add, y0, sign_look o2 hk, faddr_ptr, Nat.zero_add, y2, i0, load_pth, bs, call, pth_er, er1_lst]
      obtain ⟨s3, q3, k3⟩ := hkid (m := 4) (.inr (.inr rfl)) q (by simp) hqs s2 2
      have hkl := kid_len (m := 4) hqs
      rw [ndl_cons, ndl_nil] at hnd
      rw [q3, ret_ret, addB _ _ (by simp; omega)]
      exact ⟨s3, rfl, (k1.trans k2).trans k3⟩
  exact main
theorem text_n : ∀ (d n : Nat) (p : Pth), 2 * d ≤ n → p.sz.2 ≤ d + 1 → p.shP = true → p.nd ≤ 100000 → TxtR (G34 (n + 1)) p := by
  intro d
  induction d with
  | zero =>
    intro n p hn hd hs hnd
    exact text_go n p hs hnd fun q hq => by
      obtain ⟨k, w, l⟩ := p
      rw [sz_eq] at hd
      have := (szl_mem (show q ∈ l from hq)).2
      obtain ⟨k2, w2, l2⟩ := q
      rw [sz_eq] at this
      simp only at hd this
      omega
  | succ d ih =>
    intro n p hn hd hs hnd
    exact text_go n p hs hnd fun q hq => by
      obtain ⟨m, rfl⟩ : ∃ m, n = m + 2 := ⟨n - 2, by omega⟩
      refine ⟨m + 1, rfl, ?_⟩
      obtain ⟨k, w, l⟩ := p
      have hq' : q ∈ l := hq
      rw [sz_eq] at hd
      rw [nd_eq] at hnd
      have h1 := (szl_mem hq').2
      have h2 := ndl_mem hq'
      simp only at hd
      have hqs : q.shP = true := by
        rcases shP_cases hs with ⟨_, rfl, _⟩ | ⟨_, _, _, h⟩ | ⟨_, _, q3, rfl, h⟩
        · cases hq'
        · exact h q hq'
        · simp at hq'; rw [hq']; exact h
      exact ih m q (by omega) (by omega) hqs (by omega)
theorem text_s (p : Pth) (hs : p.shP = true) (hn : p.nd ≤ 100000) (st : St) : ∃ st', s34 [p.v] st = some (.ret (.str p.text), st') ∧ Ks st st' := by
  rw [s34_n]
  obtain ⟨M, hM, hM2⟩ := big_succ
  rw [hM]
  have := sz2_nd p
  exact text_n p.nd M p (by omega) (by omega) hs hn st
end Go.Ab

/- sinew/query: the walk of Print. -/
namespace Go.Ab
open Go.Proofs Go.RowKit
set_option linter.unusedVariables false
set_option linter.unusedSimpArgs false
set_option maxRecDepth 100000
theorem named_s (t : Tm) (h : t.n.length ≤ 1000) (st : St) : ∃ st', s33 [tmV t] st = some (.ret (.str (nameT t)), st') ∧ Ks st st' := by
  rw [s33_eq]
  unfold f33
  have bx : ∀ K : V → St → Res, A.box (tmV t) st K = K (.ptr st.n 0) (st.new (.cells [.bool t.v, .str t.n])) := fun K => rfl
  rw [bx]
  have o1 := new_at st (.cells [.bool t.v, .str t.n])
  have k1 : Ks st (st.new (.cells [.bool t.v, .str t.n])) := (Ks.refl st).new _
  generalize st.new (.cells [.bool t.v, .str t.n]) = s1 at o1 k1 ⊢
  have w0 : ∀ K : V → St → Res, A.load false 1 (.ptr st.n 0) s1 K = K (.bool t.v) s1 := fun K => by rw [load_ob, o1]; rfl
  have w1 : ∀ K : V → St → Res, A.load false 1 (.ptr st.n 1) s1 K = K (.str t.n) s1 := fun K => by rw [load_ob, o1]; rfl
  unfold nameT
  rw [faddr_ptr, Nat.zero_add, w0]
  cases t.v with
  | true =>
    rw [cond_true, faddr_ptr, Nat.zero_add, w1, addB _ _ (by simp; omega)]
    exact ⟨s1, rfl, k1⟩
  | false =>
    rw [cond_false, faddr_ptr, Nat.zero_add, w1]
    exact ⟨s1, rfl, k1⟩
theorem nameT_len (t : Tm) (h : isWord t.n = true) : (nameT t).length ≤ 17 := by
  have := (isWord_some h).2.1
  unfold nameT
  split
  · simp; omega
  · omega
theorem atT_len {a : AtP} (h : wellAt a) (hn : a.p.nd ≤ 10000) : (atT a).length ≤ 200100 := by
  have h1 := nameT_len a.s h.1
  have h2 := nameT_len a.o h.2.2
  have h3 := text_len a.p h.2.1
  unfold atT
  simp only [List.length_append, List.length_cons]; omega
theorem chT2_len {c : Chg} (h : okCh c = true) : (chT2 c).length ≤ 100 := by
  unfold okCh at h
  simp only [Bool.and_eq_true] at h
  have h1 := (isWord_some h.1).2.1
  have h2 := (isWord_some h.2.1).2.1
  have h3 := (isWord_some h.2.2).2.1
  have h4 := (isWord_some (how_word c)).2.1
  unfold chT2
  simp only [List.length_append, List.length_cons]; omega
theorem join_bd (sep : List UInt8) (B : Nat) : ∀ ts : List (List UInt8), (∀ t ∈ ts, t.length ≤ B) → (joinL sep ts).length ≤ ts.length * (B + sep.length) ∧ (tlL sep ts).length ≤ ts.length * (B + sep.length)
  | [], _ => ⟨Nat.zero_le _, Nat.zero_le _⟩
  | t :: ts, h => by
    have h1 := h t (by simp)
    have h2 := (join_bd sep B ts fun u hu => h u (by simp [hu])).2
    have e1 : joinL sep (t :: ts) = t ++ tlL sep ts := rfl
    have e2 : tlL sep (t :: ts) = sep ++ (t ++ tlL sep ts) := rfl
    rw [e1, e2]
    simp only [List.length_append, List.length_cons, Nat.add_mul, Nat.one_mul]
    omega
/-- The end of Print. -/
theorem print_end {c : Nat} {r : Rq} {st : St} (oc : st.ob c = some (.cells (rqC r))) (L : List (List UInt8)) (u : Nat) (hL : L.length ≤ 100) (hj : (joinL dot3 L).length ≤ 20000000) (hv : ∀ v ∈ r.vars, v.length ≤ 16) (hv2 : r.vars.length ≤ 6) :
    (A.ret (s32 [.lst (strsV L) u, .str [32, 46, 32]] st) fun a28 z29 => A.faddr 0 (.ptr c 0) fun a30 => A.load false 1 a30 z29 fun a31 z32 => A.eql 2 false a31 (.int .i64 1) fun a33 => A.cond a33 (A.faddr 1 (.ptr c 0) fun a34 => A.faddr 0 a34 fun a35 => A.load false 1 a35 z32 fun a36 z37 => A.ret (s32 [a36.er1, ((.str [32, 63]) : V).er1] z37) fun a38 z39 => A.bin .add (.str [115, 101, 108, 101, 99, 116, 32, 63]) a38 fun a40 => A.bin .add a40 (.str [32, 119, 104, 101, 114, 101, 32, 123, 32]) fun a41 => A.bin .add a41 a28 fun a42 => A.bin .add a42 (.str [32, 125]) fun a43 => some (.ret (.tup [a43.er1, ((.int .i64 0) : V).er1]), z39)) (some (.ret (.tup [a28.er1, ((.int .i64 0) : V).er1]), z32))) =
    some (.ret (.tup [.str (if r.kind = 1 then selQ ++ (joinL [32, 63] r.vars ++ (whrQ ++ (joinL dot3 L ++ [32, 125]))) else joinL dot3 L), .int .i64 0]), st) := by
  have w0 : ∀ K : V → St → Res, A.load false 1 (.ptr c 0) st K = K (.int .i64 r.kind) st := fun K => by rw [load_ob, oc]; rfl
  have w1 : ∀ K : V → St → Res, A.load false 1 (.ptr c 1) st K = K (.lst (strsV r.vars) 0) st := fun K => by rw [load_ob, oc]; rfl
  rw [show s32 [.lst (strsV L) u, .str [32, 46, 32]] st = some (.ret (.str (joinL dot3 L)), st) from join_s L u [32, 46, 32] (by omega) (by have : (joinL dot3 L).length = (joinL [32, 46, 32] L).length := rfl; omega) st, ret_ret]
  simp only [faddr_ptr, Nat.zero_add, w0, eql_int, Bool.false_eq_true, if_false]
  by_cases h1 : r.kind = 1
  · have hj2 := (join_bd [32, 63] 16 r.vars hv).1
    have hj3 : r.vars.length * (16 + [32, 63].length) ≤ 108 := by simp; omega
    rw [show (r.kind == 1) = true from by rw [h1]; rfl, cond_true, if_pos h1, w1, er1_lst, er1_str, join_s r.vars 0 [32, 63] (by omega) (by omega) st, ret_ret]
    rw [addB _ _ (by simp; omega), addB _ _ (by simp; omega), addB _ _ (by simp; omega), addB _ _ (by simp; omega)]
    simp only [er1_str, er1_int]
    congr 6
    simp [selQ, whrQ]
  · rw [show (r.kind == 1) = false from beq_eq_false_iff_ne.2 h1, cond_false, if_neg h1]
    rfl
theorem print_atoms {c : Nat} {r : Rq} {st0 : St} (hc : c < st0.n) (oc : st0.ob c = some (.cells (rqC r))) (A0 : List (List UInt8)) (hA : A0.length ≤ 64) (hA2 : ∀ t ∈ A0, t.length ≤ 100) (hat : ∀ a ∈ r.atoms, wellAt a ∧ a.p.nd ≤ 10000) (hal : r.atoms.length ≤ 6) (hv : ∀ v ∈ r.vars, v.length ≤ 16) (hv2 : r.vars.length ≤ 6) :
    ∀ (n i : Nat) (st : St) (u : Nat), i ≤ r.atoms.length → r.atoms.length < n + i → Ks st0 st → Own st0 st 1 u →
      ∃ st', g17b1111010 n (.ptr c 0) (.lst (strsV (A0 ++ (r.atoms.take i).map atT)) u) (.lst (r.atoms.map atpV) 0) (.int .i64 (r.atoms.length : Nat)) (.int .i64 (i : Nat)) st = some (.ret (.tup [.str (if r.kind = 1 then selQ ++ (joinL [32, 63] r.vars ++ (whrQ ++ (joinL dot3 (A0 ++ r.atoms.map atT) ++ [32, 125]))) else joinL dot3 (A0 ++ r.atoms.map atT)), .int .i64 0]), st') ∧ Ks st0 st' := by
  intro n
  induction n with
  | zero => intro i st u hi hn; omega
  | succ n ih =>
    intro i st u hi hn hk ho
    rw [g17b1111010]
    rw [bin_lss]
    by_cases hil : i < r.atoms.length
    · have e4 : ∀ K, A.bin .add (.int .i64 (i : Nat)) (.int .i64 1) K = K (.int .i64 ((i + 1 : Nat) : Int)) := fun K => bin_inc (by omega) K
      have ld : ∀ (s : St) K, A.load true 7 (.lptr (atpC r.atoms[i])) s K = K (.agg (atpC r.atoms[i])) s := fun s K => by rw [load_lptrA]; rfl
      rw [decide_eq_true (show ((i : Int) < (r.atoms.length : Int)) by omega), cond_true, iaddr_atp 0 hil, ld, bx_atp, sv_all 7 _ (new_at _ _) rfl rfl rfl]
      obtain ⟨hw, hnd⟩ := hat r.atoms[i] (List.getElem_mem hil)
      have k2 : Ks st0 ((st.new (.cells [(.bool false), (.str []), (.int .i64 0), (.str []), (.lst [] 1), (.bool false), (.str [])])).put st.n (.cells (atpC r.atoms[i]))) := (hk.new _).put hk.n _
      have ow2 : Own st0 ((st.new (.cells [(.bool false), (.str []), (.int .i64 0), (.str []), (.lst [] 1), (.bool false), (.str [])])).put st.n (.cells (atpC r.atoms[i]))) 1 u := own_put (own_new ho)
      have o2 := put_at (st.new (.cells [(.bool false), (.str []), (.int .i64 0), (.str []), (.lst [] 1), (.bool false), (.str [])])) st.n (.cells (atpC r.atoms[i]))
      have n2 : ((st.new (.cells [(.bool false), (.str []), (.int .i64 0), (.str []), (.lst [] 1), (.bool false), (.str [])])).put st.n (.cells (atpC r.atoms[i]))).n = st.n + 1 := by simp
      generalize (st.new (.cells [(.bool false), (.str []), (.int .i64 0), (.str []), (.lst [] 1), (.bool false), (.str [])])).put st.n (.cells (atpC r.atoms[i])) = s2 at k2 ow2 o2 n2 ⊢
      have L0 : ∀ {s : St}, s.ob st.n = some (.cells (atpC r.atoms[i])) → ∀ K : V → St → Res, A.load true 2 (.ptr st.n 0) s K = K (tmV r.atoms[i].s) s := fun {s} h K => by rw [load_obA, h]; rfl
      have L2 : ∀ {s : St}, s.ob st.n = some (.cells (atpC r.atoms[i])) → ∀ K : V → St → Res, A.load true 3 (.ptr st.n 2) s K = K (r.atoms[i].p).v s := fun {s} h K => by rw [load_obA, h, pth_c]; rfl
      have L5 : ∀ {s : St}, s.ob st.n = some (.cells (atpC r.atoms[i])) → ∀ K : V → St → Res, A.load true 2 (.ptr st.n 5) s K = K (tmV r.atoms[i].o) s := fun {s} h K => by rw [load_obA, h]; rfl
      have V2 : ∀ {s : St}, s.ob st.n = some (.cells (atpC r.atoms[i])) → ldv true 3 (.ptr st.n 2) s = some (r.atoms[i].p).v := fun {s} h => by unfold ldv; rw [L2 h]; rfl
      have V5 : ∀ {s : St}, s.ob st.n = some (.cells (atpC r.atoms[i])) → ldv true 2 (.ptr st.n 5) s = some (tmV r.atoms[i].o) := fun {s} h => by unfold ldv; rw [L5 h]; rfl
      obtain ⟨s3, q3, k3⟩ := named_s r.atoms[i].s (by have := (isWord_some hw.1).2.1; omega) s2
      have n3 := k3.n
      have o3 := (k3.ob st.n (by omega)).trans o2
      obtain ⟨s4, q4, k4⟩ := text_s r.atoms[i].p hw.2.1 (by omega) s3
      have n4 := k4.n
      have o4 := (k4.ob st.n (by omega)).trans o3
      obtain ⟨s5, q5, k5⟩ := named_s r.atoms[i].o (by have := (isWord_some hw.2.2).2.1; omega) s4
      have b1 := nameT_len _ hw.1
      have b2 := nameT_len _ hw.2.2
      have b3 := text_len _ hw.2.1
      rw [faddr_ptr, Nat.zero_add, L0 o2, show (tmV r.atoms[i].s).er1 = tmV r.atoms[i].s from rfl, q3, ret_kid, noP_ret, addB _ _ (by simp; omega), faddr_ptr, Nat.zero_add, L2 o3, V2 o2, chk_same, pth_er, q4, ret_kid, noP_ret, addB _ _ (by simp; omega), addB _ _ (by simp; omega), faddr_ptr, Nat.zero_add, L5 o4, V5 o3, chk_same, V5 o2, chk_same, show (tmV r.atoms[i].o).er1 = tmV r.atoms[i].o from rfl, q5, ret_kid, ret_ret, addB _ _ (by simp; omega)]
      have bs : ∀ (t : List UInt8) K, A.bslice 1 (.str []) 1 [(0, .str t)] K = K (.lst (strsV [t]) 2) := fun t K => rfl
      have kk := ((k2.trans k3).trans k4).trans k5
      have oo := ((ow2.mono k3).mono k4).mono k5
      obtain ⟨k6, o6⟩ := oo.app kk
      rw [bs, elemsOf_strs, app_own _ oo (by simp; omega) (szok_strs _), kid_eq, ret_ret, e4, ← strsV_app]
      have et : (A0 ++ (r.atoms.take i).map atT) ++ [nameT r.atoms[i].s ++ [32] ++ r.atoms[i].p.text ++ [32] ++ nameT r.atoms[i].o] = A0 ++ (r.atoms.take (i + 1)).map atT := by
        rw [List.take_add_one, List.getElem?_eq_getElem hil, List.map_append, List.append_assoc]
        simp [atT]
      rw [et]
      exact ih (i + 1) _ _ (by omega) (by omega) k6 o6
    · have : i = r.atoms.length := by omega
      subst this
      rw [decide_eq_false (show ¬ ((r.atoms.length : Int) < (r.atoms.length : Int)) by omega), cond_false, List.take_length, er1_lst, er1_str]
      have o := (hk.ob c hc).trans oc
      have hj := (join_bd dot3 200100 (A0 ++ r.atoms.map atT) (fun t ht => by
        rcases List.mem_append.1 ht with g | g
        · have := hA2 t g; omega
        · obtain ⟨a, ha, rfl⟩ := List.mem_map.1 g
          exact atT_len (hat a ha).1 (hat a ha).2)).1
      have hlen : (A0 ++ r.atoms.map atT).length ≤ 70 := by simp; omega
      have h3 : dot3.length = 3 := rfl
      rw [h3] at hj
      have hmul : (A0 ++ r.atoms.map atT).length * (200100 + 3) ≤ 70 * (200100 + 3) := Nat.mul_le_mul_right _ hlen
      rw [print_end o (A0 ++ r.atoms.map atT) u (by omega) (by omega) hv hv2]
      exact ⟨st, rfl, hk⟩
theorem print_chs {c : Nat} {r : Rq} {st0 : St} (hc : c < st0.n) (oc : st0.ob c = some (.cells (rqC r))) (hcs : ∀ c ∈ r.ch, okCh c = true) (hcl : r.ch.length ≤ 64) (hat : ∀ a ∈ r.atoms, wellAt a ∧ a.p.nd ≤ 10000) (hal : r.atoms.length ≤ 6) (hv : ∀ v ∈ r.vars, v.length ≤ 16) (hv2 : r.vars.length ≤ 6) :
    ∀ (n i : Nat) (st : St) (u : Nat), i ≤ r.ch.length → r.ch.length < n + i → Ks st0 st → Own st0 st 1 u →
      ∃ st', g17b111010 n (.ptr c 0) (.lst (strsV ((r.ch.take i).map chT2)) u) (.lst (r.ch.map chV) 0) (.int .i64 (r.ch.length : Nat)) (.int .i64 (i : Nat)) st = some (.ret (.tup [.str (if r.kind = 1 then selQ ++ (joinL [32, 63] r.vars ++ (whrQ ++ (joinL dot3 (r.ch.map chT2 ++ r.atoms.map atT) ++ [32, 125]))) else joinL dot3 (r.ch.map chT2 ++ r.atoms.map atT)), .int .i64 0]), st') ∧ Ks st0 st' := by
  intro n
  induction n with
  | zero => intro i st u hi hn; omega
  | succ n ih =>
    intro i st u hi hn hk ho
    rw [g17b111010]
    rw [bin_lss]
    by_cases hil : i < r.ch.length
    · have e4 : ∀ K, A.bin .add (.int .i64 (i : Nat)) (.int .i64 1) K = K (.int .i64 ((i + 1 : Nat) : Int)) := fun K => bin_inc (by omega) K
      have ld : ∀ (s : St) K, A.load true 4 (.lptr (chC r.ch[i])) s K = K (.agg (chC r.ch[i])) s := fun s K => by rw [load_lptrA]; rfl
      have bx : ∀ K : V → St → Res, A.box (.agg [(.bool false), (.str []), (.str []), (.str [])]) st K = K (.ptr st.n 0) (st.new (.cells [.bool false, .str [], .str [], .str []])) := fun K => rfl
      rw [decide_eq_true (show ((i : Int) < (r.ch.length : Int)) by omega), cond_true, iaddr_ch 0 hil, ld, bx, sv_all 4 _ (new_at _ _) rfl rfl rfl]
      have hok := hcs r.ch[i] (List.getElem_mem hil)
      have k2 : Ks st0 ((st.new (.cells [.bool false, .str [], .str [], .str []])).put st.n (.cells (chC r.ch[i]))) := (hk.new _).put hk.n _
      have ow2 : Own st0 ((st.new (.cells [.bool false, .str [], .str [], .str []])).put st.n (.cells (chC r.ch[i]))) 1 u := own_put (own_new ho)
      have o2 := put_at (st.new (.cells [.bool false, .str [], .str [], .str []])) st.n (.cells (chC r.ch[i]))
      generalize (st.new (.cells [.bool false, .str [], .str [], .str []])).put st.n (.cells (chC r.ch[i])) = s2 at k2 ow2 o2 ⊢
      have w0 : ∀ K : V → St → Res, A.load false 1 (.ptr st.n 0) s2 K = K (.bool r.ch[i].gone) s2 := fun K => by rw [load_ob, o2]; rfl
      have w1 : ∀ K : V → St → Res, A.load false 1 (.ptr st.n 1) s2 K = K (.str r.ch[i].s) s2 := fun K => by rw [load_ob, o2]; rfl
      have w2 : ∀ K : V → St → Res, A.load false 1 (.ptr st.n 2) s2 K = K (.str r.ch[i].p) s2 := fun K => by rw [load_ob, o2]; rfl
      have w3 : ∀ K : V → St → Res, A.load false 1 (.ptr st.n 3) s2 K = K (.str r.ch[i].o) s2 := fun K => by rw [load_ob, o2]; rfl
      have how : ∃ st', g17b11101001100111 (g17b111010 n) (.ptr c 0) (.lst (strsV ((r.ch.take i).map chT2)) u) (.ptr st.n 0) (.str (howW r.ch[i])) (.lst (r.ch.map chV) 0) (.int .i64 (r.ch.length : Nat)) (.int .i64 (i : Nat)) s2 = some (.ret (.tup [.str (if r.kind = 1 then selQ ++ (joinL [32, 63] r.vars ++ (whrQ ++ (joinL dot3 (r.ch.map chT2 ++ r.atoms.map atT) ++ [32, 125]))) else joinL dot3 (r.ch.map chT2 ++ r.atoms.map atT)), .int .i64 0]), st') ∧ Ks st0 st' := by
        unfold g17b11101001100111
        have bs4 : ∀ K, A.bslice 1 (.str []) 4 [(0, .str (howW r.ch[i])), (1, .str r.ch[i].s), (2, .str r.ch[i].p), (3, .str r.ch[i].o)] K = K (.lst (strsV [howW r.ch[i], r.ch[i].s, r.ch[i].p, r.ch[i].o]) 2) := fun K => rfl
        simp only [faddr_ptr, Nat.zero_add, w1, w2, w3, bs4, er1_lst, er1_str, show 1 + 1 = 2 from rfl, show 1 + 2 = 3 from rfl]
        have ej : joinL [32] [howW r.ch[i], r.ch[i].s, r.ch[i].p, r.ch[i].o] = chT2 r.ch[i] := by simp [joinL, tlL, chT2]
        have hcl2 := chT2_len hok
        rw [join_s [howW r.ch[i], r.ch[i].s, r.ch[i].p, r.ch[i].o] 2 [32] (by simp) (by rw [ej]; omega), ret_ret, ej]
        obtain ⟨s4, u4, q4, k4, o4, _, _⟩ := app_name k2 ow2 (out := (r.ch.take i).map chT2) (by simp; omega) (chT2 r.ch[i]) (fun a17 z18 => A.bin .add (.int .i64 (i : Nat)) (.int .i64 1) fun a19 => g17b111010 n (.ptr c 0) a17 (.lst (r.ch.map chV) 0) (.int .i64 (r.ch.length : Nat)) a19 z18)
        rw [q4, e4]
        have et : (r.ch.take i).map chT2 ++ [chT2 r.ch[i]] = (r.ch.take (i + 1)).map chT2 := by
          rw [List.take_add_one, List.getElem?_eq_getElem hil, List.map_append]; rfl
        rw [et]
        exact ih (i + 1) s4 u4 (by omega) (by omega) k4 o4
      rw [faddr_ptr, Nat.zero_add, w0]
      unfold howW at how
      cases hg : r.ch[i].gone with
      | true => rw [hg] at how; rw [cond_true]; exact how
      | false => rw [hg] at how; rw [cond_false]; exact how
    · have : i = r.ch.length := by omega
      subst this
      rw [decide_eq_false (show ¬ ((r.ch.length : Int) < (r.ch.length : Int)) by omega), cond_false, List.take_length]
      have o := (hk.ob c hc).trans oc
      unfold g17b1111
      have w2 : ∀ K : V → St → Res, A.load false 1 (.ptr c 2) st K = K (.lst (r.atoms.map atpV) 0) st := fun K => by rw [load_ob, o]; rfl
      simp only [faddr_ptr, Nat.zero_add, show 1 + 1 = 2 from rfl, w2, lenL_lst, List.length_map]
      have := print_atoms hc oc (r.ch.map chT2) (by simp; omega) (fun t ht => by obtain ⟨x, hx, rfl⟩ := List.mem_map.1 ht; exact chT2_len (hcs x hx)) hat hal hv hv2 big 0 st u (by omega) (lt_big (by omega)) hk ho
      rw [List.take_zero, List.map_nil, List.append_nil] at this
      exact this
/-- All that Print asks for. -/
def okP (r : Rq) : Prop := okW r ∧ ∀ a ∈ r.atoms, a.p.nd ≤ 10000
theorem okAll_bd {r : Rq} (h : okAll r = true) : r.vars.length ≤ 6 ∧ r.atoms.length ≤ 6 ∧ r.ch.length ≤ 64 := by
  have := whyP_zero (ok_well h).2
  exact this.2
theorem print_s {r : Rq} (h : okP r) (st : St) : s17 [rqV r] st = some (.ret (.tup [.str (if okAll r = true then reqT r else []), .int .i64 (if okAll r = true then 0 else 1)]), st) := by
  rw [s17_eq]
  have main : ∃ st', f17 (rqV r) st = some (.ret (.tup [.str (if okAll r = true then reqT r else []), .int .i64 (if okAll r = true then 0 else 1)]), st') ∧ Ks st st' := by
    unfold f17
    have bx : ∀ K : V → St → Res, A.box (rqV r) st K = K (.ptr st.n 0) (st.new (.cells (rqC r))) := fun K => rfl
    rw [bx]
    have o1 := new_at st (.cells (rqC r))
    have k1 : Ks st (st.new (.cells (rqC r))) := (Ks.refl st).new _
    have n1 : st.n < (st.new (.cells (rqC r))).n := by simp
    generalize st.new (.cells (rqC r)) = s1 at o1 k1 n1 ⊢
    have ld : ∀ K : V → St → Res, A.load true 4 (.ptr st.n 0) s1 K = K (rqV r) s1 := fun K => by rw [load_obA, o1]; rfl
    rw [ld, show (rqV r).er1 = rqV r from rfl, check_s h.1, ret_ret, eql_int, if_pos rfl]
    cases hok : okAll r with
    | false =>
      simp only [Bool.false_eq_true, if_false]
      rw [show ((1 : Int) != 0) = true from rfl, cond_true]
      exact ⟨s1, rfl, k1⟩
    | true =>
      simp only [if_true]
      rw [show ((0 : Int) != 0) = false from rfl, cond_false]
      unfold g17b11
      have w3 : ∀ K : V → St → Res, A.load false 1 (.ptr st.n 3) s1 K = K (.lst (r.ch.map chV) 0) s1 := fun K => by rw [load_ob, o1]; rfl
      rw [faddr_ptr, Nat.zero_add, w3, lenL_lst, List.length_map]
      obtain ⟨b1, b2, b3⟩ := okAll_bd hok
      have hw := (ok_well hok).1
      have hv : ∀ v ∈ r.vars, v.length ≤ 16 := fun v hm => by
        rcases hw with ⟨_, _, _, g, _⟩ | ⟨_, g, _⟩
        · exact (isWord_some (g v hm)).2.1
        · rw [g] at hm; cases hm
      have hat : ∀ a ∈ r.atoms, wellAt a ∧ a.p.nd ≤ 10000 := fun a hm => by
        refine ⟨?_, h.2 a hm⟩
        rcases hw with ⟨_, _, _, _, _, g⟩ | ⟨_, _, g, _⟩
        · exact g a hm
        · rw [g] at hm; cases hm
      have hcs : ∀ c ∈ r.ch, okCh c = true := fun c hm => by
        rcases hw with ⟨_, g, _⟩ | ⟨_, _, _, _, g⟩
        · rw [g] at hm; cases hm
        · exact g c hm
      obtain ⟨st', r1, r2⟩ := print_chs (st0 := s1) n1 o1 hcs b3 hat b2 hv b1 big 0 s1 1 (by omega) (lt_big (by omega)) (Ks.refl s1) (.inl rfl)
      refine ⟨st', ?_, k1.trans r2⟩
      have er : (if r.kind = 1 then selQ ++ (joinL [32, 63] r.vars ++ (whrQ ++ (joinL dot3 (r.ch.map chT2 ++ r.atoms.map atT) ++ [32, 125]))) else joinL dot3 (r.ch.map chT2 ++ r.atoms.map atT)) = reqT r := by
        unfold reqT
        rcases hw with ⟨g1, g2, _⟩ | ⟨g1, _, g2, _⟩
        · rw [if_pos g1, if_pos g1, g2]; rfl
        · rw [if_neg (by rw [g1]; decide), if_neg (by rw [g1]; decide), g2]; simp
      rw [er] at r1
      exact r1
  obtain ⟨st', q1, q2⟩ := main
  exact fg_of q1 q2 rfl
end Go.Ab

/- sinewref09: the walk of Flat; requests that are given. -/
namespace Go.Ab
open Go.Proofs Go.RowKit
set_option linter.unusedVariables false
set_option linter.unusedSimpArgs false
set_option maxRecDepth 100000
def Pth.cnt : Pth → Nat → Nat
  | .mk _ _ l, d => match d with
    | 0 => 1000
    | d + 1 => cntL l d 1
where cntL : List Pth → Nat → Nat → Nat
  | [], _, n => n
  | p :: l, d, n => if n < 1000 then cntL l d (n + p.cnt d) else n
abbrev Pth.cntL := Pth.cnt.cntL
theorem cnt_0 (k : Int) (w : List UInt8) (l : List Pth) : (Pth.mk k w l).cnt 0 = 1000 := rfl
theorem cnt_s (k : Int) (w : List UInt8) (l : List Pth) (d : Nat) : (Pth.mk k w l).cnt (d + 1) = Pth.cntL l d 1 := rfl
theorem cntL_nil (d n : Nat) : Pth.cntL [] d n = n := rfl
theorem cntL_cons (p : Pth) (l : List Pth) (d n : Nat) : Pth.cntL (p :: l) d n = if n < 1000 then Pth.cntL l d (n + p.cnt d) else n := rfl
theorem cntL_ge : ∀ (l : List Pth) (d n : Nat), n ≤ Pth.cntL l d n
  | [], d, n => Nat.le_refl _
  | p :: l, d, n => by
    rw [cntL_cons]
    split
    · have := cntL_ge l d (n + p.cnt d); omega
    · exact Nat.le_refl _
theorem cnt_pos : ∀ (p : Pth) (d : Nat), 1 ≤ p.cnt d
  | .mk k w l, 0 => by rw [cnt_0]; omega
  | .mk k w l, d + 1 => by rw [cnt_s]; exact cntL_ge l d 1
mutual
theorem cnt_le : ∀ (p : Pth) (d : Nat), p.cnt d ≤ 1000 * (d + 1)
  | .mk k w l, 0 => by rw [cnt_0]; omega
  | .mk k w l, d + 1 => by
    rw [cnt_s]
    have := cntL_le l d 1
    omega
theorem cntL_le : ∀ (l : List Pth) (d n : Nat), Pth.cntL l d n ≤ max n (999 + 1000 * (d + 1))
  | [], d, n => Nat.le_max_left _ _
  | p :: l, d, n => by
    rw [cntL_cons]
    split
    · have h1 := cntL_le l d (n + p.cnt d)
      have h2 := cnt_le p d
      omega
    · exact Nat.le_max_left _ _
end
mutual
theorem cnt_nd : ∀ (p : Pth) (d : Nat), p.cnt d ≤ 999 → p.nd ≤ p.cnt d
  | .mk k w l, 0, h => by rw [cnt_0] at h; omega
  | .mk k w l, d + 1, h => by
    rw [cnt_s] at h ⊢
    rw [nd_eq]
    have := cntL_nd l d 1 h
    omega
theorem cntL_nd : ∀ (l : List Pth) (d n : Nat), Pth.cntL l d n ≤ 999 → n + Pth.ndl l ≤ Pth.cntL l d n
  | [], d, n, h => by rw [ndl_nil, cntL_nil]; omega
  | p :: l, d, n, h => by
    rw [cntL_cons] at h ⊢
    rw [ndl_cons]
    split at h
    · rename_i hn
      rw [if_pos hn]
      have h1 := cntL_nd l d (n + p.cnt d) h
      have h2 := cntL_ge l d (n + p.cnt d)
      have h3 := cnt_nd p d (by omega)
      omega
    · omega
end
theorem count_loop {R : Fn} {d : Nat} (hd : d ≤ 1000) {st0 : St} {c : Nat} {k : Int} {w : List UInt8} {l : List Pth} (hc : c < st0.n) (hoc : st0.ob c = some (.cells (pthC (.mk k w l)))) (hR : ∀ p ∈ l, ∀ st, R [p.v, .int .i64 (d : Nat)] st = some (.ret (.int .i64 (p.cnt d : Nat)), st)) :
    ∀ (n i a : Nat) (st : St), i ≤ l.length → 1001 ≤ n + min a 1000 → Ks st0 st → i < a → a ≤ 100000000 →
      ∃ st', g31b111010 R n (.int .i64 ((d + 1 : Nat) : Int)) (.ptr c 0) (.int .i64 (a : Nat)) (.int .i64 (i : Nat)) st = some (.ret (.int .i64 (Pth.cntL (l.drop i) d a : Nat)), st') ∧ Ks st0 st' := by
  intro n
  induction n with
  | zero => intro i a st hi hn; omega
  | succ n ih =>
    intro i a st hi hn hk hia ha
    rw [g31b111010]
    have o := (hk.ob c hc).trans hoc
    have w2 : ∀ K : V → St → Res, A.load false 1 (.ptr c 2) st K = K (.lst (l.map Pth.v) 0) st := fun K => by rw [load_ob, o]; rfl
    rw [faddr_ptr, Nat.zero_add, w2, lenL_lst, List.length_map, bin_lss]
    by_cases hil : i < l.length
    · rw [List.drop_eq_getElem_cons hil, cntL_cons, decide_eq_true (show ((i : Int) < (l.length : Int)) by omega), guard_tt, bin_lss]
      by_cases h1000 : a < 1000
      · rw [decide_eq_true (show ((a : Int) < 1000) by omega), cond_true, if_pos h1000]
        unfold g31b11101001
        have hcl := cnt_le l[i] d
        have hcp := cnt_pos l[i] d
        have hd2 : 1000 * (d + 1) ≤ 1001000 := by omega
        rw [faddr_ptr, Nat.zero_add, w2, iaddr_pth 0 hil, load_pth, bin_dec (d + 1) (by omega), show (((d + 1 : Nat) : Int) - 1) = ((d : Nat) : Int) from by omega, pth_er, er1_int, hR l[i] (List.getElem_mem hil), ret_ret, bin_addN a (l[i].cnt d) _ (by omega), bin_inc (by omega)]
        exact ih (i + 1) (a + l[i].cnt d) st (by omega) (by omega) hk (by omega) (by omega)
      · rw [decide_eq_false (show ¬ ((a : Int) < 1000) by omega), cond_false, if_neg h1000]
        exact ⟨st, rfl, hk⟩
    · have : i = l.length := by omega
      subst this
      rw [decide_eq_false (show ¬ ((l.length : Int) < (l.length : Int)) by omega), guard_ft, List.drop_length, cntL_nil]
      exact ⟨st, rfl, hk⟩
theorem count_n : ∀ (d n : Nat), d ≤ n → d ≤ 1000 → ∀ (p : Pth) (st : St), s31n (n + 1) [p.v, .int .i64 (d : Nat)] st = some (.ret (.int .i64 (p.cnt d : Nat)), st)
  | d, n, hn, hd, .mk k w l, st => by
    rw [s31n_eq]
    have main : ∃ st', f31 (s31n n) (Pth.mk k w l).v (.int .i64 (d : Nat)) st = some (.ret (.int .i64 ((Pth.mk k w l).cnt d : Nat)), st') ∧ Ks st st' := by
      unfold f31
      have bx : ∀ K : V → St → Res, A.box (Pth.mk k w l).v st K = K (.ptr st.n 0) (st.new (.cells (pthC (.mk k w l)))) := fun K => by rw [pth_c]; rfl
      have o1 := new_at st (.cells (pthC (.mk k w l)))
      have k1 : Ks st (st.new (.cells (pthC (.mk k w l)))) := (Ks.refl st).new _
      have n1 : st.n < (st.new (.cells (pthC (.mk k w l)))).n := by simp
      rw [bx]
      generalize st.new (.cells (pthC (.mk k w l))) = s1 at o1 k1 n1 ⊢
      rw [eql_int, if_neg Bool.false_ne_true]
      match d, hn, hd with
      | 0, _, _ => exact ⟨s1, rfl, k1⟩
      | d + 1, hn, hd =>
        obtain ⟨m, rfl⟩ : ∃ m, n = m + 1 := ⟨n - 1, by omega⟩
        rw [show ((((d + 1 : Nat) : Int) == 0)) = false from by rw [beq_eq_false_iff_ne]; omega, cond_false, cnt_s]
        obtain ⟨B, hB, hB2⟩ := big_succ
        obtain ⟨st', q1, q2⟩ := count_loop (d := d) (by omega) n1 o1 (fun q _ st => count_n d m (by omega) (by omega) q st) big 0 1 s1 (by omega) (by omega) (Ks.refl s1) (by omega) (by omega)
        rw [List.drop_zero] at q1
        exact ⟨st', q1, k1.trans q2⟩
    obtain ⟨st', q1, q2⟩ := main
    exact fg_of q1 q2 rfl
theorem count_s (p : Pth) (d : Nat) (hd : d ≤ 1000) (st : St) : s31 [p.v, .int .i64 (d : Nat)] st = some (.ret (.int .i64 (p.cnt d : Nat)), st) := by
  rw [s31_n]
  obtain ⟨M, hM, hM2⟩ := big_succ
  rw [hM]
  exact count_n d M (by omega) hd p st
/-- Are paths not so deep, and not so broad? -/
def flatA (l : List AtP) : Nat → Bool
  | i => match l with
    | [] => true
    | a :: l => if 20 < i then false else if 400 < a.p.cnt 40 then false else flatA l (i + 1)
def flatP (r : Rq) : Bool := flatA r.atoms 0 && (decide (r.vars.length ≤ 40) && decide (r.ch.length ≤ 100))
theorem flat_loop {c : Nat} {r : Rq} {st : St} (oc : st.ob c = some (.cells (rqC r))) : ∀ (n i : Nat), i ≤ r.atoms.length → i ≤ 21 → 23 ≤ n + i → g16b1010 n (.ptr c 0) (.int .i64 (i : Nat)) st = some (.ret (.bool (flatA (r.atoms.drop i) i && (decide (r.vars.length ≤ 40) && decide (r.ch.length ≤ 100)))), st) := by
  have w0 : ∀ K : V → St → Res, A.load false 1 (.ptr c 1) st K = K (.lst (strsV r.vars) 0) st := fun K => by rw [load_ob, oc]; rfl
  have w2 : ∀ K : V → St → Res, A.load false 1 (.ptr c 2) st K = K (.lst (r.atoms.map atpV) 0) st := fun K => by rw [load_ob, oc]; rfl
  have w3 : ∀ K : V → St → Res, A.load false 1 (.ptr c 3) st K = K (.lst (r.ch.map chV) 0) st := fun K => by rw [load_ob, oc]; rfl
  intro n
  induction n with
  | zero => intro i hi h2 hn; omega
  | succ n ih =>
    intro i hi h2 hn
    rw [g16b1010]
    simp only [faddr_ptr, Nat.zero_add, show 1 + 1 = 2 from rfl, w2, lenL_lst, List.length_map, bin_lss]
    by_cases hil : i < r.atoms.length
    · rw [List.drop_eq_getElem_cons hil, flatA, decide_eq_true (show ((i : Int) < (r.atoms.length : Int)) by omega), cond_true, bin_gtr]
      by_cases h20 : 20 < i
      · rw [decide_eq_true (show ((20 : Int) < (i : Int)) by omega), guard_tf, if_pos h20]; rfl
      · rw [decide_eq_false (show ¬ ((20 : Int) < (i : Int)) by omega), guard_ff, if_neg h20]
        have fa : ∀ K, A.faddr 2 (.lptr (atpC r.atoms[i])) K = K (.lptr ((atpC r.atoms[i]).drop 2)) := fun K => rfl
        have ld : ∀ (s : St) K, A.load true 3 (.lptr ((atpC r.atoms[i]).drop 2)) s K = K (r.atoms[i].p).v s := fun s K => by rw [load_lptrA, pth_c]; rfl
        rw [iaddr_atp 0 hil, fa, ld, pth_er, er1_int, show (.int .i64 40 : V) = .int .i64 ((40 : Nat) : Int) from rfl, count_s _ 40 (by omega), ret_ret, bin_gtr]
        by_cases h4 : 400 < r.atoms[i].p.cnt 40
        · rw [decide_eq_true (show ((400 : Int) < (r.atoms[i].p.cnt 40 : Int)) by omega), cond_true, if_pos h4]; rfl
        · rw [decide_eq_false (show ¬ ((400 : Int) < (r.atoms[i].p.cnt 40 : Int)) by omega), cond_false, if_neg h4, bin_inc (by omega)]
          exact ih (i + 1) (by omega) (by omega) (by omega)
    · have : i = r.atoms.length := by omega
      subst this
      have e1 : decide ((r.vars.length : Int) ≤ 40) = decide (r.vars.length ≤ 40) := by
        by_cases h : r.vars.length ≤ 40
        · rw [decide_eq_true h, decide_eq_true (by omega)]
        · rw [decide_eq_false h, decide_eq_false (by omega)]
      have e2 : decide ((r.ch.length : Int) ≤ 100) = decide (r.ch.length ≤ 100) := by
        by_cases h : r.ch.length ≤ 100
        · rw [decide_eq_true h, decide_eq_true (by omega)]
        · rw [decide_eq_false h, decide_eq_false (by omega)]
      rw [decide_eq_false (show ¬ ((r.atoms.length : Int) < (r.atoms.length : Int)) by omega), cond_false, List.drop_length]
      simp only [faddr_ptr, Nat.zero_add, w0, lenL_lst, strsV_len, bin_leq, e1]
      have ef : flatA [] r.atoms.length = true := rfl
      rw [ef, Bool.true_and]
      cases decide (r.vars.length ≤ 40) with
      | false => rfl
      | true =>
        rw [guard_tt, w3, lenL_lst, List.length_map, bin_leq, e2]; rfl
theorem flat_s (r : Rq) (st : St) : s16 [rqV r] st = some (.ret (.bool (flatP r)), st) := by
  rw [s16_eq]
  have bx : ∀ K : V → St → Res, A.box (rqV r) st K = K (.ptr st.n 0) (st.new (.cells (rqC r))) := fun K => rfl
  have o1 := new_at st (.cells (rqC r))
  obtain ⟨B, hB, hB2⟩ := big_succ
  have := flat_loop o1 big 0 (by omega) (by omega) (by omega)
  rw [List.drop_zero] at this
  refine fg_of (v := .bool (flatP r)) (st' := st.new (.cells (rqC r))) ?_ ((Ks.refl st).new _) rfl
  unfold f16
  rw [bx]
  exact this
theorem flatA_some : ∀ (l : List AtP) (i : Nat), flatA l i = true → l.length + i ≤ 21 + i ∧ (l.length ≠ 0 → l.length + i ≤ 21) ∧ ∀ a ∈ l, a.p.nd ≤ 400
  | [], i, h => ⟨by simp, by simp, by simp⟩
  | a :: l, i, h => by
    rw [flatA] at h
    split at h
    · cases h
    split at h
    · cases h
    rename_i h1 h2
    obtain ⟨g1, g2, g3⟩ := flatA_some l (i + 1) h
    have ha : a.p.nd ≤ 400 := by have := cnt_nd a.p 40 (by omega); omega
    have hl : l.length + 1 + i ≤ 21 := by
      by_cases h0 : l.length = 0
      · omega
      · have := g2 h0; omega
    refine ⟨by simp; omega, fun _ => by simp; omega, fun b hb => ?_⟩
    rcases List.mem_cons.1 hb with rfl | g
    · exact ha
    · exact g3 b g
theorem szl1_nd : ∀ l : List Pth, (∀ q ∈ l, q.sz.1 ≤ q.nd) → (Pth.szl l).1 ≤ Pth.ndl l
  | [], _ => Nat.le_refl _
  | q :: l, h => by
    rw [szl_cons, ndl_cons]
    have h1 := h q (by simp)
    have h2 := szl1_nd l fun p hp => h p (by simp [hp])
    simp only; omega
theorem sz1_nd : ∀ p : Pth, p.sz.1 ≤ p.nd
  | .mk k w l => by
    rw [sz_eq, nd_eq]
    have h := szl1_nd l fun q hq => sz1_nd q
    simp only
    split <;> omega
theorem flat_ok {r : Rq} (h : flatP r = true) : okP r ∧ okS r := by
  unfold flatP at h
  simp only [Bool.and_eq_true, decide_eq_true_eq] at h
  obtain ⟨g1, _, g3⟩ := flatA_some r.atoms 0 h.1
  have hsz : ∀ a ∈ r.atoms, a.p.sz.1 ≤ 400 ∧ a.p.sz.2 ≤ 400 := fun a ha => by
    have h1 := sz1_nd a.p
    have h2 := sz2_nd a.p
    have := g3 a ha
    exact ⟨by omega, by omega⟩
  exact ⟨⟨⟨by omega, by omega, by omega, fun a ha => ⟨by have := hsz a ha; omega, by have := hsz a ha; omega, by have := g3 a ha; omega⟩⟩, fun a ha => by have := g3 a ha; omega⟩, by omega, by omega, by omega, fun a ha => ⟨by have := hsz a ha; omega, by have := g3 a ha; omega⟩⟩
/-! a request that is given -/
def Pth.wok : Pth → Prop
  | .mk _ w l => w.length ≤ 9223372036854775807 ∧ wokl l
where wokl : List Pth → Prop
  | [] => True
  | p :: l => p.wok ∧ wokl l
abbrev Pth.wokl := Pth.wok.wokl
theorem wokl_of : ∀ {l : List Pth}, (∀ p ∈ l, p.wok) → Pth.wokl l
  | [], _ => trivial
  | p :: l, h => ⟨h p (by simp), wokl_of fun q hq => h q (by simp [hq])⟩
theorem in_path3 {n : Nat} {cs : List V} (s : Sh Try.prog n 61 cs) : ∃ (k : Int) (w : List UInt8) (l : List V) (m : Nat), cs = [.int .i64 k, .str w, .lst l 0] ∧ w.length ≤ 9223372036854775807 ∧ ∀ v ∈ l, Sh Try.prog m 61 v.cells ∧ fit Try.prog 61 v := by
  obtain ⟨k, h1, h2⟩ := s.struct Try.underlying61
  have c61 : Try.prog.cellsOf 61 = 3 := by kernel_rfl
  have c3 : Try.prog.cellsOf 3 = 1 := by kernel_rfl
  have c9 : Try.prog.cellsOf 9 = 1 := by kernel_rfl
  have c59 : Try.prog.cellsOf 59 = 1 := by kernel_rfl
  rw [c61] at h1
  obtain ⟨a, b, c, rfl⟩ : ∃ a b c, cs = [a, b, c] := by
    match cs, h1 with
    | [a, b, c], _ => exact ⟨a, b, c, rfl⟩
  have q0 := h2 ⟨ "Kind", 3, 0, false, "", "", 0⟩ (by simp)
  have q1 := h2 ⟨ "Word", 9, 1, false, "", "", 8⟩ (by simp)
  have q2 := h2 ⟨ "Kids", 59, 2, false, "", "", 24⟩ (by simp)
  simp only [c3, c9, c59, List.drop_zero, List.drop_succ_cons, List.take_succ_cons, List.take_zero] at q0 q1 q2
  obtain ⟨x, e0, _⟩ := q0.int Try.underlying3
  obtain ⟨t, e1, ht⟩ := q1.str Try.underlying9
  obtain ⟨l, m, e2, _, hl⟩ := q2.slice Try.underlying59
  cases e0; cases e1; cases e2
  exact ⟨x, t, l, m, rfl, by simpa [maxLen] using ht, hl⟩
theorem in_pth_n : ∀ (N : Nat) (x : V) (n : Nat), SizeOf.sizeOf x ≤ N → Sh Try.prog n 61 x.cells → fit Try.prog 61 x → ∃ p : Pth, x = p.v ∧ p.wok := by
  intro N
  induction N with
  | zero =>
    intro x n hN s f
    obtain ⟨cs, rfl⟩ := fit_ag f (isAg_of.2 (.inl ⟨_, Try.underlying61⟩))
    simp at hN
  | succ N ih =>
    intro x n hN s f
    obtain ⟨cs, rfl⟩ := fit_ag f (isAg_of.2 (.inl ⟨_, Try.underlying61⟩))
    rw [cells_agg] at s
    obtain ⟨k, w, l, m, rfl, hw, hl⟩ := in_path3 s
    obtain ⟨ps, hps, hok⟩ := list_pick (g := Pth.v) (Q := Pth.wok) (l := l) (fun v hv => ih v m (by
      have := List.sizeOf_lt_of_mem hv
      simp at hN
      omega) (hl v hv).1 (hl v hv).2)
    subst hps
    exact ⟨.mk k w ps, by rw [pth_v], hw, wokl_of hok⟩
theorem in_pth (x : V) (n : Nat) (s : Sh Try.prog n 61 x.cells) (f : fit Try.prog 61 x) : ∃ p : Pth, x = p.v ∧ p.wok := in_pth_n _ x n (Nat.le_refl _) s f
end Go.Ab
