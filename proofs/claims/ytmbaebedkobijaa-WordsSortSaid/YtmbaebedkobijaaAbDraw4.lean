import Derived.Test.YtmbaebedkobijaaAbDraw3
/- Each order comes to the same. -/
namespace Go.Ab
open Go.RowKit
set_option linter.unusedVariables false
set_option linter.unusedSimpArgs false

theorem fold_bits (acc : List Nat) (i : Nat) : ∀ (l : List Edge) (s : Nat), (l.foldl (fun s x => if Region.binds .any x then s ||| 2 ^ x.on ||| acc.getD x.on 0 else s) s).testBit i = true → s.testBit i = true ∨ ∃ x ∈ l, Region.binds .any x = true ∧ (i = x.on ∨ (acc.getD x.on 0).testBit i = true)
  | [], s, h => .inl h
  | x :: l, s, h => by
    rw [List.foldl_cons] at h
    rcases fold_bits acc i l _ h with g | ⟨y, hy, g⟩
    · by_cases hb : Region.binds .any x = true
      · rw [if_pos hb] at g
        simp only [Nat.testBit_or, Bool.or_eq_true, Nat.testBit_two_pow] at g
        rcases g with (g | g) | g
        · exact .inl g
        · exact .inr ⟨x, by simp, hb, .inl (by have g' := g; simp at g'; omega)⟩
        · exact .inr ⟨x, by simp, hb, .inr g⟩
      · rw [if_neg hb] at g; exact .inl g
    · exact .inr ⟨y, List.mem_cons_of_mem _ hy, g⟩

theorem befs_ok : ∀ (os done : List Oper) (acc : List Nat), acc.length = done.length → (∀ j o, done[j]? = some o → ∀ i, (acc.getD j 0).testBit i = true → ∃ x ∈ o.after.toList, Region.binds .any x = true ∧ (i = x.on ∨ (acc.getD x.on 0).testBit i = true)) →
    ∀ j o, (done ++ os)[j]? = some o → ∀ i, ((befs os acc).getD j 0).testBit i = true → ∃ x ∈ o.after.toList, Region.binds .any x = true ∧ (i = x.on ∨ ((befs os acc).getD x.on 0).testBit i = true)
  | [], done, acc, hl, h => by simpa [befs] using h
  | o :: os, done, acc, hl, h => by
    unfold befs
    have := befs_ok os (done ++ [o]) (acc ++ [o.after.toList.foldl (fun s x => if Region.binds .any x then s ||| 2 ^ x.on ||| acc.getD x.on 0 else s) 0]) (by simp [hl]) ?_
    · simpa [List.append_assoc] using this
    · have old : ∀ j, j < acc.length → (acc ++ [o.after.toList.foldl (fun s x => if Region.binds .any x then s ||| 2 ^ x.on ||| acc.getD x.on 0 else s) 0]).getD j 0 = acc.getD j 0 := by
        intro j hj; simp [List.getD, List.getElem?_append_left hj]
      have lift : ∀ k i, (acc.getD k 0).testBit i = true → ((acc ++ [o.after.toList.foldl (fun s x => if Region.binds .any x then s ||| 2 ^ x.on ||| acc.getD x.on 0 else s) 0]).getD k 0).testBit i = true := by
        intro k i hk
        by_cases hkl : k < acc.length
        · rw [old k hkl]; exact hk
        · simp [List.getD, List.getElem?_eq_none (Nat.le_of_not_lt hkl)] at hk
      intro j q hj i hi
      by_cases hjl : j < acc.length
      · rw [List.getElem?_append_left (by omega)] at hj
        rw [old j hjl] at hi
        obtain ⟨x, h1, h2, h3⟩ := h j q hj i hi
        exact ⟨x, h1, h2, h3.imp id (lift _ _)⟩
      · have hj2 : j = acc.length := by
          have := (List.getElem?_eq_some_iff.mp hj).1
          simp at this; omega
        subst hj2
        rw [List.getElem?_append_right (by omega)] at hj
        simp only [hl, Nat.sub_self, List.getElem?_cons_zero, Option.some.injEq] at hj
        subst hj
        have e1 : (acc ++ [o.after.toList.foldl (fun s x => if Region.binds .any x then s ||| 2 ^ x.on ||| acc.getD x.on 0 else s) 0]).getD acc.length 0 = o.after.toList.foldl (fun s x => if Region.binds .any x then s ||| 2 ^ x.on ||| acc.getD x.on 0 else s) 0 := by
          simp [List.getD]
        rw [e1] at hi
        rcases fold_bits acc i _ _ hi with g | ⟨x, h1, h2, h3⟩
        · simp at g
        · exact ⟨x, h1, h2, h3.imp id (lift _ _)⟩

section
variable (P : Program) (mu : Nat → Bool) (m : Nat) (ops : Array Oper) (f : Nat → TI) (env0 : Env) (st0 : St) (D : Nat → Bool)
def dstN (n : Nat) : Option Tmp := (ops[n]?).bind (·.dst)
def envN : Nat → Env
  | 0 => env0
  | n + 1 => if D n then putV m (envN n) (dstN ops n) (f n).v else envN n
def isWb (n : Nat) : Bool := match ops[n]? with | some o => cls P mu o != 0 && cls P mu o != 1 | none => false
def stN : Nat → St
  | 0 => st0
  | n + 1 => if D n && (f n).ran && isWb P mu ops n then (f (n + 1)).st else stN n
end

variable {P : Program} {mu : Nat → Bool} {T : Tbl} {ops : Array Oper} {B : List Nat} {m : Nat} {K : Env → St → Res} {r : Out × St} {f : Nat → TI} {env0 : Env} {st0 : St} {D : Nat → Bool}

/-- What the check says. -/
structure Reg (P : Program) (mu : Nat → Bool) (ops : Array Oper) (B : List Nat) : Prop where
  back : ∀ j o, ops[j]? = some o → ∀ x ∈ o.after.toList, Region.binds .any x = true → x.on < j
  look1 : ∀ i j q o d, ops[i]? = some q → ops[j]? = some o → i < j → q.dst = some d → d ∈ o.looksAt ops → ord B i j = true
  look2 : ∀ i j q o d, ops[i]? = some q → ops[j]? = some o → i < j → o.dst = some d → d ∈ q.looksAt ops → ord B i j = true
  dst : ∀ i j q o d, ops[i]? = some q → ops[j]? = some o → i < j → q.dst = some d → o.dst = some d → ord B i j = true
  wr : ∀ i j, i < j → isWb P mu ops i = true → isWb P mu ops j = true → ord B i j = true
  edge : ∀ i j o, ops[j]? = some o → ord B i j = true → ∃ x ∈ o.after.toList, Region.binds .any x = true ∧ (i = x.on ∨ ord B i x.on = true)

theorem cls_le (o : Oper) : cls P mu o = 0 ∨ cls P mu o = 1 ∨ cls P mu o = 2 := by
  unfold cls
  split <;> first | (simp; done) | (split <;> first | (simp; done) | (split <;> first | (simp; done) | (split <;> simp)))

theorem reg_of_ok (h : regOk P mu ops (befs ops.toList []) = true) : Reg P mu ops (befs ops.toList []) := by
  unfold regOk at h
  rw [List.all_eq_true] at h
  have main : ∀ j o, ops[j]? = some o → (∀ x ∈ o.after.toList, Region.binds .any x = true → x.on < j) ∧ ∀ i q, ops[i]? = some q → i < j → ord (befs ops.toList []) i j = true ∨ ((∀ d, q.dst = some d → d ∉ o.looksAt ops ∧ o.dst ≠ some d) ∧ (∀ d, o.dst = some d → d ∉ q.looksAt ops) ∧ ¬ (cls P mu o = 2 ∧ cls P mu q = 2)) := by
    intro j o ho
    have hj : j < ops.size := (Array.getElem?_eq_some_iff.mp ho).1
    have := h j (List.mem_range.mpr hj)
    simp only [ho, Bool.and_eq_true, List.all_eq_true] at this
    obtain ⟨h1, h2⟩ := this
    refine ⟨fun x hx hb => ?_, fun i q hq hij => ?_⟩
    · have := h1 x hx
      simpa [hb] using this
    · have := h2 i (List.mem_range.mpr hij)
      simp only [hq, Bool.or_eq_true, Bool.and_eq_true] at this
      rcases this with ⟨⟨g1, g2⟩, g3⟩ | g
      · refine .inr ⟨fun d hd => ?_, fun d hd => ?_, fun ⟨q1, q2⟩ => ?_⟩
        · rw [hd] at g1; simpa using g1
        · rw [hd] at g2; simpa using g2
        · simp [q1, q2] at g3
      · exact .inl g
  have wb2 : ∀ j, isWb P mu ops j = true → ∃ o, ops[j]? = some o ∧ cls P mu o = 2 := by
    intro j hj
    unfold isWb at hj
    split at hj
    · rename_i o ho
      refine ⟨o, ho, ?_⟩
      rcases cls_le (P := P) (mu := mu) o with g | g | g
      · simp [g] at hj
      · simp [g] at hj
      · exact g
    · cases hj
  refine ⟨fun j o ho => (main j o ho).1, ?_, ?_, ?_, ?_, ?_⟩
  · intro i j q o d hq ho hij hd hl
    rcases (main j o ho).2 i q hq hij with g | ⟨g, _, _⟩
    · exact g
    · exact absurd hl (g d hd).1
  · intro i j q o d hq ho hij hd hl
    rcases (main j o ho).2 i q hq hij with g | ⟨_, g, _⟩
    · exact g
    · exact absurd hl (g d hd)
  · intro i j q o d hq ho hij hd hl
    rcases (main j o ho).2 i q hq hij with g | ⟨g, _, _⟩
    · exact g
    · exact absurd hl (g d hd).2
  · intro i j hij hi hj
    obtain ⟨q, hq, hq2⟩ := wb2 i hi
    obtain ⟨o, ho, ho2⟩ := wb2 j hj
    rcases (main j o ho).2 i q hq hij with g | ⟨_, _, g⟩
    · exact g
    · exact absurd ⟨ho2, hq2⟩ g
  · intro i j o ho hi
    have := befs_ok ops.toList [] [] rfl (by simp) j o (by simpa using ho) i hi
    exact this

/-- What is done holds what must be ahead. -/
def Closed (ops : Array Oper) (D : Nat → Bool) : Prop := ∀ j o, ops[j]? = some o → D j = true → ∀ x ∈ o.after.toList, Region.binds .any x = true → D x.on = true
theorem Closed.ord (hR : Reg P mu ops B) (hC : Closed ops D) : ∀ (j : Nat), j < ops.size → D j = true → ∀ i, Go.Ab.ord B i j = true → D i = true := by
  intro j
  induction j using Nat.strongRecOn with
  | _ j ih =>
    intro hj hD i hi
    have ho := Array.getElem?_eq_getElem hj
    obtain ⟨x, h1, h2, h3⟩ := hR.edge i j _ ho hi
    have hx := hC j _ ho hD x h1 h2
    rcases h3 with g | g
    · rw [g]; exact hx
    · have hlt := hR.back j _ ho x h1 h2
      exact ih x.on hlt (by omega) hx i g
theorem Ready.ord (hR : Reg P mu ops B) (hC : Closed ops D) {j : Nat} {o : Oper} (ho : ops[j]? = some o) (hr : ∀ x ∈ o.after.toList, Region.binds .any x = true → D x.on = true) {i : Nat} (hi : Go.Ab.ord B i j = true) : D i = true := by
  have hj : j < ops.size := (Array.getElem?_eq_some_iff.mp ho).1
  obtain ⟨x, h1, h2, h3⟩ := hR.edge i j _ ho hi
  rcases h3 with g | g
  · rw [g]; exact hr x h1 h2
  · have hlt := hR.back j _ ho x h1 h2
    exact hC.ord hR x.on (by omega) (hr x h1 h2) i g

theorem putV_ne {env : Env} {d : Option Tmp} {v : V} {t : Nat} (h : d ≠ some t) : putV m env d v t = env t := by
  cases d with
  | none => rfl
  | some d => rw [putV_at, if_neg (fun g => h (by rw [g.2]))]
theorem putV_same {env env' : Env} {d : Option Tmp} {v : V} {t : Nat} (h : env t = env' t) : putV m env d v t = putV m env' d v t := by
  cases d with
  | none => exact h
  | some d => rw [putV_at, putV_at, h]
theorem putV_comm {env : Env} {d d' : Nat} {v v' : V} (h : d ≠ d') : putV m (putV m env (some d) v) (some d') v' = putV m (putV m env (some d') v') (some d) v := by
  funext t
  rw [putV_at, putV_at, putV_at, putV_at]
  by_cases h1 : d' < m ∧ t = d'
  · rw [if_pos h1, if_neg (fun g => h (g.2.symm.trans h1.2)), if_pos h1]
  · rw [if_neg h1]
    by_cases h2 : d < m ∧ t = d
    · rw [if_pos h2, if_pos h2]
    · rw [if_neg h2, if_neg h2, if_neg h1]

/-- The text's own environment. -/
theorem env_all (hF : Tr P mu T m ops B K r ops.size 0 env0 st0 [] [] f) : ∀ n, n ≤ ops.size → (f n).env = envN m ops f env0 (fun _ => true) n
  | 0, _ => hF.env
  | n + 1, h => by
    obtain ⟨o, k⟩ := hF.ok n (by omega) (by omega)
    rw [k.env, env_all hF n (by omega)]
    simp [envN, dstN, k.op]
theorem st_all (hF : Tr P mu T m ops B K r ops.size 0 env0 st0 [] [] f) : ∀ n, n < ops.size → (f (n + 1)).st ≠ (f n).st → (f n).ran = true ∧ isWb P mu ops n = true := by
  intro n hn hne
  obtain ⟨o, k⟩ := hF.ok n (by omega) (by omega)
  have hran : (f n).ran = true := by
    cases hq : (f n).ran with
    | true => rfl
    | false => exact absurd (k.skip hq).2 hne
  refine ⟨hran, ?_⟩
  rcases cls_le (P := P) (mu := mu) o with g | g | g
  · exact absurd (k.pure hran g).1 hne
  · exact absurd (k.load hran g).1 hne
  · simp [isWb, k.op, g]

/-- An operand of what is ready reads as in the text's order. -/
theorem look_same (hR : Reg P mu ops B) (hF : Tr P mu T m ops B K r ops.size 0 env0 st0 [] [] f) (hC : Closed ops D) {i : Nat} {o : Oper} (ho : ops[i]? = some o) (hni : D i = false)
    (hr : ∀ x ∈ o.after.toList, Region.binds .any x = true → D x.on = true) {t : Nat} (ht : t ∈ o.looksAt ops) : envN m ops f env0 D ops.size t = (f i).env t := by
  have hi : i < ops.size := (Array.getElem?_eq_some_iff.mp ho).1
  have part1 : ∀ n, n ≤ i → envN m ops f env0 D n t = envN m ops f env0 (fun _ => true) n t := by
    intro n
    induction n with
    | zero => intro _; rfl
    | succ n ih =>
      intro hn
      have hq := Array.getElem?_eq_getElem (show n < ops.size by omega)
      have ih := ih (by omega)
      simp only [envN]
      by_cases hd : dstN ops n = some t
      · have hDn : D n = true := by
          refine Ready.ord hR hC ho hr (hR.look1 n i _ o t hq ho (by omega) ?_ ht)
          simpa [dstN, hq] using hd
        rw [if_pos hDn]
        exact putV_same ih
      · rw [if_pos trivial, putV_ne hd]
        split
        · rw [putV_ne hd]; exact ih
        · exact ih
  have part2 : ∀ n, i ≤ n → n ≤ ops.size → envN m ops f env0 D n t = envN m ops f env0 D i t := by
    intro n
    induction n with
    | zero => intro h _; have : i = 0 := by omega
              subst this; rfl
    | succ n ih =>
      intro h1 h2
      by_cases hin : i = n + 1
      · rw [hin]
      · have ih := ih (by omega) (by omega)
        simp only [envN]
        split
        · rename_i hDn
          have hq := Array.getElem?_eq_getElem (show n < ops.size by omega)
          by_cases hd : dstN ops n = some t
          · have hni2 : n ≠ i := by rintro rfl; rw [hni] at hDn; cases hDn
            have := hC.ord hR n (by omega) hDn i (hR.look2 i n o _ t ho hq (by omega) (by simpa [dstN, hq] using hd) ht)
            rw [hni] at this; cases this
          · rw [putV_ne hd]; exact ih
        · exact ih
  rw [part2 ops.size (by omega) (Nat.le_refl _), part1 i (Nat.le_refl _), env_all hF i (by omega)]

/-- One more is done. -/
theorem envN_add (hR : Reg P mu ops B) (hC : Closed ops D) {i : Nat} {o : Oper} (ho : ops[i]? = some o) (hni : D i = false) {D' : Nat → Bool} (hD' : ∀ n, D' n = if n = i then true else D n) :
    ∀ n, n ≤ ops.size → envN m ops f env0 D' n = if i < n then putV m (envN m ops f env0 D n) o.dst (f i).v else envN m ops f env0 D n := by
  intro n
  induction n with
  | zero => intro _; simp [envN]
  | succ n ih =>
    intro hn
    have ih := ih (by omega)
    simp only [envN, hD']
    by_cases hni2 : n = i
    · subst hni2
      rw [ih, if_neg (Nat.lt_irrefl _)]
      simp [dstN, ho, hni]
    · rw [if_neg hni2, ih]
      by_cases hlt : i < n
      · simp only [if_pos hlt, if_pos (show i < n + 1 by omega)]
        by_cases hDn : D n = true
        · simp only [if_pos hDn]
          have hq := Array.getElem?_eq_getElem (show n < ops.size by omega)
          -- the two places are others
          cases hd1 : o.dst with
          | none => rfl
          | some d1 =>
            cases hd2 : dstN ops n with
            | none => rfl
            | some d2 =>
              have hne : d1 ≠ d2 := by
                rintro rfl
                have := hC.ord hR n (by omega) hDn i (hR.dst i n o _ d1 ho hq hlt hd1 (by simpa [dstN, hq] using hd2))
                rw [hni] at this; cases this
              exact putV_comm hne
        · simp only [if_neg hDn]
      · simp only [if_neg hlt, if_neg (show ¬ i < n + 1 by omega)]

theorem stN_cases (hR : Reg P mu ops B) (hF : Tr P mu T m ops B K r ops.size 0 env0 st0 [] [] f) (hC : Closed ops D) : ∀ n, n ≤ ops.size → stN P mu ops f st0 D n = (f n).st ∨ ∃ n0, n0 < n ∧ D n0 = false ∧ (f n0).ran = true ∧ isWb P mu ops n0 = true ∧ stN P mu ops f st0 D n = (f n0).st := by
  intro n
  induction n with
  | zero => intro _; left; exact hF.st.symm
  | succ n ih =>
    intro hn
    simp only [stN]
    rcases ih (by omega) with g | ⟨n0, g1, g2, g3, g4, g5⟩
    · by_cases hw : (f n).ran = true ∧ isWb P mu ops n = true
      · by_cases hD : D n = true
        · rw [if_pos (by simp [hD, hw.1, hw.2])]; exact .inl rfl
        · rw [if_neg (by simp [hD])]; exact .inr ⟨n, by omega, by simpa using hD, hw.1, hw.2, g⟩
      · rw [if_neg (by simp only [Bool.and_eq_true]; intro h; exact hw ⟨h.1.2, h.2⟩), g]
        left
        by_cases hs : (f (n + 1)).st = (f n).st
        · exact hs.symm
        · exact absurd (st_all hF n (by omega) hs) hw
    · by_cases hw : (D n && (f n).ran && isWb P mu ops n) = true
      · simp only [Bool.and_eq_true] at hw
        have := hC.ord hR n (by omega) hw.1.1 n0 (hR.wr n0 n g1 g4 hw.2)
        rw [g2] at this; cases this
      · rw [if_neg hw]
        exact .inr ⟨n0, by omega, g2, g3, g4, g5⟩

/-- What writes finds the state that it has in the text's order. -/
theorem st_write (hR : Reg P mu ops B) (hF : Tr P mu T m ops B K r ops.size 0 env0 st0 [] [] f) (hC : Closed ops D) {i : Nat} {o : Oper} (ho : ops[i]? = some o) (hni : D i = false) (hw : isWb P mu ops i = true)
    (hr : ∀ x ∈ o.after.toList, Region.binds .any x = true → D x.on = true) : (∀ n, i ≤ n → n ≤ ops.size → stN P mu ops f st0 D n = (f i).st) := by
  have hi : i < ops.size := (Array.getElem?_eq_some_iff.mp ho).1
  have at_i : stN P mu ops f st0 D i = (f i).st := by
    rcases stN_cases hR hF hC i (by omega) with g | ⟨n0, g1, g2, g3, g4, g5⟩
    · exact g
    · have := Ready.ord hR hC ho hr (hR.wr n0 i g1 g4 hw)
      rw [g2] at this; cases this
  intro n
  induction n with
  | zero => intro h _; have : i = 0 := by omega
            subst this; exact at_i
  | succ n ih =>
    intro h1 h2
    by_cases hin : i = n + 1
    · rw [← hin]; exact at_i
    · have ih := ih (by omega) (by omega)
      simp only [stN]
      by_cases hw2 : (D n && (f n).ran && isWb P mu ops n) = true
      · simp only [Bool.and_eq_true] at hw2
        have hne : n ≠ i := by rintro rfl; rw [hni] at hw2; cases hw2.1.1
        have := hC.ord hR n (by omega) hw2.1.1 i (hR.wr i n (by omega) hw hw2.2)
        rw [hni] at this; cases this
      · rw [if_neg hw2]; exact ih

theorem isW_of {n : Nat} (h : isWb P mu ops n = true) : IsW P mu ops n := by
  unfold isWb at h
  split at h
  · rename_i o ho
    simp only [Bool.and_eq_true, bne_iff_ne] at h
    exact ⟨o, ho, h.1, h.2⟩
  · cases h

/-- What is loaded is the same. -/
theorem st_load (hR : Reg P mu ops B) (hF : Tr P mu T m ops B K r ops.size 0 env0 st0 [] [] f) (hC : Closed ops D) {i : Nat} {o : Oper} (ho : ops[i]? = some o) (hni : D i = false) (hran : (f i).ran = true)
    (hr : ∀ x ∈ o.after.toList, Region.binds .any x = true → D x.on = true) {ag : Bool} {m : Nat} {p : V} (hl : IsL P mu ops f i ag m p) (h0 : ldv ag m p (f i).st = some (f i).v) : ldv ag m p (stN P mu ops f st0 D ops.size) = some (f i).v := by
  have hi : i < ops.size := (Array.getElem?_eq_some_iff.mp ho).1
  have at_i : ldv ag m p (stN P mu ops f st0 D i) = some (f i).v := by
    rcases stN_cases hR hF hC i (by omega) with g | ⟨n0, g1, g2, g3, g4, g5⟩
    · rw [g]; exact h0
    · rw [g5]
      refine hF.WL n0 i (by omega) g1 (by omega) g3 hran ag m p (isW_of g4) hl ?_
      cases ho2 : ord B n0 i with
      | false => rfl
      | true => have := Ready.ord hR hC ho hr ho2; rw [g2] at this; cases this
  have key : ∀ n, i ≤ n → n ≤ ops.size → ldv ag m p (stN P mu ops f st0 D n) = some (f i).v := by
    intro n
    induction n with
    | zero => intro h _; have : i = 0 := by omega
              subst this; exact at_i
    | succ n ih =>
      intro h1 h2
      by_cases hin : i = n + 1
      · rw [← hin]; exact at_i
      · have ih := ih (by omega) (by omega)
        simp only [stN]
        by_cases hw2 : (D n && (f n).ran && isWb P mu ops n) = true
        · rw [if_pos hw2]
          simp only [Bool.and_eq_true] at hw2
          have hne : n ≠ i := by rintro rfl; rw [hni] at hw2; cases hw2.1.1
          refine hF.LW i n (by omega) (by omega) (by omega) hran hw2.1.2 ag m p hl (isW_of hw2.2) ?_
          cases ho2 : ord B i n with
          | false => rfl
          | true => have := hC.ord hR n (by omega) hw2.1.1 i ho2; rw [hni] at this; cases this
        · rw [if_neg hw2]; exact ih
  exact key ops.size (by omega) (Nat.le_refl _)

theorem stN_add (hR : Reg P mu ops B) (hC : Closed ops D) {i : Nat} {o : Oper} (ho : ops[i]? = some o) (hni : D i = false) {D' : Nat → Bool} (hD' : ∀ n, D' n = if n = i then true else D n) :
    ∀ n, n ≤ ops.size → stN P mu ops f st0 D' n = if i < n ∧ (f i).ran = true ∧ isWb P mu ops i = true then (f (i + 1)).st else stN P mu ops f st0 D n := by
  intro n
  induction n with
  | zero => intro _; simp [stN]
  | succ n ih =>
    intro hn
    have ih := ih (by omega)
    simp only [stN, hD']
    by_cases hni2 : n = i
    · subst hni2
      simp only [ih, hni, Nat.lt_irrefl, false_and, if_false, Bool.false_and, Bool.true_and, if_true, Bool.false_eq_true, Nat.lt_succ_self, true_and]
      by_cases hw : (f n).ran = true ∧ isWb P mu ops n = true
      · rw [if_pos (by simp [hw.1, hw.2]), if_pos hw]
      · rw [if_neg (by simp only [Bool.and_eq_true]; exact hw), if_neg hw]
    · rw [if_neg hni2, ih]
      by_cases hlt : i < n ∧ (f i).ran = true ∧ isWb P mu ops i = true
      · simp only [if_pos hlt, if_pos (show i < n + 1 ∧ (f i).ran = true ∧ isWb P mu ops i = true from ⟨by omega, hlt.2⟩)]
        by_cases hw2 : (D n && (f n).ran && isWb P mu ops n) = true
        · simp only [Bool.and_eq_true] at hw2
          have := hC.ord hR n (by omega) hw2.1.1 i (hR.wr i n hlt.1 hlt.2.2 hw2.2)
          rw [hni] at this; cases this
        · rw [if_neg hw2]
      · simp only [if_neg hlt, if_neg (show ¬ (i < n + 1 ∧ (f i).ran = true ∧ isWb P mu ops i = true) from fun h => hlt ⟨by omega, h.2⟩)]
end Go.Ab
