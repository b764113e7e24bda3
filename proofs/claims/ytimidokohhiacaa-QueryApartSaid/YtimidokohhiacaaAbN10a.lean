import Derived.Test.YtimidokohhiacaaAbP09k
import Derived.Test.YtimidokohhiacaaAbN09f
import Derived.Test.YtimidokohhiacaaAbA10a
/- sinew/query: the walk of Check: paths. -/
namespace Go.Ab
open Go.Proofs Go.RowKit
set_option linter.unusedVariables false
set_option linter.unusedSimpArgs false
set_option maxRecDepth 100000
/-- Has a path kids as its kind wants them? -/
def shape1 (k : Int) (w : List UInt8) (n : Nat) : Bool := ((k == 2 || k == 3) && decide (2 ≤ n) || (k == 4 || (k == 5 || k == 6)) && n == 1) && w == []
/-- May a path be, so deep, with so many words left? How many are left then. -/
def Pth.fitsP : Pth → Nat → Int → Option Int
  | .mk k w l, d, left => if k = 1 then (if 0 < d ∧ l.length = 0 ∧ isWord w = true ∧ 0 ≤ left - 1 then some (left - 1) else none)
    else if shape1 k w l.length = true ∧ 0 < d then fitsL l (d - 1) left else none
where fitsL : List Pth → Nat → Int → Option Int
  | [], _, left => some left
  | p :: l, d, left => match p.fitsP d left with
    | none => none
    | some x => fitsL l d x
abbrev Pth.fitsL := Pth.fitsP.fitsL
theorem fits_eq (k : Int) (w : List UInt8) (l : List Pth) (d : Nat) (left : Int) : (Pth.mk k w l).fitsP d left = if k = 1 then (if 0 < d ∧ l.length = 0 ∧ isWord w = true ∧ 0 ≤ left - 1 then some (left - 1) else none)
    else if shape1 k w l.length = true ∧ 0 < d then Pth.fitsL l (d - 1) left else none := rfl
theorem fitsL_nil (d : Nat) (left : Int) : Pth.fitsL [] d left = some left := rfl
theorem fitsL_cons (p : Pth) (l : List Pth) (d : Nat) (left : Int) : Pth.fitsL (p :: l) d left = match p.fitsP d left with
    | none => none
    | some x => Pth.fitsL l d x := rfl
mutual
theorem fits_le : ∀ (p : Pth) (d : Nat) (left x : Int), p.fitsP d left = some x → 0 ≤ left → 0 ≤ x ∧ x ≤ left
  | .mk k w l, d, left, x, h, h0 => by
    rw [fits_eq] at h
    split at h
    · split at h
      · rename_i hc; cases h; omega
      · cases h
    · split at h
      · exact fitsL_le l _ _ _ h h0
      · cases h
theorem fitsL_le : ∀ (l : List Pth) (d : Nat) (left x : Int), Pth.fitsL l d left = some x → 0 ≤ left → 0 ≤ x ∧ x ≤ left
  | [], d, left, x, h, h0 => by cases h; omega
  | p :: l, d, left, x, h, h0 => by
    rw [fitsL_cons] at h
    cases hp : p.fitsP d left with
    | none => rw [hp] at h; cases h
    | some y =>
      rw [hp] at h
      have a := fits_le p d left y hp h0
      have b := fitsL_le l d y x h a.1
      omega
end
/-- What a walk over a path answers: whether it may be, and what is left. -/
def FitR (q : Nat) (st : St) (neg : Bool) (r : Option Int) (x : Res) : Prop := ∃ st' y, x = some (.ret (.bool (if neg then !r.isSome else r.isSome)), st') ∧ KsP q st st' ∧ st'.ob q = some (.cells [.int .i64 y]) ∧ ∀ z, r = some z → y = z
/-- The kids one by one. -/
theorem idx_kids {R : Nat → Fn} {d : Nat} {q a b : Nat} (l : List Pth) (t : Nat) (hl : l.length ≤ 1000000000) {st0 : St} (hq : q < st0.n) (ha : a < st0.n) (hb : b < st0.n) (haq : a ≠ q) (hbq : b ≠ q)
    (hR : ∀ p ∈ l, ∀ (st : St) (left : Int), 0 ≤ left → left ≤ 1000 → st.ob q = some (.cells [.int .i64 left]) → q < st.n → st.ob a = st0.ob a → st.ob b = st0.ob b → st0.n ≤ st.n → FitR q st true (p.fitsP d left) (R 77 [p.v, .ptr a 0, .ptr b 0] st)) :
    ∀ (n i : Nat) (left : Int) (st : St), 0 ≤ left → left ≤ 1000 → i ≤ l.length → l.length < n + i → KsP q st0 st → st.ob q = some (.cells [.int .i64 left]) →
      ∃ (r : Int) (st' : St) (y : Int), g93b1010 R n (.lst (l.map Pth.v) t) (.fn 77 [] [.ptr a 0, .ptr b 0]) (.int .i64 (l.length : Nat)) (.int .i64 (i : Nat)) st = some (.ret (.int .i64 r), st') ∧ decide (0 ≤ r) = !(Pth.fitsL (l.drop i) d left).isSome ∧ KsP q st0 st' ∧ st'.ob q = some (.cells [.int .i64 y]) ∧ ∀ z, Pth.fitsL (l.drop i) d left = some z → y = z := by
  intro n
  induction n with
  | zero => intro i left st h0 h1 hi hn; omega
  | succ n ih =>
    intro i left st h0 h1 hi hn hk ho
    rw [g93b1010]
    simp only [bin_lss]
    by_cases hil : i < l.length
    · have e4 : ∀ K, A.bin .add (.int .i64 (i : Nat)) (.int .i64 1) K = K (.int .i64 ((i + 1 : Nat) : Int)) := fun K => bin_inc (by omega) K
      have call : ∀ (v : V) (s : St) K, A.call (g93T R) (.fn 77 [] [.ptr a 0, .ptr b 0]) [v] s K = A.ret (R 77 [v.er1, .ptr a 0, .ptr b 0] s) K := fun v s K => rfl
      have kn := hk.n
      obtain ⟨s1, y, q1, k1, o1, hy⟩ := hR l[i] (List.getElem_mem hil) st left h0 h1 ho (by omega) (hk.ob a ha haq) (hk.ob b hb hbq) kn
      simp only [show ((i : Int) < (l.length : Int)) from by omega, decide_true, cond_true, iaddr_pth t hil, load_pth, call, pth_er]
      rw [q1, ret_ret, List.drop_eq_getElem_cons hil, fitsL_cons]
      cases h : l[i].fitsP d left with
      | none => exact ⟨i, s1, y, rfl, by rw [decide_eq_true (by omega)]; rfl, hk.trans k1, o1, fun z hz => by cases hz⟩
      | some x =>
        have hxy := hy x h
        subst hxy
        have hx := fits_le _ _ _ _ h h0
        show ∃ r st' z, A.cond (.bool false) _ _ = _ ∧ _
        rw [cond_false, e4]
        exact ih (i + 1) y s1 hx.1 (by omega) (by omega) (by omega) (hk.trans k1) o1
    · have : i = l.length := by omega
      subst this
      simp only [Int.lt_irrefl, decide_false, cond_false, List.drop_length, fitsL_nil]
      exact ⟨-1, st, left, rfl, rfl, hk, ho, fun z hz => by cases hz; rfl⟩
theorem bin_dec (d : Nat) (h : d ≤ 1000000) (K : V → Res) : A.bin .sub (.int .i64 (d : Nat)) (.int .i64 1) K = K (.int .i64 ((d : Int) - 1)) := bin_sub K (by omega) (by omega)
theorem fits_tail {R : Nat → Fn} {q c a b d : Nat} {k : Int} {w : List UInt8} {l : List Pth} {left : Int} {st0 s1 : St} (hk1 : k ≠ 1) (h0 : 0 ≤ left) (h1 : left ≤ 1000) (hd : d ≤ 1000) (hl : l.length ≤ 1000000000)
    (hR : 0 < d → ∀ (st : St), KsP q st0 st → st.ob q = some (.cells [.int .i64 left]) → st.ob a = some (.cells [.int .i64 (d : Nat)]) → st.ob b = some (.cells [.ptr q 0]) → a < st.n → b < st.n → FitR q st true (Pth.fitsL l (d - 1) left) (R 76 [.lst (l.map Pth.v) 0, .fn 77 [] [.ptr a 0, .ptr b 0]] st))
    (hk : KsP q st0 s1) (oc : s1.ob c = some (.cells (pthC (.mk k w l)))) (oa : s1.ob a = some (.cells [.int .i64 (d : Nat)])) (ob : s1.ob b = some (.cells [.ptr q 0])) (oq : s1.ob q = some (.cells [.int .i64 left])) (ha : a < s1.n) (hb : b < s1.n) (ok : Bool) (hok : ok = ((k == 2 || k == 3) && decide (2 ≤ l.length) || (k == 4 || (k == 5 || k == 6)) && l.length == 1)) :
    FitR q st0 false ((Pth.mk k w l).fitsP d left) (g43b1111 R (.ptr c 0) (.ptr a 0) (.ptr b 0) (.bool ok) s1) := by
  rw [fits_eq, if_neg hk1]
  have bad : ¬ (shape1 k w l.length = true ∧ 0 < d) → FitR q st0 false (if shape1 k w l.length = true ∧ 0 < d then Pth.fitsL l (d - 1) left else none) (some (.ret ((.bool false : V).er1), s1)) := fun h => by
    rw [if_neg h]
    exact ⟨s1, left, rfl, hk, oq, fun z hz => by cases hz⟩
  unfold g43b1111
  rw [un_not]
  have hsh : shape1 k w l.length = (ok && w == []) := by rw [hok]; rfl
  cases ok with
  | false => rw [Bool.not_false, guard_tf]; exact bad (fun h => by rw [hsh] at h; cases h.1)
  | true =>
    have la : ∀ K : V → St → Res, A.load false 1 (.ptr a 0) s1 K = K (.int .i64 (d : Nat)) s1 := fun K => by rw [load_ob, oa]; rfl
    have lw : ∀ K : V → St → Res, A.load false 1 (.ptr c 1) s1 K = K (.str w) s1 := fun K => by rw [load_ob, oc]; rfl
    have ll : ∀ K : V → St → Res, A.load false 1 (.ptr c 2) s1 K = K (.lst (l.map Pth.v) 0) s1 := fun K => by rw [load_ob, oc]; rfl
    rw [Bool.not_true, guard_ff, la, bin_leq]
    by_cases hd0 : 0 < d
    · rw [decide_eq_false (show ¬ ((d : Int) ≤ 0) by omega), guard_ff]
      rw [faddr_ptr, Nat.zero_add, lw, eql_str, if_pos rfl]
      by_cases hw : w = []
      · rw [show (w != []) = false from by rw [hw]; rfl, cond_false, if_pos ⟨by rw [hsh, hw]; rfl, hd0⟩]
        unfold g43b11111
        rw [faddr_ptr, Nat.zero_add, ll, er1_lst]
        obtain ⟨s2, y, q2, k2, o2, hy⟩ := hR hd0 s1 hk oq oa ob ha hb
        rw [show (V.fn 77 [] [.ptr a 0, .ptr b 0]).er1 = .fn 77 [] [.ptr a 0, .ptr b 0] from rfl, q2, ret_ret]
        refine ⟨s2, y, ?_, hk.trans k2, o2, hy⟩
        cases (Pth.fitsL l (d - 1) left).isSome <;> rfl
      · rw [show (w != []) = true from bne_iff_ne.2 hw, cond_true]
        exact bad (fun h => by rw [hsh] at h; simp at h; exact hw h.1)
    · rw [decide_eq_true (show (d : Int) ≤ 0 by omega), guard_tf]
      exact bad (fun h => hd0 h.2)
theorem fits_s1 {R : Nat → Fn} {q d : Nat} {p : Pth} {left : Int} {st : St} (h0 : 0 ≤ left) (h1 : left ≤ 1000) (hd : d ≤ 1000) (hl : p.kids.length ≤ 1000000000)
    (hR : ∀ a b, 0 < d → ∀ (s : St), KsP q st s → s.ob q = some (.cells [.int .i64 left]) → s.ob a = some (.cells [.int .i64 (d : Nat)]) → s.ob b = some (.cells [.ptr q 0]) → a < s.n → b < s.n → st.n ≤ a → st.n ≤ b → FitR q s true (Pth.fitsL p.kids (d - 1) left) (R 76 [.lst (p.kids.map Pth.v) 0, .fn 77 [] [.ptr a 0, .ptr b 0]] s))
    (oq : st.ob q = some (.cells [.int .i64 left])) (hq : q < st.n) : FitR q st false (p.fitsP d left) (f43 R p.v (.int .i64 (d : Nat)) (.ptr q 0) st) := by
  obtain ⟨k, w, l⟩ := p
  simp only [Pth.kids] at hl hR
  unfold f43
  have bx : ∀ K : V → St → Res, A.box (Pth.mk k w l).v st K = K (.ptr st.n 0) (st.new (.cells (pthC (.mk k w l)))) := fun K => by rw [pth_c]; rfl
  rw [bx]
  have k1 : KsP q st (st.new (.cells (pthC (.mk k w l)))) := (KsP.refl q st).new _
  have oc1 := new_at st (.cells (pthC (.mk k w l)))
  have oq1 : (st.new (.cells (pthC (.mk k w l)))).ob q = _ := (new_ne _ _ (by omega)).trans oq
  have n1 : (st.new (.cells (pthC (.mk k w l)))).n = st.n + 1 := by simp
  generalize st.new (.cells (pthC (.mk k w l))) = s1 at k1 oc1 oq1 n1 ⊢
  have bx2 : ∀ (x : Int) (s : St) (K : V → St → Res), A.box (.int .i64 x) s K = K (.ptr s.n 0) (s.new (.cells [.int .i64 x])) := fun x s K => rfl
  have bx3 : ∀ (x : Nat) (s : St) (K : V → St → Res), A.box (.ptr x 0) s K = K (.ptr s.n 0) (s.new (.cells [.ptr x 0])) := fun x s K => rfl
  rw [bx2]
  have k2 : KsP q st (s1.new (.cells [.int .i64 (d : Nat)])) := k1.new _
  have oc2 : (s1.new (.cells [.int .i64 (d : Nat)])).ob st.n = _ := (new_ne _ _ (by omega)).trans oc1
  have oq2 : (s1.new (.cells [.int .i64 (d : Nat)])).ob q = _ := (new_ne _ _ (by omega)).trans oq1
  have oa2 := new_at s1 (.cells [.int .i64 (d : Nat)])
  have n2 : (s1.new (.cells [.int .i64 (d : Nat)])).n = s1.n + 1 := by simp
  generalize s1.new (.cells [.int .i64 (d : Nat)]) = s2 at k2 oc2 oq2 oa2 n2 ⊢
  rw [bx3]
  have k3 : KsP q st (s2.new (.cells [.ptr q 0])) := k2.new _
  have oc3 : (s2.new (.cells [.ptr q 0])).ob st.n = _ := (new_ne _ _ (by omega)).trans oc2
  have oq3 : (s2.new (.cells [.ptr q 0])).ob q = _ := (new_ne _ _ (by omega)).trans oq2
  have oa3 : (s2.new (.cells [.ptr q 0])).ob s1.n = _ := (new_ne _ _ (by omega)).trans oa2
  have ob3 := new_at s2 (.cells [.ptr q 0])
  have n3 : (s2.new (.cells [.ptr q 0])).n = s2.n + 1 := by simp
  generalize s2.new (.cells [.ptr q 0]) = s3 at k3 oc3 oq3 oa3 ob3 n3 ⊢
  have lk : ∀ K : V → St → Res, A.load false 1 (.ptr st.n 0) s3 K = K (.int .i64 k) s3 := fun K => by rw [load_ob, oc3]; rfl
  have ll : ∀ K : V → St → Res, A.load false 1 (.ptr st.n 2) s3 K = K (.lst (l.map Pth.v) 0) s3 := fun K => by rw [load_ob, oc3]; rfl
  have lb : ∀ (s : St), s.ob s2.n = s3.ob s2.n → ∀ K : V → St → Res, A.load false 1 (.ptr s2.n 0) s K = K (.ptr q 0) s := fun s hs K => by rw [load_ob, hs, ob3]; rfl
  have la : ∀ (s : St), s.ob s1.n = s3.ob s1.n → ∀ K : V → St → Res, A.load false 1 (.ptr s1.n 0) s K = K (.int .i64 (d : Nat)) s := fun s hs K => by rw [load_ob, hs, oa3]; rfl
  have lq : ∀ K : V → St → Res, A.load false 1 (.ptr q 0) s3 K = K (.int .i64 left) s3 := fun K => by rw [load_ob, oq3]; rfl
  simp only [faddr_ptr, Nat.zero_add, ll, lenL_lst, List.length_map, lk]
  unfold g43b11101
  rw [eql_int, if_neg Bool.false_ne_true]
  by_cases hk1 : k = 1
  · -- a word
    rw [show (k == 1) = true from by rw [hk1]; rfl, cond_true, lb s3 rfl, nilc_ptr, lq, bin_sub _ (by omega) (by omega), nilc_ptr]
    have so : ∀ K : St → Res, A.store 1 (.ptr q 0) (.int .i64 (left - 1)) s3 K = K (s3.put q (.cells [.int .i64 (left - 1)])) := fun K => by rw [store_ob _ _ _ _ _ rfl, oq3]; rfl
    rw [so]
    have o4a : (s3.put q (.cells [.int .i64 (left - 1)])).ob s1.n = s3.ob s1.n := put_ne _ _ (by omega)
    have o4b : (s3.put q (.cells [.int .i64 (left - 1)])).ob s2.n = s3.ob s2.n := put_ne _ _ (by omega)
    have o4c : (s3.put q (.cells [.int .i64 (left - 1)])).ob st.n = _ := (put_ne _ _ (by omega)).trans oc3
    have o4q := put_at s3 q (.cells [.int .i64 (left - 1)])
    have k4 := k3.putP (.cells [.int .i64 (left - 1)])
    generalize s3.put q (.cells [.int .i64 (left - 1)]) = s4 at o4a o4b o4c o4q k4 ⊢
    have lq4 : ∀ K : V → St → Res, A.load false 1 (.ptr q 0) s4 K = K (.int .i64 (left - 1)) s4 := fun K => by rw [load_ob, o4q]; rfl
    have lw4 : ∀ K : V → St → Res, A.load false 1 (.ptr st.n 1) s4 K = K (.str w) s4 := fun K => by rw [load_ob, o4c]; rfl
    rw [la s4 o4a, bin_gtr]
    have bad : ¬ (0 < d ∧ l.length = 0 ∧ isWord w = true ∧ 0 ≤ left - 1) → FitR q st false ((Pth.mk k w l).fitsP d left) (some (.ret ((.bool false : V).er1), s4)) := fun h => by
      rw [fits_eq, if_pos hk1, if_neg h]
      exact ⟨s4, left - 1, rfl, k4, o4q, fun z hz => by cases hz⟩
    by_cases hd0 : 0 < d
    · rw [decide_eq_true (show (0 : Int) < (d : Int) by omega), guard_tt, eql_int, if_neg Bool.false_ne_true]
      unfold g43b1110101010_7
      by_cases hl0 : l.length = 0
      · rw [show (((l.length : Nat) : Int) == 0) = true from by rw [hl0]; rfl, guard_tt]
        simp only [faddr_ptr, Nat.zero_add, lw4, er1_str, word_s, ret_ret]
        cases hw : isWord w with
        | false => rw [guard_ft]; exact bad (fun h => by rw [h.2.2.1] at hw; cases hw)
        | true =>
          rw [guard_tt]
          simp only [lb s4 o4b, nilc_ptr, lq4, bin_geq, er1_bool]
          rw [fits_eq, if_pos hk1]
          by_cases hx : 0 ≤ left - 1
          · rw [if_pos ⟨hd0, hl0, hw, hx⟩]
            exact ⟨s4, left - 1, by rw [decide_eq_true hx]; rfl, k4, o4q, fun z hz => by cases hz; rfl⟩
          · rw [if_neg (fun h => hx h.2.2.2)]
            exact ⟨s4, left - 1, by rw [decide_eq_false hx]; rfl, k4, o4q, fun z hz => by cases hz⟩
      · rw [show (((l.length : Nat) : Int) == 0) = false from by rw [beq_eq_false_iff_ne]; omega, guard_ft]
        exact bad (fun h => hl0 h.2.1)
    · rw [decide_eq_false (show ¬ ((0 : Int) < (d : Int)) by omega), guard_ft]
      unfold g43b1110101010_7
      rw [guard_ft]
      exact bad (fun h => hd0 h.1)
  · rw [show (k == 1) = false from beq_eq_false_iff_ne.2 hk1, cond_false]
    have tail : ∀ ok : Bool, ok = ((k == 2 || k == 3) && decide (2 ≤ l.length) || (k == 4 || (k == 5 || k == 6)) && l.length == 1) → FitR q st false ((Pth.mk k w l).fitsP d left) (g43b1111 R (.ptr st.n 0) (.ptr s1.n 0) (.ptr s2.n 0) (.bool ok) s3) := fun ok hok =>
      fits_tail hk1 h0 h1 hd hl (fun hd0 s ks oqs oas obs hns hbs => hR s1.n s2.n hd0 s ks oqs oas obs hns hbs (by omega) (by omega)) k3 oc3 oa3 ob3 oq3 (by omega) (by omega) ok hok
    have e1 : (((l.length : Nat) : Int) == 1) = (l.length == 1) := by
      by_cases h : l.length = 1
      · rw [h]; rfl
      · rw [beq_eq_false_iff_ne.2 h, beq_eq_false_iff_ne]; omega
    have more : ∀ c : Bool, (c = true ↔ k = 2 ∨ k = 3) → FitR q st false ((Pth.mk k w l).fitsP d left) (g43b111010111 R (.ptr st.n 0) (.ptr s1.n 0) (.ptr s2.n 0) (.int .i64 (l.length : Nat)) (.bool false) (.int .i64 k) (.bool c) s3) := fun c hc => by
      unfold g43b111010111
      cases c with
      | true =>
        have h23 := hc.1 rfl
        rw [cond_true, bin_geq]
        refine tail _ ?_
        have e2 : decide ((2 : Int) ≤ ((l.length : Nat) : Int)) = decide (2 ≤ l.length) := by
          by_cases h : 2 ≤ l.length
          · rw [decide_eq_true h, decide_eq_true (by omega)]
          · rw [decide_eq_false h, decide_eq_false (by omega)]
        rw [e2]
        rcases h23 with rfl | rfl <;> simp
      | false =>
        have h2 : k ≠ 2 := fun h => by have := hc.2 (.inl h); cases this
        have h3 : k ≠ 3 := fun h => by have := hc.2 (.inr h); cases this
        rw [cond_false, eql_int, if_neg Bool.false_ne_true]
        by_cases h4 : k = 4
        · rw [show (k == 4) = true from by rw [h4]; rfl, cond_true, cond_true, eql_int, if_neg Bool.false_ne_true, e1]
          refine tail _ ?_
          subst h4; simp
        rw [show (k == 4) = false from beq_eq_false_iff_ne.2 h4, cond_false, eql_int, if_neg Bool.false_ne_true]
        by_cases h5 : k = 5
        · rw [show (k == 5) = true from by rw [h5]; rfl, cond_true, cond_true, eql_int, if_neg Bool.false_ne_true, e1]
          refine tail _ ?_
          subst h5; simp
        rw [show (k == 5) = false from beq_eq_false_iff_ne.2 h5, cond_false, eql_int, if_neg Bool.false_ne_true]
        by_cases h6 : k = 6
        · rw [show (k == 6) = true from by rw [h6]; rfl, cond_true, eql_int, if_neg Bool.false_ne_true, e1]
          refine tail _ ?_
          subst h6; simp
        rw [show (k == 6) = false from beq_eq_false_iff_ne.2 h6, cond_false]
        refine tail _ ?_
        rw [beq_eq_false_iff_ne.2 h2, beq_eq_false_iff_ne.2 h3, beq_eq_false_iff_ne.2 h4, beq_eq_false_iff_ne.2 h5, beq_eq_false_iff_ne.2 h6]; rfl
    rw [eql_int, if_neg Bool.false_ne_true]
    by_cases h2 : k = 2
    · rw [show (k == 2) = true from by rw [h2]; rfl, cond_true]
      exact more true (by simp [h2])
    · rw [show (k == 2) = false from beq_eq_false_iff_ne.2 h2, cond_false, eql_int, if_neg Bool.false_ne_true]
      refine more _ ?_
      rw [beq_iff_eq]
      exact ⟨.inr, fun h => h.resolve_left h2⟩
theorem fits_n : ∀ (d n : Nat), 4 * d ≤ n → d ≤ 1000 → ∀ (p : Pth) (q : Nat) (left : Int) (st : St), p.nd ≤ 1000000 → 0 ≤ left → left ≤ 1000 → st.ob q = some (.cells [.int .i64 left]) → q < st.n →
    FitR q st false (p.fitsP d left) (G43 (n + 1) 43 [p.v, .int .i64 (d : Nat), .ptr q 0] st)
  | 0, n, hn, hd, p, q, left, st, hp, h0, h1, oq, hq => by
    rw [G43_43_eq]
    have hkl : p.kids.length ≤ 1000000 := by
      obtain ⟨k, w, l⟩ := p
      rw [nd_eq] at hp
      have := ndl_len l
      show l.length ≤ _; omega
    exact fits_s1 h0 h1 (by omega) (by omega) (fun a b h => absurd h (by omega)) oq hq
  | d + 1, n, hn, hd, p, q, left, st, hp, h0, h1, oq, hq => by
    obtain ⟨m, rfl⟩ : ∃ m, n = m + 4 := ⟨n - 4, by omega⟩
    rw [G43_43_eq]
    have hkl : Pth.ndl p.kids ≤ 1000000 := by
      obtain ⟨k, w, l⟩ := p
      rw [nd_eq] at hp
      show Pth.ndl l ≤ _; omega
    have hkl2 := ndl_len p.kids
    refine fits_s1 h0 h1 (by omega) (by omega) (fun a b _ s ks oqs oas obs ha hb hna hnb => ?_) oq hq
    have hqs : q < s.n := by have := ks.n; omega
    rw [show d + 1 - 1 = d from rfl, G43_76_eq]
    unfold f76
    rw [er1_lst, show (V.fn 77 [] [.ptr a 0, .ptr b 0]).er1 = .fn 77 [] [.ptr a 0, .ptr b 0] from rfl, G43_93_eq]
    unfold f93
    rw [lenL_lst, List.length_map]
    obtain ⟨r, s2, y, q2, hr, k2, o2, hy⟩ := idx_kids (R := G43 (m + 2)) (d := d) (q := q) (a := a) (b := b) p.kids 0 (by omega) (st0 := s) hqs ha hb (by omega) (by omega) (fun pk hpk sx lx hx0 hx1 oqx hqx oax obx hnx => by
      have hm := ndl_mem hpk
      rw [G43_77_eq]
      unfold f77
      have bx : ∀ K : V → St → Res, A.box pk.v sx K = K (.ptr sx.n 0) (sx.new (.cells (pthC pk))) := fun K => by rw [pth_c]; rfl
      rw [bx]
      have o1 := new_at sx (.cells (pthC pk))
      have oq1 : (sx.new (.cells (pthC pk))).ob q = _ := (new_ne _ _ (by omega)).trans oqx
      have oa1 : (sx.new (.cells (pthC pk))).ob a = _ := (new_ne _ _ (by omega)).trans (oax.trans oas)
      have ob1 : (sx.new (.cells (pthC pk))).ob b = _ := (new_ne _ _ (by omega)).trans (obx.trans obs)
      have k1 : KsP q sx (sx.new (.cells (pthC pk))) := (KsP.refl q sx).new _
      have n1 : (sx.new (.cells (pthC pk))).n = sx.n + 1 := by simp
      generalize sx.new (.cells (pthC pk)) = s5 at o1 oq1 oa1 ob1 k1 n1 ⊢
      have l1 : ∀ K : V → St → Res, A.load true 3 (.ptr sx.n 0) s5 K = K pk.v s5 := fun K => by rw [load_obA, o1, pth_c]; rfl
      have l2 : ∀ K : V → St → Res, A.load false 1 (.ptr a 0) s5 K = K (.int .i64 ((d + 1 : Nat) : Int)) s5 := fun K => by rw [load_ob, oa1]; rfl
      have l3 : ∀ K : V → St → Res, A.load false 1 (.ptr b 0) s5 K = K (.ptr q 0) s5 := fun K => by rw [load_ob, ob1]; rfl
      rw [l1, l2, bin_dec (d + 1) (by omega), show (((d + 1 : Nat) : Int) - 1) = ((d : Nat) : Int) from by omega, l3, pth_er, er1_int, er1_ptr]
      obtain ⟨s6, y, q6, k6, o6, hy⟩ := fits_n d m (by omega) (by omega) pk q lx s5 (by omega) hx0 hx1 oq1 (by omega)
      rw [q6, ret_ret, un_not, er1_bool]
      exact ⟨s6, y, rfl, k1.trans k6, o6, hy⟩) big 0 left s h0 h1 (by omega) (lt_big (by omega)) (KsP.refl q s) oqs
    rw [show (.int .i64 0 : V) = .int .i64 ((0 : Nat) : Int) from rfl, q2, ret_ret]
    rw [List.drop_zero] at hr hy
    refine ⟨s2, y, ?_, k2, o2, hy⟩
    rw [show (.int .i64 ((0 : Nat) : Int) : V) = .int .i64 0 from rfl, bin_geq, er1_bool, hr]; rfl
theorem fits_s (p : Pth) (q : Nat) (d : Nat) (hd : d ≤ 1000) (left : Int) (st : St) (hp : p.nd ≤ 1000000) (h0 : 0 ≤ left) (h1 : left ≤ 1000) (oq : st.ob q = some (.cells [.int .i64 left])) (hq : q < st.n) :
    FitR q st false (p.fitsP d left) (s43 [p.v, .int .i64 (d : Nat), .ptr q 0] st) := by
  rw [s43_n]
  obtain ⟨M, hM, hM2⟩ := big_succ
  rw [hM]
  exact fits_n d M (by omega) hd p q left st hp h0 h1 oq hq
end Go.Ab
