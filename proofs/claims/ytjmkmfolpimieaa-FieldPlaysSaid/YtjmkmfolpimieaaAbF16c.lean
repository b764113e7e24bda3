import Derived.Test.YtjmkmfolpimieaaAbF16b
/- sinew/field: To. -/
namespace Go.Ab
open Go.Proofs Go.RowKit
set_option linter.unusedVariables false
set_option linter.unusedSimpArgs false
set_option maxRecDepth 100000
/-- Whether a number's packet goes to a node. -/
def toK (f : Fd) (k : Int) (x : Int) : Bool := (findR f x).1.to == k
structure Clo (st : St) (c1 c2 d : Nat) (k : Int) : Prop where
  o1 : st.ob c1 = some (.cells [.ptr d 0])
  o2 : st.ob c2 = some (.cells [.int .i64 k])
theorem clo_s {st : St} {d m c1 c2 : Nat} {f : Fd} {k : Int} (h : FAt st d m f) (c : Clo st c1 c2 d k) (x : Int) : s29 [.int .i64 x, .ptr c1 0, .ptr c2 0] st = some (.ret (.bool !(toK f k x)), st) := by
  rw [s29_eq]
  unfold f29
  obtain ⟨l0, l1, l2⟩ := h.ld
  have w1 : ∀ K, A.load false 1 (.ptr c1 0) st K = K (.ptr d 0) st := fun K => by simp [c.o1]
  have w2 : ∀ K, A.load false 1 (.ptr c2 0) st K = K (.int .i64 k) st := fun K => by simp [c.o2]
  have w3 : ldv false 1 (.ptr c2 0) st = some (.int .i64 k) := by
    unfold ldv
    rw [w2]; rfl
  have fl : ∀ (p : Pk) K, A.field false 1 2 (.agg (pkC p)) K = K (.int .i64 p.to) := fun p K => rfl
  simp only [w1, nilc_ptr, faddr_ptr, Nat.zero_add, l2, look_p h, Bool.false_eq_true, if_false, kid_eq, noP_ret, fl, w2, w3, chk_same, eql_int, if_true, er1_bool]
  rfl
def fbad (q : Int → Bool) : List Int → Nat → Int
  | [], _ => -1
  | x :: l, i => if q x = true then fbad q l (i + 1) else (i : Int)
theorem fbad_cases (q : Int → Bool) : ∀ (l : List Int) (i : Nat), (fbad q l i = -1 ∧ ∀ x ∈ l, q x = true) ∨ ∃ j, fbad q l i = ((i + j : Nat) : Int) ∧ j < l.length ∧ (∀ x ∈ l.take j, q x = true) ∧ (∀ x, l[j]? = some x → q x = false)
  | [], i => .inl ⟨rfl, by simp⟩
  | x :: l, i => by
    unfold fbad
    by_cases hx : q x = true
    · rw [if_pos hx]
      rcases fbad_cases q l (i + 1) with ⟨h1, h2⟩ | ⟨j, h1, h2, h3, h4⟩
      · refine .inl ⟨h1, fun y hy => ?_⟩
        rcases List.mem_cons.1 hy with g | g
        · rw [g]; exact hx
        · exact h2 y g
      · refine .inr ⟨j + 1, by rw [h1]; congr 1; omega, by simpa using h2, fun y hy => ?_, fun y hy => h4 y (by simpa using hy)⟩
        rw [List.take_succ_cons] at hy
        rcases List.mem_cons.1 hy with g | g
        · rw [g]; exact hx
        · exact h3 y g
    · rw [if_neg hx]
      exact .inr ⟨0, by simp, by simp, by simp, fun y hy => by simp at hy; rw [← hy]; simpa using hx⟩
theorem call33 (c1 c2 : Nat) (x : Int) (st : St) (K : V → St → Res) : A.call g33T (.fn 29 [] [.ptr c1 0, .ptr c2 0]) [.int .i64 x] st K = A.ret (s29 [.int .i64 x, .ptr c1 0, .ptr c2 0] st) K := rfl
theorem call28 (c1 c2 : Nat) (x : Int) (st : St) (K : V → St → Res) : A.call g28T (.fn 29 [] [.ptr c1 0, .ptr c2 0]) [.int .i64 x] st K = A.ret (s29 [.int .i64 x, .ptr c1 0, .ptr c2 0] st) K := rfl
theorem index_loop {st0 st : St} {d m c1 c2 : Nat} {f : Fd} {k : Int} (h : FAt st d m f) (c : Clo st c1 c2 d k) {v : V} {xs zs : List Int} (hv : IL st0 st v xs zs) (hl : xs.length ≤ 100000) : ∀ (n i : Nat), i ≤ xs.length → xs.length < n + i →
    g33b1010 n v (.fn 29 [] [.ptr c1 0, .ptr c2 0]) (.int .i64 (xs.length : Nat)) (.int .i64 (i : Nat)) st = some (.ret (.int .i64 (fbad (toK f k) (xs.drop i) i)), st) := by
  intro n
  induction n with
  | zero => intro i hi hn; omega
  | succ n ih =>
    intro i hi hn
    unfold g33b1010
    by_cases hil : i < xs.length
    · have e4 : ∀ K, A.bin .add (.int .i64 (i : Nat)) (.int .i64 1) K = K (.int .i64 ((i + 1 : Nat) : Int)) := fun K => bin_inc (by omega) K
      rw [List.drop_eq_getElem_cons hil]
      simp only [bin_lss, show ((i : Int) < (xs.length : Int)) from by omega, decide_true, cond_true, hv.at hil, call33, clo_s h c, ret_ret]
      unfold fbad
      cases hq : toK f k xs[i] with
      | true =>
        simp only [Bool.not_true, cond_false, e4, if_true]
        exact ih (i + 1) (by omega) (by omega)
      | false =>
        simp only [Bool.not_false, cond_true, er1_int, Bool.false_eq_true, if_false]
    · have : i = xs.length := by omega
      subst this
      simp only [bin_lss, Int.lt_irrefl, decide_false, cond_false, er1_int, List.drop_length]
      rfl
theorem index_s {st0 st : St} {d m c1 c2 : Nat} {f : Fd} {k : Int} (h : FAt st d m f) (c : Clo st c1 c2 d k) {v : V} {xs zs : List Int} (hv : IL st0 st v xs zs) (hl : xs.length ≤ 100000) :
    s33 [v, .fn 29 [] [.ptr c1 0, .ptr c2 0]] st = some (.ret (.int .i64 (fbad (toK f k) xs 0)), st) := by
  rw [s33_eq]
  unfold f33
  rw [hv.len]
  exact index_loop h c hv hl big 0 (by omega) (lt_big (by omega))
theorem take_set (L : List Int) (i : Nat) (x : Int) (h : i < L.length) : (L.set i x).take (i + 1) = L.take i ++ [x] := by
  rw [List.take_add_one, List.take_set_of_le (Nat.le_refl _), List.getElem?_set_self h]; rfl
theorem del_loop {st0 : St} {d m c1 c2 id : Nat} {f : Fd} {k : Int} {xs : List Int} (hl : xs.length ≤ 100000) (h0 : ∀ st, Ks st0 st → FAt st d m f) (hc0 : ∀ st, Ks st0 st → Clo st c1 c2 d k) (hid : st0.n ≤ id) : ∀ (n i j : Nat) (st : St) (L : List Int), i ≤ j → j ≤ xs.length → xs.length < n + j → L.length = xs.length → L.take i = (xs.take j).filter (toK f k) → L.drop j = xs.drop j → st.ob id = some (.cells (intsV L)) → Ks st0 st → id < st.n →
    ∃ st' zs, g28b111010 n (.sl id 0 xs.length 1) (.fn 29 [] [.ptr c1 0, .ptr c2 0]) (.int .i64 (i : Nat)) (.int .i64 (j : Nat)) st = some (.ret (.sl id 0 (xs.filter (toK f k)).length 1), st') ∧ Ks st0 st' ∧ st'.ob id = some (.cells (intsV (xs.filter (toK f k) ++ zs))) ∧ id < st'.n := by
  intro n
  induction n with
  | zero => intro i j st L hij hj hn; omega
  | succ n ih =>
    intro i j st L hij hj hn hL ht hd hob hk hidn
    unfold g28b111010
    simp only [lenL_sl, bin_lss]
    by_cases hjl : j < xs.length
    · have hLj : L[j]'(by omega) = xs[j] := by
        have e1 := List.drop_eq_getElem_cons (l := L) (i := j) (by omega)
        have e2 := List.drop_eq_getElem_cons hjl
        rw [hd, e2] at e1
        exact (List.cons.inj e1).1.symm
      have hdn : L.drop (j + 1) = xs.drop (j + 1) := by
        have := congrArg List.tail hd
        simpa using this
      have ld : ∀ K, (A.iaddr 1 (.sl id 0 xs.length 1) (.int .i64 (j : Nat)) fun a => A.load false 1 a st K) = K (.int .i64 xs[j]) st := fun K => by
        have : A.iaddr 1 (.sl id 0 xs.length 1) (.int .i64 (j : Nat)) (fun a => A.load false 1 a st K) = A.load false 1 (.ptr id j) st K := by simp [A.iaddr, hjl]
        rw [this]
        simp [hob, intsV, show j < L.length by omega, hLj]
      have e4 : ∀ K, A.bin .add (.int .i64 (j : Nat)) (.int .i64 1) K = K (.int .i64 ((j + 1 : Nat) : Int)) := fun K => bin_inc (by omega) K
      have htk : (xs.take (j + 1)).filter (toK f k) = (xs.take j).filter (toK f k) ++ (if toK f k xs[j] = true then [xs[j]] else []) := by
        rw [List.take_add_one, List.getElem?_eq_getElem hjl, List.filter_append]
        congr 1
        cases hq : toK f k xs[j] <;> simp [hq]
      simp only [show ((j : Int) < (xs.length : Int)) from by omega, decide_true, cond_true, ld, call28, clo_s (h0 st hk) (hc0 st hk), ret_ret, un_not, Bool.not_not]
      unfold g28b111010010011
      cases hq : toK f k xs[j] with
      | true =>
        rw [hq, if_pos rfl] at htk
        have e5 : ∀ K, A.bin .add (.int .i64 (i : Nat)) (.int .i64 1) K = K (.int .i64 ((i + 1 : Nat) : Int)) := fun K => bin_inc (by omega) K
        have sv : ∀ K, (A.iaddr 1 (.sl id 0 xs.length 1) (.int .i64 (i : Nat)) fun a => A.store 1 a (.int .i64 xs[j]) st K) = K (st.put id (.cells (intsV (L.set i xs[j])))) := fun K => by
          have : A.iaddr 1 (.sl id 0 xs.length 1) (.int .i64 (i : Nat)) (fun a => A.store 1 a (.int .i64 xs[j]) st K) = A.store 1 (.ptr id i) (.int .i64 xs[j]) st K := by simp [A.iaddr, show i < xs.length by omega]
          rw [this, store_int, hob, obo_some, if_pos (by simp; omega)]
          congr 3
          unfold intsV; rw [List.map_set]
        simp only [cond_true, sv, e5, e4]
        exact ih (i + 1) (j + 1) _ (L.set i xs[j]) (by omega) (by omega) (by omega) (by simp [hL]) (by rw [take_set _ _ _ (by omega), ht, htk]) (by rw [List.drop_set_of_lt (by omega), hdn]) (put_at _ _ _) (hk.put hid _) (by simpa using hidn)
      | false =>
        rw [hq] at htk
        simp only [cond_false, e4]
        exact ih i (j + 1) st L (by omega) (by omega) (by omega) hL (by rw [htk]; simpa using ht) hdn hob hk hidn
    · have hjj : j = xs.length := by omega
      subst hjj
      rw [List.take_length] at ht
      have hil : (xs.filter (toK f k)).length = i := by rw [← ht, List.length_take]; omega
      have s1 : ∀ K, A.slice 1 (.sl id 0 xs.length 1) (some (.int .i64 (i : Nat))) none none K = K (.sl id i (xs.length - i) 1) := fun K => by
        simp [A.slice, bnd, hij]
      have s2 : ∀ K, A.slice 1 (.sl id 0 xs.length 1) none (some (.int .i64 (i : Nat))) none K = K (.sl id 0 i 1) := fun K => by
        simp [A.slice, bnd, hij]
      simp only [Int.lt_irrefl, decide_false, cond_false, s1]
      unfold A.clearS
      rw [hil]
      by_cases hz : xs.length - i = 0
      · simp only [hz, if_true, s2, er1_sl]
        refine ⟨st, [], rfl, hk, ?_, hidn⟩
        rw [List.append_nil, ← ht, List.take_of_length_le (by omega)]; exact hob
      · simp only [hz, if_false, hob]
        rw [if_pos ⟨rfl, by simp [hL]; omega⟩]
        simp only [s2, er1_sl]
        refine ⟨_, List.replicate (xs.length - i) 0, rfl, hk.put hid _, ?_, by simpa using hidn⟩
        rw [put_at]
        congr 2
        rw [← ht, intsV_app, ← intsV_take]
        have e1 : intsV (List.replicate (xs.length - i) 0) = List.replicate (xs.length - i) (V.int .i64 0) := by simp [intsV]
        rw [e1]
        have e2 : ∀ (vs : List V) (cs : List V) (o : Nat), o + vs.length = cs.length → putL cs o vs = cs.take o ++ vs := by
          intro vs
          induction vs with
          | nil => intro cs o ho; simp [putL] at ho ⊢; rw [List.take_of_length_le (by omega)]
          | cons v vs ih2 =>
            intro cs o ho
            have : putL cs o (v :: vs) = putL (cs.set o v) (o + 1) vs := rfl
            rw [this, ih2 _ _ (by simp at ho ⊢; omega), List.take_add_one, List.take_set_of_le (Nat.le_refl _), List.getElem?_set_self (by simp at ho; omega)]
            simp
        exact e2 _ _ _ (by simp [hL]; omega)
/-- To. -/
theorem to_s {st : St} {d m : Nat} {f : Fd} (h : FAt st d m f) (k : Int) : ∃ st' v zs, s20 [.ptr d 0, .int .i64 k] st = some (.ret v, st') ∧ Ks st st' ∧ IL st st' v ((idsP f.ps).filter (toK f k)) zs := by
  rw [s20_eq]
  unfold f20
  have b1 : ∀ K : V → St → Res, A.box (.ptr d 0) st K = K (.ptr st.n 0) (st.new (.cells [.ptr d 0])) := fun K => rfl
  have b2 : ∀ (s : St) (K : V → St → Res), A.box (.int .i64 k) s K = K (.ptr s.n 0) (s.new (.cells [.int .i64 k])) := fun s K => rfl
  simp only [b1, b2, new_n]
  have k1 := (Ks.refl st).new (.cells [.ptr d 0])
  have k2 := k1.new (.cells [.int .i64 k])
  have o1 : ((st.new (.cells [.ptr d 0])).new (.cells [.int .i64 k])).ob st.n = some (.cells [.ptr d 0]) := by rw [new_ne _ _ (by simp)]; exact new_at _ _
  have o2 : ((st.new (.cells [.ptr d 0])).new (.cells [.int .i64 k])).ob (st.n + 1) = some (.cells [.int .i64 k]) := by
    have := new_at (st.new (.cells [.ptr d 0])) (.cells [.int .i64 k]); simpa using this
  have hn2 : ((st.new (.cells [.ptr d 0])).new (.cells [.int .i64 k])).n = st.n + 1 + 1 := by simp
  generalize (st.new (.cells [.ptr d 0])).new (.cells [.int .i64 k]) = st2 at k2 o1 o2 hn2 ⊢
  have h2 := h.ks k2
  have w1 : ∀ K, A.load false 1 (.ptr st.n 0) st2 K = K (.ptr d 0) st2 := fun K => by simp [o1]
  obtain ⟨st3, v, q1, q2, q3⟩ := ids_s h2
  simp only [w1, er1_ptr, q1, ret_ret, q3.er, er1_fn]
  have h3 := h2.ks q2
  have hl := h.ok.len
  have hsm := h.ok.small
  have hil : (idsP f.ps).length = f.ps.length := by simp [idsP]
  have c3 : Clo st3 st.n (st.n + 1) d k := ⟨(q2.ob _ (by omega)).trans o1, (q2.ob _ (by omega)).trans o2⟩
  rw [s28_eq]
  unfold f28
  have v1 := q3.er
  simp only [q3.er, er1_fn, index_s h3 c3 q3 (by omega), ret_ret, eql_int, Bool.false_eq_true, if_false]
  rcases fbad_cases (toK f k) (idsP f.ps) 0 with ⟨e, ha⟩ | ⟨j, e, hj, ht, hx⟩
  · rw [e]
    simp only [beq_self_eq_true, cond_true, ret_ret, q3.er]
    refine ⟨st3, v, [], rfl, k2.trans q2, ?_⟩
    rw [List.filter_eq_self.2 ha]
    rcases q3 with ⟨g1, g2, _⟩ | ⟨id, g1, g2, g3, g4⟩
    · exact .inl ⟨g1, g2, rfl⟩
    · exact .inr ⟨id, g1, g2, Nat.le_trans k2.n g3, g4⟩
  · rw [e]
    have en : (((0 + j : Nat) : Int) == -1) = false := by rw [beq_eq_false_iff_ne]; omega
    have e4 : ∀ K, A.bin .add (.int .i64 ((0 + j : Nat) : Int)) (.int .i64 1) K = K (.int .i64 ((j + 1 : Nat) : Int)) := fun K => by
      rw [bin_inc (by omega) K, Nat.zero_add]
    simp only [en, cond_false, e4]
    rcases q3 with ⟨g1, g2, _⟩ | ⟨id, g1, g2, g3, g4⟩
    · rw [g2] at hj; simp at hj
    · subst g1
      unfold g28b11101
      rw [Nat.zero_add]
      have hxj : toK f k (idsP f.ps)[j] = false := hx _ (List.getElem?_eq_getElem hj)
      obtain ⟨st', zs, r1, r2, r3, r4⟩ := del_loop (st0 := st2) (f := f) (k := k) (c1 := st.n) (c2 := st.n + 1) (d := d) (m := m) (xs := idsP f.ps) (id := id) (by omega) (fun s hs => h2.ks hs) (fun s hs => ⟨(hs.ob _ (by omega)).trans o1, (hs.ob _ (by omega)).trans o2⟩) g3 big j (j + 1) st3 (idsP f.ps) (by omega) (by omega) (Nat.lt_of_lt_of_le (lt_big (by omega)) (Nat.le_add_right _ _)) rfl (by
        rw [List.take_add_one, List.getElem?_eq_getElem hj, List.filter_append, List.filter_eq_self.2 ht]
        simp [hxj]) rfl (by rw [List.append_nil] at g2; exact g2) q2 g4
      rw [r1]
      simp only [ret_ret, er1_sl]
      exact ⟨st', _, zs, rfl, k2.trans r2, .inr ⟨id, rfl, r3, Nat.le_trans k2.n g3, r4⟩⟩
end Go.Ab
