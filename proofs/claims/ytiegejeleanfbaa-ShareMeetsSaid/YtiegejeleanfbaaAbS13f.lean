import Derived.Test.YtiegejeleanfbaaAbS13e
/- sinewlaw13: Shares. -/
namespace Go.Ab
open Go.RowKit Go.Proofs Sh13
set_option linter.unusedVariables false
set_option linter.unusedSimpArgs false

theorem fold_best (ld : List Int → Int) {L : List (List Int)} (h : 0 < L.length) (hn : ∀ x ∈ L, 0 ≤ ld x) : ((L.map ([] ++ ·)).foldl (stepB ld) ([], -1)).1 = bestL ld L := by
  have : L.map ([] ++ ·) = L := by simp
  rw [this]
  cases L with
  | nil => simp at h
  | cons x r =>
    rw [List.foldl_cons, show stepB ld ([], -1) x = (x, ld x) by simp [stepB], foldB ld (fun _ => .inr trivial) r x (fun y hy => hn y (List.mem_cons_of_mem _ hy)) (hn x (by simp))]
    rfl
theorem odd23_s {st : St} {q : Nat} {v : Int} (h : st.ob q = some (.cells [.int .i64 v])) (x : Int) : s23 [.int .i64 x, .ptr q 0] st = some (.ret (.bool (!inB v x)), st) := by
  rw [s23_eq]; unfold f23
  by_cases h0 : x < 0
  · have : inB v x = false := by simp [inB]; omega
    simp [h0, this]
  · by_cases h1 : v ≤ x
    · have : inB v x = false := by simp [inB]; omega
      simp [h0, h, h1, this]
    · have : inB v x = true := by simp [inB]; omega
      simp [h0, h, h1, this]
theorem any_not {α : Type} (p : α → Bool) (l : List α) : l.any (fun x => !p x) = !l.all p := by
  induction l with
  | nil => rfl
  | cons a l ih => simp [ih, Bool.not_and]
/-- The four boxes. -/
def st4 (st : St) (w v : Int) (atoms : List (List Int)) (sizes : List Int) (t u : Nat) : St :=
  (((st.new (.cells [.int .i64 w])).new (.cells [.int .i64 v])).new (.cells [.lst (intssV atoms) t])).new (.cells [.lst (intsV sizes) u])
theorem st4_ob (st : St) (w v : Int) (atoms : List (List Int)) (sizes : List Int) (t u : Nat) :
    (st4 st w v atoms sizes t u).n = st.n + 4 ∧ (st4 st w v atoms sizes t u).ob st.n = some (.cells [.int .i64 w]) ∧ (st4 st w v atoms sizes t u).ob (st.n + 1) = some (.cells [.int .i64 v]) ∧ (st4 st w v atoms sizes t u).ob (st.n + 2) = some (.cells [.lst (intssV atoms) t]) ∧
      (st4 st w v atoms sizes t u).ob (st.n + 3) = some (.cells [.lst (intsV sizes) u]) ∧ Ks st (st4 st w v atoms sizes t u) := by
  refine ⟨rfl, ?_, ?_, ?_, ?_, (((Ks.refl st).new _).new _).new _ |>.new _⟩ <;> simp only [st4, new_ob, new_n] <;> repeat (first | rw [if_true] | rw [if_pos (by omega)] | rw [if_neg (by omega)])
/-- The look at the atoms. -/
theorem look_s {z : St} {q : Nat} {v : Int} {atoms : List (List Int)} {sizes : List Int} {t u : Nat} (z1 : z.ob (q + 1) = some (.cells [.int .i64 v])) (z3 : z.ob (q + 3) = some (.cells [.lst (intsV sizes) u])) (h5 : atoms.length = sizes.length) (hl : atoms.length ≤ 9223372036854775807) (hs : ∀ a ∈ atoms, a.length ≤ 9223372036854775806) : ∀ (n i : Nat), i ≤ atoms.length → atoms.length < n + i →
      g12b111010 n (.ptr q 0) (.ptr (q + 1) 0) (.ptr (q + 2) 0) (.ptr (q + 3) 0) (.fn 23 [] [.ptr (q + 1) 0]) (.lst (intssV atoms) t) (.int .i64 (atoms.length : Nat)) (.int .i64 (i : Nat)) z =
        bif ((sizes.drop i).all szB && (atoms.drop i).all fun a => a.all (inB v)) then g12b111010 1 (.ptr q 0) (.ptr (q + 1) 0) (.ptr (q + 2) 0) (.ptr (q + 3) 0) (.fn 23 [] [.ptr (q + 1) 0]) (.lst (intssV atoms) t) (.int .i64 (atoms.length : Nat)) (.int .i64 (atoms.length : Nat)) z
          else some (.ret (.tup [.lst [] 1, .int .i64 1]), z) := by
    intro n
    induction n with
    | zero => intro i hi hn; omega
    | succ n ih =>
      intro i hi hn
      by_cases h : i < atoms.length
      · have h2 : i < sizes.length := by omega
        rw [all_drop _ h2, all_drop _ h]
        conv => lhs; unfold g12b111010
        have hsh := hs _ (List.getElem_mem h)
        have hc := containsFn_s (st := z) (xs := atoms[i]) (t := 0) (fv := .fn 23 [] [.ptr (q + 1) 0]) (p := fun x => !inB v x) (by omega) rfl (fun x _ K => by
          rw [show A.call g37T (.fn 23 [] [.ptr (q + 1) 0]) [.int .i64 x] z K = A.ret (s23 [.int .i64 x, .ptr (q + 1) 0] z) K from rfl, odd23_s z1]; rfl)
        rw [any_not] at hc
        simp only [bin_lss, show ((i : Int) < (atoms.length : Int)) from by omega, decide_true, cond_true, iaddr_intss t h, load_l1', load_ob, z3, obo_some, List.getElem?_cons_zero, ob_some', iaddr_ints u h2, g12b1110100110010_6, g12b1110100110010_13, bin_gtr, er1_lst, er1_fn, hc, ret_ret]
        by_cases h0 : sizes[i] < 0
        · have : szB sizes[i] = false := by simp [szB]; omega
          simp only [h0, decide_true, guard_tf, this, Bool.false_and, er1_int]; rfl
        · by_cases h1 : 1048576 < sizes[i]
          · have : szB sizes[i] = false := by simp [szB]; omega
            simp only [h0, decide_false, guard_ff, h1, decide_true, guard_tf, this, Bool.false_and, er1_int]; rfl
          · have : szB sizes[i] = true := by simp [szB]; omega
            simp only [h0, decide_false, guard_ff, h1, this, Bool.true_and]
            cases hq : atoms[i].all (inB v) with
            | true =>
              simp only [Bool.not_true, cond_false, bin_inc (show i < 9223372036854775807 by omega), Bool.true_and]
              exact ih (i + 1) (by omega) (by omega)
            | false => simp
      · have : i = atoms.length := by omega
        subst this
        rw [List.drop_length, h5, List.drop_length]
        simp only [List.all_nil, Bool.and_self, _root_.cond_true]
        unfold g12b111010
        simp only [bin_lss, Int.lt_irrefl, decide_false, cond_false]
theorem shares_s {st : St} (w v : Int) (atoms : List (List Int)) (sizes : List Int) (t u : Nat) (hl : atoms.length ≤ 9223372036854775807) (hl2 : sizes.length ≤ 9223372036854775807) (hs : ∀ a ∈ atoms, a.length ≤ 9223372036854775806) :
    s12 [.int .i64 w, .int .i64 v, .lst (intssV atoms) t, .lst (intsV sizes) u] st =
      some (.ret (if askB w v atoms sizes then .tup [.lst (intsV (bestS w v.toNat fun x => Sh13.load x atoms sizes)) 0, .int .i64 0] else .tup [.lst [] 0, .int .i64 1]), st) := by
  have hB := big_le
  rw [s12_eq]
  obtain ⟨zn, z0, z1, z2, z3, zk⟩ := st4_ob st w v atoms sizes t u
  have hz : (((st.new (.cells [.int .i64 w])).new (.cells [.int .i64 v])).new (.cells [.lst (intssV atoms) t])).new (.cells [.lst (intsV sizes) u]) = st4 st w v atoms sizes t u := rfl
  generalize hgz : st4 st w v atoms sizes t u = z at zn z0 z1 z2 z3 zk hz
  have bad : ∀ x, (x = false → askB w v atoms sizes = x → f12 (.int .i64 w) (.int .i64 v) (.lst (intssV atoms) t) (.lst (intsV sizes) u) st = some (.ret (.tup [.lst [] 1, .int .i64 1]), z) →
      fg (f12 (.int .i64 w) (.int .i64 v) (.lst (intssV atoms) t) (.lst (intsV sizes) u) st) st = some (.ret (if askB w v atoms sizes then .tup [.lst (intsV (bestS w v.toNat fun x => Sh13.load x atoms sizes)) 0, .int .i64 0] else .tup [.lst [] 0, .int .i64 1]), st)) := by
    intro x hx hb he
    rw [fg_of he zk (by simp), hb, hx]; simp
  have f12e : f12 (.int .i64 w) (.int .i64 v) (.lst (intssV atoms) t) (.lst (intsV sizes) u) st =
      (A.bin .lss (.int .i64 w) (.int .i64 1) fun a11 => A.guard a11 false (A.bin .gtr (.int .i64 w) (.int .i64 64) fun a14 => g12b100_7 (.ptr st.n 0) (.ptr (st.n + 1) 0) (.ptr (st.n + 2) 0) (.ptr (st.n + 3) 0) a14 z)
        (g12b100_7 (.ptr st.n 0) (.ptr (st.n + 1) 0) (.ptr (st.n + 2) 0) (.ptr (st.n + 3) 0) (.bool true) z)) := by
    unfold f12
    rw [box_one rfl, box_one rfl, box_one rfl, box_one rfl]
    simp only [new_n]
    rw [hz]
    simp only [Nat.add_assoc, Nat.reduceAdd, load_ob, z0, obo_some, List.getElem?_cons_zero, ob_some']
  have no : ∀ (c : Prop) [Decidable c] (x : Bool), ¬ c → (decide c && x) = false := fun c _ x h => by simp [h]
  by_cases h1 : w < 1
  · refine bad _ rfl ?_ ?_
    · unfold askB; exact no _ _ (by omega)
    · rw [f12e]; simp [h1, g12b100_7, g12b100_15, g12b100_22]
  · by_cases h2 : 64 < w
    · refine bad _ rfl ?_ ?_
      · unfold askB; exact no _ _ (by omega)
      · rw [f12e]; simp [h1, h2, g12b100_7, g12b100_15, g12b100_22]
    · by_cases h3 : v < 0
      · refine bad _ rfl ?_ ?_
        · unfold askB; exact no _ _ (by omega)
        · rw [f12e]; simp [h1, h2, h3, z1, g12b100_7, g12b100_15, g12b100_22]
      · by_cases h4 : 6 < v
        · refine bad _ rfl ?_ ?_
          · unfold askB; exact no _ _ (by omega)
          · rw [f12e]; simp [h1, h2, h3, h4, z1, g12b100_7, g12b100_15, g12b100_22]
        · by_cases h5 : atoms.length = sizes.length
          · have hne : (((atoms.length : Nat) : Int) != (sizes.length : Nat)) = false := by simp [h5]
            by_cases h6 : 12 < atoms.length
            · have h6' : (12 : Int) < atoms.length := by omega
              refine bad _ rfl ?_ ?_
              · unfold askB; exact no _ _ (by omega)
              · rw [f12e]
                simp only [bin_lss, h1, decide_false, guard_ff, bin_gtr, h2, g12b100_7, g12b100_15, g12b100_22, load_ob, z1, z2, z3, obo_some, List.getElem?_cons_zero, ob_some', h3, h4, lenL_lst, intssV_len, intsV_len, eql_int, if_true, hne, h6', decide_true, cond_true]
                rfl
            · have h6' : ¬ (12 : Int) < atoms.length := by omega
              -- the loop
              have hk := look_s (q := st.n) (t := t) z1 z3 h5 hl hs big 0 (by omega) (by omega)
              rw [List.drop_zero, List.drop_zero] at hk
              have hask : askB w v atoms sizes = (sizes.all szB && atoms.all fun a => a.all (inB v)) := by
                unfold askB; rw [decide_eq_true (by omega), Bool.true_and]
              rw [← hask] at hk
              have f12f : f12 (.int .i64 w) (.int .i64 v) (.lst (intssV atoms) t) (.lst (intsV sizes) u) st =
                  g12b111010 big (.ptr st.n 0) (.ptr (st.n + 1) 0) (.ptr (st.n + 2) 0) (.ptr (st.n + 3) 0) (.fn 23 [] [.ptr (st.n + 1) 0]) (.lst (intssV atoms) t) (.int .i64 (atoms.length : Nat)) (.int .i64 ((0 : Nat) : Int)) z := by
                rw [f12e]
                simp only [bin_lss, h1, decide_false, guard_ff, bin_gtr, h2, g12b100_7, g12b100_15, g12b100_22, load_ob, z1, z2, z3, obo_some, List.getElem?_cons_zero, ob_some', h3, h4, lenL_lst, intssV_len, intsV_len, eql_int, if_true, hne, h6', g12b11, g12b11101]
                rfl
              cases hb : askB w v atoms sizes with
              | false =>
                rw [hb] at hk
                rw [fg_of (f12f.trans hk) zk (by simp)]; simp
              | true =>
                rw [hb] at hk
                -- the search
                obtain ⟨vn, rfl⟩ : ∃ vn : Nat, v = (vn : Nat) := ⟨v.toNat, by omega⟩
                have Z : Sv w vn atoms sizes st.n t u st ((((z.new (.cells [.lst [] 1])).new (.cells [.int .i64 (-1)])).new (.cells [.fn 25 [] [.ptr (st.n + 1) 0, .ptr st.n 0, .ptr (st.n + 6) 0, .ptr (st.n + 2) 0, .ptr (st.n + 3) 0, .ptr (st.n + 5) 0, .ptr (st.n + 4) 0]]))) ([], -1) := by
                  refine ⟨rfl, ?_, ?_, ?_, ?_, ⟨1, ?_⟩, ?_, ?_, ((zk.new _).new _).new _⟩ <;> simp only [new_ob, new_n, zn] <;> repeat (first | rw [if_true] | rw [if_pos (by omega)] | rw [if_neg (by omega)] | assumption | rfl)
                obtain ⟨st', e, S⟩ := search_n hb hs vn big [] 1 _ _ (by simp) (by omega) (by simp) (by simp [pr]; omega) (fun _ => rfl) Z
                obtain ⟨tb, hob⟩ := S.ob
                have hfb := fold_best (ldS atoms sizes) (L := allT vn w) (allT_pos vn (by omega)) (fun x hx => load_nonneg (ask_of hb hs hx))
                rw [show w / pr [] = w by simp [pr], hfb] at hob
                have eput : ∀ (s0 : St) (a b : Ob), (s0.new a).put s0.n b = s0.new b := by
                  intro s0 a b; unfold St.put St.new; congr 1; funext j; by_cases h : j = s0.n <;> simp [h]
                have hfin : f12 (.int .i64 w) (.int .i64 (vn : Nat)) (.lst (intssV atoms) t) (.lst (intsV sizes) u) st = some (.ret (.tup [.lst (intsV (bestS w vn (ldS atoms sizes))) tb, .int .i64 0]), st') := by
                  refine (f12f.trans hk).trans ?_
                  simp only [_root_.cond_true]
                  conv => lhs; unfold g12b111010
                  simp only [bin_lss, Int.lt_irrefl, decide_false, cond_false]
                  rw [box_one rfl, box_one rfl, store_int]
                  simp only [new_at, obo_some, List.length_singleton, Nat.zero_lt_one, if_true, List.set_cons_zero]
                  rw [eput, box_one rfl, store_fn]
                  simp only [new_at, obo_some, List.length_singleton, Nat.zero_lt_one, if_true, List.set_cons_zero]
                  rw [eput]
                  simp only [new_n, zn, Nat.add_assoc, Nat.reduceAdd]
                  simp only [load_ob]
                  have hos := Z.os
                  rw [hos]
                  simp only [obo_some, List.getElem?_cons_zero, ob_some']
                  have ecall : ∀ (s0 : St) (K : V → St → Res), A.call g12T (.fn 25 [] [.ptr (st.n + 1) 0, .ptr st.n 0, .ptr (st.n + 6) 0, .ptr (st.n + 2) 0, .ptr (st.n + 3) 0, .ptr (st.n + 5) 0, .ptr (st.n + 4) 0]) [.lst [] 1] s0 K
                      = A.ret (s25 [.lst (intsV []) 1, .ptr (st.n + 1) 0, .ptr st.n 0, .ptr (st.n + 6) 0, .ptr (st.n + 2) 0, .ptr (st.n + 3) 0, .ptr (st.n + 5) 0, .ptr (st.n + 4) 0] s0) K := fun _ _ => rfl
                  rw [ecall, s25_n, e]
                  simp only [ret_ret, load_ob, hob, obo_some, List.getElem?_cons_zero, ob_some', er1_lst, er1_int]
                  rfl
                rw [fg_of hfin S.ks (by simp)]
                simp [bestS]
          · have hne : (((atoms.length : Nat) : Int) != (sizes.length : Nat)) = true := by simp; omega
            refine bad _ rfl ?_ ?_
            · unfold askB; exact no _ _ (by omega)
            · rw [f12e]
              simp only [bin_lss, h1, decide_false, guard_ff, bin_gtr, h2, g12b100_7, g12b100_15, g12b100_22, load_ob, z1, z2, z3, obo_some, List.getElem?_cons_zero, ob_some', h3, h4, lenL_lst, intssV_len, intsV_len, eql_int, if_true, hne, guard_tf, er1_int, er1_lst]
end Go.Ab
