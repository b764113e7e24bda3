import Derived.Test.YtmbaebedkobijaaAbD05merged0
/- sinewlaw05: WordsKeep. -/
namespace Go.Ab
open Go.Proofs Go.RowKit
set_option linter.unusedVariables false
set_option linter.unusedSimpArgs false
set_option maxRecDepth 100000
theorem ldv_lp (v : V) (st : St) : ldv false 1 (.lptr [v]) st = some v := rfl
structure OwnU (st : St) (u t : Nat) : Prop where
  own : u = 1 ∨ u = 2 ∨ ∃ k, u = k + 3 ∧ k < st.nt ∧ st.tk k = some 1
  ne : u ≤ 2 ∨ u ≠ t
theorem OwnU.tok {st : St} {u t : Nat} (h : OwnU st u t) : Tok st 1 u := by
  rcases h.own with g | g | ⟨k, g1, g2, g3⟩
  · exact .inl g
  · exact .inr (.inl g)
  · exact .inr (.inr ⟨k, g1, g3⟩)
theorem DAt.tlt {st : St} {d mid t : Nat} {ws : List (List UInt8)} (h : DAt st d mid t ws) : t < st.nt + 3 := by
  rcases h.own with g | g | ⟨k, g1, g2, _⟩ <;> omega
theorem OwnU.ult {st : St} {u t : Nat} (h : OwnU st u t) : u < st.nt + 3 := by
  rcases h.own with g | g | ⟨k, g1, g2, _⟩ <;> omega
theorem OwnU.put {st st' : St} {u t t' d mid : Nat} (h : OwnU st u t) (k : DFr st st' d mid t t') : OwnU st' u t' := by
  have := h.ult
  refine ⟨?_, by have := h.ne; rcases k.tt with g | g | g <;> omega⟩
  rcases h.own with g | g | ⟨j, g1, g2, g3⟩
  · exact .inl g
  · exact .inr (.inl g)
  · exact .inr (.inr ⟨j, g1, Nat.lt_of_lt_of_le g2 k.nt, by rw [k.tk j g2 (by have := h.ne; omega)]; exact g3⟩)
theorem DAt.app {st : St} {d mid t : Nat} {ws : List (List UInt8)} (h : DAt st d mid t ws) (u : Nat) (hu : t ≤ 2 ∨ t ≠ u) : DAt (appSt st u 1) d mid t ws := by
  refine ⟨by rw [appSt_ob]; exact h.ob, by rw [appSt_ob]; exact h.mob, by rw [appSt_n]; exact h.lt, by rw [appSt_n]; exact h.mlt, h.ne, ?_⟩
  rcases h.own with g | g | ⟨k, g1, g2, g3⟩
  · exact .inl g
  · exact .inr (.inl g)
  · exact .inr (.inr ⟨k, g1, by rw [appSt_nt]; omega, by rw [appSt_tk _ _ _ _ (by omega) (by omega)]; exact g3⟩)
theorem OwnU.new {st : St} {d mid t : Nat} {ws : List (List UInt8)} (h : DAt st d mid t ws) (u : Nat) : OwnU (appSt st u 1) (st.nt + 3) t := by
  have := h.tlt
  exact ⟨.inr (.inr ⟨st.nt, rfl, by rw [appSt_nt]; omega, appSt_new _ _ _⟩), .inr (by omega)⟩
/-- The number that is kept of a text. -/
def kNum (ws : List (List UInt8)) (s : List UInt8) : Int := if isW s = true then (match idxW s ws with | some k => (k : Int) | none => -1) else -1
theorem kNum_grow {ws : List (List UInt8)} {x : List UInt8} (h : isW x = true → ∃ k, idxW x ws = some k) (s : List UInt8) : kNum (putW ws s).1 x = kNum ws x := by
  unfold kNum
  split
  · rename_i hx
    obtain ⟨k, hk⟩ := h hx
    rw [putW_mono hk s, hk]
  · rfl
theorem kNum_put (ws : List (List UInt8)) (s : List UInt8) : kNum (putW ws s).1 s = if (putW ws s).2.2 = 0 then ((putW ws s).2.1 : Int) else -1 := by
  unfold kNum
  cases hs : isW s with
  | true =>
    obtain ⟨a, b⟩ := putW_idx ws hs
    rw [a, b]; simp
  | false =>
    rw [putW_odd ws hs]; simp
/-- All of a list has a number. -/
def Kept (ws : List (List UInt8)) (l : List (List UInt8)) : Prop := ∀ x ∈ l, isW x = true → ∃ k, idxW x ws = some k
theorem kNum_pos {ws l : List (List UInt8)} (h : Kept ws l) {x : List UInt8} (hx : x ∈ l) (h0 : 0 ≤ kNum ws x) : ∃ k : Nat, kNum ws x = ((k : Nat) : Int) ∧ idxW x ws = some k ∧ isW x = true := by
  unfold kNum at h0 ⊢
  cases hw : isW x with
  | true =>
    obtain ⟨k, hk⟩ := h x hx hw
    rw [hk] at h0 ⊢
    exact ⟨k, by simp, rfl, rfl⟩
  | false => rw [hw] at h0; simp at h0
theorem keep_inner (l : List (List UInt8)) {ws : List (List UInt8)} {n : Nat} (hn : n ≤ l.length) (hn2 : n ≤ 200) (hk : Kept ws (l.take n)) (L : V → V → V → V → V → St → Res) (x3 x4 : V) (u i : Nat) (hi : i < n) (st : St) : ∀ (f j : Nat), j ≤ i → i < f + j →
    g7b1111110100100010 L f (.lst (strsV l) 0) x3 x4 (.lst (intsV ((l.take n).map (kNum ws))) u) (.int .i64 (i : Nat)) (.int .i64 (j : Nat)) st = g7b11111101001001 L (.lst (strsV l) 0) x3 x4 (.lst (intsV ((l.take n).map (kNum ws))) u) (.int .i64 (i : Nat)) st := by
  have hlen : ((l.take n).map (kNum ws)).length = n := by simp; omega
  have hat : ∀ k (h : k < n), ((l.take n).map (kNum ws))[k]'(by omega) = kNum ws (l[k]'(by omega)) := fun k h => by simp
  have hm : ∀ k (h : k < n), l[k]'(by omega) ∈ l.take n := fun k h => by
    rw [List.mem_iff_getElem]; exact ⟨k, by simp; omega, by simp⟩
  intro f
  induction f with
  | zero => intro j hj hf; omega
  | succ f ih =>
    intro j hj hf
    unfold g7b1111110100100010
    by_cases h : j < i
    · have e4 : ∀ K, A.bin .add (.int .i64 (j : Nat)) (.int .i64 1) K = K (.int .i64 ((j + 1 : Nat) : Int)) := fun K => bin_inc (by omega) K
      have ai : ∀ K, A.iaddr 1 (.lst (intsV ((l.take n).map (kNum ws))) u) (.int .i64 (i : Nat)) K = K (.lptr [.int .i64 (kNum ws (l[i]'(by omega)))]) := fun K => by rw [iaddr_ints u (by omega), hat i hi]
      have aj : ∀ K, A.iaddr 1 (.lst (intsV ((l.take n).map (kNum ws))) u) (.int .i64 (j : Nat)) K = K (.lptr [.int .i64 (kNum ws (l[j]'(by omega)))]) := fun K => by rw [iaddr_ints u (by omega), hat j (by omega)]
      simp only [bin_lss, show ((j : Int) < (i : Int)) from by omega, decide_true, cond_true, ai, load_l1', bin_geq]
      unfold g7b111111010010001001000_6
      by_cases h1 : 0 ≤ kNum ws (l[i]'(by omega))
      · simp only [h1, decide_true, guard_tt, aj, load_l1', bin_geq]
        unfold g7b111111010010001001000_13
        by_cases h2 : 0 ≤ kNum ws (l[j]'(by omega))
        · obtain ⟨k1, a1, a2, _⟩ := kNum_pos hk (hm i hi) h1
          obtain ⟨k2, b1, b2, _⟩ := kNum_pos hk (hm j (by omega)) h2
          have hb : (kNum ws (l[i]'(by omega)) == kNum ws (l[j]'(by omega))) = (l[i]'(by omega) == l[j]'(by omega)) := by
            rw [Bool.eq_iff_iff, beq_iff_eq, beq_iff_eq]
            refine ⟨fun g => ?_, fun g => by rw [g]⟩
            have : k1 = k2 := by omega
            subst this
            have := (idxW_some a2).symm.trans (idxW_some b2)
            exact Option.some.inj this
          simp only [h2, decide_true, guard_tt, ai, aj, load_l1', eql_int, Bool.false_eq_true, if_false, iaddr_strs 0 (show i < l.length by omega), iaddr_strs 0 (show j < l.length by omega), eql_str, hb, eql_bool, if_true, bne_self_eq_false, cond_false, e4]
          exact ih (j + 1) (by omega) (by omega)
        · simp only [h2, decide_false, guard_ft, e4]
          exact ih (j + 1) (by omega) (by omega)
      · simp only [h1, decide_false, guard_ft]
        unfold g7b111111010010001001000_13
        simp only [guard_ft, e4]
        exact ih (j + 1) (by omega) (by omega)
    · have : j = i := by omega
      subst this
      simp only [bin_lss, Int.lt_irrefl, decide_false, cond_false]
theorem keep_check (l : List (List UInt8)) {ws : List (List UInt8)} {n : Nat} (hn : n ≤ l.length) (hn2 : n ≤ 200) (hk : Kept ws (l.take n)) {d mid t u : Nat} {st : St} (h : DAt st d mid t ws) : ∀ (f i : Nat), i ≤ n → n < f + i →
    ∃ st', g7b111111010 f (.lst (strsV l) 0) (.ptr d 0) (.int .i64 (n : Nat)) (.lst (intsV ((l.take n).map (kNum ws))) u) (.int .i64 (i : Nat)) st = some (.ret (.bool true), st') := by
  have hlen : ((l.take n).map (kNum ws)).length = n := by simp; omega
  have hm : ∀ k (h : k < n), l[k]'(by omega) ∈ l.take n := fun k h => by
    rw [List.mem_iff_getElem]; exact ⟨k, by simp; omega, by simp⟩
  intro f
  induction f with
  | zero => intro i hi hf; omega
  | succ f ih =>
    intro i hi hf
    unfold g7b111111010
    by_cases hlt : i < n
    · have e4 : ∀ K, A.bin .add (.int .i64 (i : Nat)) (.int .i64 1) K = K (.int .i64 ((i + 1 : Nat) : Int)) := fun K => bin_inc (by omega) K
      have ai : ∀ K, A.iaddr 1 (.lst (intsV ((l.take n).map (kNum ws))) u) (.int .i64 (i : Nat)) K = K (.lptr [.int .i64 (kNum ws (l[i]'(by omega)))]) := fun K => by rw [iaddr_ints u (by omega)]; simp
      have hin := keep_inner l hn hn2 hk (g7b111111010 f) (.ptr d 0) (.int .i64 (n : Nat)) u i hlt st big 0 (by omega) (lt_big (by omega))
      rw [show ((0 : Nat) : Int) = 0 from rfl] at hin
      simp only [bin_lss, show ((i : Int) < (n : Int)) from by omega, decide_true, cond_true, hin]
      unfold g7b11111101001001
      simp only [ai, load_l1', bin_lss]
      by_cases h0 : kNum ws (l[i]'(by omega)) < 0
      · simp only [h0, decide_true, cond_true, e4]
        exact ih (i + 1) (by omega) (by omega)
      · obtain ⟨k, a1, a2, a3⟩ := kNum_pos hk (hm i hlt) (by omega)
        have hkl := idxW_lt a2
        have hg := idxW_some a2
        rw [List.getElem?_eq_getElem hkl] at hg
        have hg := Option.some.inj hg
        have wd : s14 [.ptr d 0, .int .i64 (kNum ws (l[i]'(by omega)))] st = some (.ret (.tup [.str (l[i]'(by omega)), .int .i64 0]), st) := by
          rw [a1, word_s h, dif_pos ⟨by omega, by simpa using hkl⟩]; simp [hg]
        have idd : s17 [.ptr d 0, .str (l[i]'(by omega))] st = some (.ret (.tup [.int .i64 (kNum ws (l[i]'(by omega))), .int .i64 0]), st) := by
          rw [id_s h, a2, a1]
        simp only [h0, decide_false, cond_false, er1_ptr, er1_int, wd, ret_ret, ext_0, ext_1]
        unfold g7b1111110100100111
        simp only [iaddr_strs 0 (show i < l.length by omega), load_l1', er1_ptr, er1_str, idd, ret_ret, ext_0, ext_1]
        unfold g7b11111101001001111
        have hlt2 : ¬ ((ws.length : Int) ≤ kNum ws (l[i]'(by omega))) := by rw [a1]; omega
        simp only [iaddr_strs 0 (show i < l.length by omega), load_l1', eql_str, if_true, bne_self_eq_false, guard_ff, eql_int, ai, er1_ptr, len_s h, ret_ret, kid_eq, noP_ret, ldv_lp, chk_same, bin_geq, hlt2, decide_false, cond_false, e4]
        exact ih (i + 1) (by omega) (by omega)
    · have : i = n := by omega
      subst this
      obtain ⟨st', hw⟩ := awake_s st
      simp only [bin_lss, Int.lt_irrefl, decide_false, cond_false, hw, ret_ret, er1_bool]
      exact ⟨_, rfl⟩
theorem keep_put (l : List (List UInt8)) {n : Nat} (hn : n ≤ l.length) (hn2 : n ≤ 200) {d mid : Nat} : ∀ (f i t u : Nat) (ws : List (List UInt8)) (st : St), i ≤ n → n < f + i → ws.length ≤ i → Kept ws (l.take i) → DAt st d mid t ws → OwnU st u t →
    ∃ st', g7b11111010 f (.lst (strsV l) 0) (.ptr d 0) (.int .i64 (n : Nat)) (.lst (intsV ((l.take i).map (kNum ws))) u) (.int .i64 (i : Nat)) st = some (.ret (.bool true), st') := by
  intro f
  induction f with
  | zero => intro i t u ws st hi hf; omega
  | succ f ih =>
    intro i t u ws st hi hf hw hk h ho
    unfold g7b11111010
    by_cases hlt : i < n
    · have e4 : ∀ K, A.bin .add (.int .i64 (i : Nat)) (.int .i64 1) K = K (.int .i64 ((i + 1 : Nat) : Int)) := fun K => bin_inc (by omega) K
      obtain ⟨st1, t1, q1, q2, q3⟩ := put_s h (by omega) (l[i]'(by omega))
      have ho1 := ho.put q3
      have htk : l.take (i + 1) = l.take i ++ [l[i]'(by omega)] := by rw [List.take_succ_eq_append_getElem (by omega)]
      have hk1 : Kept (putW ws (l[i]'(by omega))).1 (l.take (i + 1)) := by
        intro x hx hw'
        rw [htk] at hx
        rcases List.mem_append.1 hx with g | g
        · obtain ⟨k, hk'⟩ := hk x g hw'; exact ⟨k, putW_mono hk' _⟩
        · rw [List.mem_singleton.1 g] at hw' ⊢; exact ⟨_, (putW_idx ws hw').1⟩
      have hmap : (l.take (i + 1)).map (kNum (putW ws (l[i]'(by omega))).1) = (l.take i).map (kNum ws) ++ [kNum (putW ws (l[i]'(by omega))).1 (l[i]'(by omega))] := by
        rw [htk, List.map_append]
        congr 1
        exact List.map_congr_left fun x hx => kNum_grow (hk x hx) _
      -- one number more
      have step : ∀ x7 : Int, x7 = kNum (putW ws (l[i]'(by omega))).1 (l[i]'(by omega)) → ∃ st', g7b11111010010011 (g7b11111010 f) (.lst (strsV l) 0) (.ptr d 0) (.int .i64 (n : Nat)) (.lst (intsV ((l.take i).map (kNum ws))) u) (.int .i64 (i : Nat)) (.int .i64 x7) st1 = some (.ret (.bool true), st') := by
        intro x7 hx7
        unfold g7b11111010010011
        have bs : ∀ K, A.bslice 1 (.int .i64 0) 1 [(0, .int .i64 x7)] K = K (.lst (intsV [x7]) 2) := fun K => rfl
        simp only [bs, elemsOf_ints]
        rw [app_tok _ ho1.tok (by simp; omega) (szok_ints _), show intsV ((l.take i).map (kNum ws)) ++ intsV [x7] = intsV ((l.take i).map (kNum ws) ++ [x7]) by simp [intsV], hx7, ← hmap]
        simp only [e4]
        refine ih (i + 1) t1 (st1.nt + 3) _ _ (by omega) (by omega) (by have := putW_len ws (l[i]'(by omega)); omega) hk1 (q2.app u (by have := ho1.ne; have := ho1.ult; omega)) (OwnU.new q2 u)
      simp only [bin_lss, show ((i : Int) < (n : Int)) from by omega, decide_true, cond_true, iaddr_strs 0 (show i < l.length by omega), load_l1', er1_ptr, er1_str, q1, ret_ret, ext_0, ext_1]
      unfold g7b1111101001001
      have hkp := kNum_put ws (l[i]'(by omega))
      by_cases h0 : (putW ws (l[i]'(by omega))).2.2 = 0
      · rw [if_pos h0] at hkp
        simp only [h0, eql_int, if_true, show (((0 : Nat) : Int) != 0) = false from rfl, cond_false]
        exact step _ hkp.symm
      · rw [if_neg h0] at hkp
        have hb : ((((putW ws (l[i]'(by omega))).2.2 : Nat) : Int) != 0) = true := by rw [bne_iff_ne]; omega
        simp only [eql_int, if_true, hb, cond_true]
        exact step _ hkp.symm
    · have : i = n := by omega
      subst this
      simp only [bin_lss, Int.lt_irrefl, decide_false, cond_false]
      unfold g7b111111
      exact keep_check l hn hn2 hk h big 0 (by omega) (lt_big (by omega))
theorem wordsKeep_law (l : List (List UInt8)) (hl : l.length ≤ 9223372036854775807) (st : St) : ∃ st', s7 [.lst (strsV l) 0] st = some (.ret (.bool true), st') := by
  rw [s7_eq]
  unfold f7
  have em : ∀ K, A.min (.int .i64 (l.length : Nat)) (.int .i64 200) K = K (.int .i64 ((min l.length 200 : Nat) : Int)) := fun K => by
    show K (.int .i64 (if (200 : Int) < (l.length : Int) then 200 else (l.length : Int))) = _
    congr 2
    split <;> omega
  simp only [new_s, ret_ret, eql_ptr, cond_false, lenL_lst, strsV_len, em]
  unfold g7b11111
  have := keep_put l (n := min l.length 200) (by omega) (by omega) (d := st.n + 1) (mid := st.n) big 0 1 1 [] _ (by omega) (lt_big (by omega)) (by simp) (by intro x hx; simp at hx) (new_at_d st) ⟨.inl rfl, .inl (by omega)⟩
  simpa [intsV] using this
theorem wordsKeep_row {W : World} {v0 : Value} {x0 : V} {n0 : Nat}
    (r0 : Rs (E0 W) [x0] [v0]) (s0 : Sh Try.prog n0 23 x0.cells) (f0 : fit Try.prog 23 x0) :
    Calls Try.prog 7 #[v0] W fun e w' => e = .returned (.bool true) ∧ Below W.heap.size W w' := by
  obtain ⟨l, rfl, h1, _⟩ := in_strs s0 f0 Try.underlying23 Try.underlying9
  obtain ⟨st', hs⟩ := wordsKeep_law l h1 St0
  exact bool_row sim7 W _ _ _ hs r0
end Go.Ab
