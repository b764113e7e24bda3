import Derived.Test.YtmbaebedkobijaaAbD05b
/- sinewlaw05: WordsNobody; what Put does to words. -/
namespace Go.Ab
open Go.Proofs Go.RowKit
set_option linter.unusedVariables false
set_option linter.unusedSimpArgs false
set_option maxRecDepth 100000
theorem idxW_snoc {x s : List UInt8} : ∀ {ws : List (List UInt8)} {k : Nat}, idxW x ws = some k → idxW x (ws ++ [s]) = some k
  | [], k, h => by cases h
  | w :: l, k, h => by
    unfold idxW at h
    rw [List.cons_append]
    unfold idxW
    split at h
    · rename_i e; rw [if_pos e]; exact h
    · rename_i e
      rw [if_neg e]
      cases hq : idxW x l with
      | none => rw [hq] at h; cases h
      | some j => rw [hq] at h; rw [idxW_snoc hq]; exact h
theorem idxW_last {s : List UInt8} : ∀ {ws : List (List UInt8)}, idxW s ws = none → idxW s (ws ++ [s]) = some ws.length
  | [], _ => by simp [idxW]
  | w :: l, h => by
    unfold idxW at h
    rw [List.cons_append]
    unfold idxW
    split at h
    · cases h
    · rename_i e
      rw [if_neg e]
      cases hq : idxW s l with
      | none => rw [idxW_last hq]; rfl
      | some j => rw [hq] at h; cases h
theorem idxW_mem {s : List UInt8} : ∀ {ws : List (List UInt8)}, s ∈ ws → ∃ k, idxW s ws = some k
  | w :: l, h => by
    unfold idxW
    by_cases e : s = w
    · exact ⟨0, by rw [if_pos e]⟩
    · rw [if_neg e]
      rcases List.mem_cons.1 h with g | g
      · exact absurd g e
      · obtain ⟨k, hk⟩ := idxW_mem g
        exact ⟨k + 1, by rw [hk]; rfl⟩
theorem putW_len (ws : List (List UInt8)) (s : List UInt8) : (putW ws s).1.length ≤ ws.length + 1 := by
  unfold putW; split
  · simp
  · split <;> simp
theorem putW_nodup {ws : List (List UInt8)} (h : ws.Nodup) (s : List UInt8) : (putW ws s).1.Nodup := by
  unfold putW; split
  · exact h
  · split
    · exact h
    · rename_i hi
      rw [List.nodup_append]
      refine ⟨h, by simp, fun a ha b hb => ?_⟩
      rw [List.mem_singleton.1 hb]
      intro e; subst e; exact idxW_none hi ha
theorem putW_idx (ws : List (List UInt8)) {s : List UInt8} (hs : isW s = true) : idxW s (putW ws s).1 = some (putW ws s).2.1 ∧ (putW ws s).2.2 = 0 := by
  unfold putW
  rw [if_neg (by rw [hs]; simp)]
  split
  · rename_i i hi; exact ⟨hi, rfl⟩
  · rename_i hi; exact ⟨idxW_last hi, rfl⟩
theorem putW_odd (ws : List (List UInt8)) {s : List UInt8} (hs : isW s = false) : putW ws s = (ws, 0, 1) := by
  unfold putW; rw [if_pos hs]
theorem putW_mono {ws : List (List UInt8)} {x : List UInt8} {k : Nat} (h : idxW x ws = some k) (s : List UInt8) : idxW x (putW ws s).1 = some k := by
  unfold putW; split
  · exact h
  · split
    · exact h
    · exact idxW_snoc h
theorem putW_mem (ws : List (List UInt8)) (s x : List UInt8) : x ∈ (putW ws s).1 ↔ x ∈ ws ∨ (isW s = true ∧ x = s) := by
  unfold putW; split
  · rename_i h; simp [h]
  · rename_i h
    have hs : isW s = true := by simpa using h
    split
    · rename_i i hi
      refine ⟨.inl, fun g => ?_⟩
      rcases g with g | ⟨_, g⟩
      · exact g
      · subst g; exact List.mem_iff_getElem?.2 ⟨i, idxW_some hi⟩
    · simp [hs]
/-! nobody -/
def DNo (st : St) (v : V) : Prop := v = .ptr0 ∨ ∃ p, v = .ptr p 0 ∧ st.ob p = some (.cells [.map0, .lst [] 1]) ∧ p < st.n
theorem DNo.er {st : St} {v : V} (h : DNo st v) : v.er1 = v := by rcases h with rfl | ⟨p, rfl, _⟩ <;> rfl
theorem DNo.ks {st st' : St} {v : V} (h : DNo st v) (k : Ks st st') : DNo st' v := by
  rcases h with rfl | ⟨p, rfl, h1, h2⟩
  · exact .inl rfl
  · exact .inr ⟨p, rfl, by rw [k.ob _ h2]; exact h1, Nat.lt_of_lt_of_le h2 k.n⟩
theorem given_no {st : St} {v : V} (h : DNo st v) : s23 [v] st = some (.ret (.bool false), st) := by
  rw [s23_eq]
  unfold f23
  rcases h with rfl | ⟨p, rfl, h1, h2⟩
  · simp only [eql_ptr0, Bool.not_true, guard_ft, er1_bool]
  · have l0 : ∀ K, A.load false 1 (.ptr p 0) st K = K .map0 st := fun K => by simp [h1]
    simp only [eql_ptr, guard_tt, nilc_ptr, faddr_ptr, Nat.zero_add, l0, eql_map0, Bool.not_true, er1_bool]
theorem put_no {st : St} {v : V} (h : DNo st v) (s : List UInt8) : s12 [v, .str s] st = some (.ret (.tup [.int .i64 0, .int .i64 1]), st) := by
  rw [s12_eq]
  unfold f12
  simp only [h.er, given_no h, ret_ret, un_not, Bool.not_false, guard_tf, er1_int]
theorem id_no {st : St} {v : V} (h : DNo st v) (s : List UInt8) : s17 [v, .str s] st = some (.ret (.tup [.int .i64 0, .int .i64 1]), st) := by
  rw [s17_eq]
  unfold f17
  simp only [h.er, given_no h, ret_ret, un_not, Bool.not_false, cond_true, er1_int]
theorem word_no {st : St} {v : V} (h : DNo st v) (x : Int) : s14 [v, .int .i64 x] st = some (.ret (.tup [.str [], .int .i64 1]), st) := by
  rw [s14_eq]
  unfold f14
  simp only [h.er, given_no h, ret_ret, un_not, Bool.not_false, cond_true, er1_int, er1_str]
theorem len_no {st : St} {v : V} (h : DNo st v) : s15 [v] st = some (.ret (.int .i64 0), st) := by
  rw [s15_eq]
  unfold f15
  simp only [h.er, given_no h, ret_ret, un_not, Bool.not_false, cond_true, er1_int]
theorem sorted_no {st : St} {v : V} (h : DNo st v) : ∃ st', s13 [v] st = some (.ret (.lst [] 1), st') ∧ Ks st st' := by
  rw [s13_eq]
  unfold f13
  have bx : ∀ K, A.box v st K = K (.ptr st.n 0) (st.new (.cells [v])) := fun K => by rcases h with rfl | ⟨p, rfl, _⟩ <;> rfl
  have k1 := (Ks.refl st).new (.cells [v])
  have o1 := new_at st (.cells [v])
  have ld : ∀ K, A.load false 1 (.ptr st.n 0) (st.new (.cells [v])) K = K v (st.new (.cells [v])) := fun K => by simp [o1]
  simp only [bx, ld, h.er, given_no (h.ks k1), ret_ret, un_not, Bool.not_false, cond_true, er1_lst]
  exact ⟨_, rfl, k1⟩
theorem nobody_loop (s : List UInt8) (x : Int) (a b : V) : ∀ (f i : Nat) (st : St), i ≤ 2 → 2 < f + i → DNo st a → DNo st b → ∃ st', g8b11010 f (.str s) (.int .i64 x) (.lst [a, b] 2) (.int .i64 (i : Nat)) st = some (.ret (.bool true), st') := by
  intro f
  induction f with
  | zero => intro i st hi hf; omega
  | succ f ih =>
    intro i st hi hf ha hb
    unfold g8b11010
    by_cases h : i < 2
    · obtain ⟨v, hv, hn⟩ : ∃ v, [a, b][i]? = some v ∧ DNo st v := by
        have : i = 0 ∨ i = 1 := by omega
        rcases this with rfl | rfl
        · exact ⟨a, rfl, ha⟩
        · exact ⟨b, rfl, hb⟩
      have hc : v.cells = [v] := by rcases hn with rfl | ⟨p, rfl, _⟩ <;> rfl
      have ia : ∀ K, A.iaddr 1 (.lst [a, b] 2) (.int .i64 (i : Nat)) K = K (.lptr [v]) := fun K => by
        have := iaddr_lst (sz := 1) (t := 2) K hv (by rw [hc]; rfl)
        rw [hc] at this; exact this
      have e4 : ∀ K, A.bin .add (.int .i64 (i : Nat)) (.int .i64 1) K = K (.int .i64 ((i + 1 : Nat) : Int)) := fun K => bin_inc (by omega) K
      obtain ⟨st1, q1, q2⟩ := sorted_no hn
      simp only [lenL_lst, List.length_cons, List.length_nil, bin_lss, show ((i : Int) < ((0 + 1 + 1 : Nat) : Int)) from by omega, decide_true, cond_true, ia, load_l1', hn.er, er1_str, put_no hn, ret_ret, ext_0, ext_1]
      unfold g8b1101001001
      simp only [ia, load_l1', hn.er, er1_str, id_no hn, ret_ret, ext_0, ext_1]
      unfold g8b11010010011
      simp only [ia, load_l1', hn.er, er1_int, word_no hn, ret_ret, ext_0, ext_1]
      unfold g8b110100100111
      simp only [eql_int, if_true, bne_self_eq_false, guard_ff]
      unfold g8b1101001001110_7
      simp only [eql_int, if_true, bne_self_eq_false, guard_ff]
      unfold g8b1101001001110_15
      simp only [eql_str, eql_int, if_true, bne_self_eq_false, guard_ff]
      unfold g8b1101001001110_23
      simp only [guard_ff, ia, load_l1', hn.er, len_no hn, ret_ret, eql_int, if_true, bne_self_eq_false]
      unfold g8b1101001001110_31
      simp only [guard_ff, ia, load_l1', hn.er, q1, ret_ret, lenL_lst, List.length_nil, Int.natCast_zero, bin_gtr, Int.lt_irrefl, decide_false, cond_false, e4]
      exact ih (i + 1) st1 (by omega) (by omega) (ha.ks q2) (hb.ks q2)
    · have : i = 2 := by omega
      subst this
      obtain ⟨st', hw⟩ := awake_s st
      simp only [lenL_lst, List.length_cons, List.length_nil, bin_lss, show ¬ (((2 : Nat) : Int) < ((0 + 1 + 1 : Nat) : Int)) from by omega, decide_false, cond_false, hw, ret_ret, er1_bool]
      exact ⟨_, rfl⟩
theorem wordsNobody_law (s : List UInt8) (x : Int) (st : St) : ∃ st', s8 [.str s, .int .i64 x] st = some (.ret (.bool true), st') := by
  rw [s8_eq]
  unfold f8
  have b : ∀ K, A.build [.map0, .lst [] 1] [] K = K (.agg [.map0, .lst [] 1]) := fun K => rfl
  have bx : ∀ K, A.box (.agg [.map0, .lst [] 1]) st K = K (.ptr st.n 0) (st.new (.cells [.map0, .lst [] 1])) := fun K => rfl
  have bs : ∀ K, A.bslice 1 .ptr0 2 [(0, .ptr0), (1, .ptr st.n 0)] K = K (.lst [.ptr0, .ptr st.n 0] 2) := fun K => rfl
  simp only [b, bx, bs]
  have := nobody_loop s x .ptr0 (.ptr st.n 0) big 0 (st.new (.cells [.map0, .lst [] 1])) (by omega) (lt_big (by omega)) (.inl rfl) (.inr ⟨st.n, rfl, new_at _ _, by simp⟩)
  exact this
theorem wordsNobody_row {W : World} {v0 v1 : Value} {x0 x1 : V} {n0 n1 : Nat}
    (r0 : Rs (E0 W) [x0] [v0]) (s0 : Sh Try.prog n0 9 x0.cells) (f0 : fit Try.prog 9 x0)
    (r1 : Rs (E0 W) [x1] [v1]) (s1 : Sh Try.prog n1 3 x1.cells) (f1 : fit Try.prog 3 x1) :
    Calls Try.prog 8 #[v0, v1] W fun e w' => e = .returned (.bool true) ∧ Below W.heap.size W w' := by
  obtain ⟨s, rfl, _⟩ := in_str s0 f0 Try.underlying9
  obtain ⟨k, rfl, _⟩ := in_int s1 f1 Try.underlying3
  obtain ⟨st', hs⟩ := wordsNobody_law s k St0
  exact bool_row sim8 W _ _ _ hs (Rs.cons r0 r1)
end Go.Ab
