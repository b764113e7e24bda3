import Derived.Test.YtmbaebedkobijaaAbD05merged0
/- sinewlaw05: WordsPlays. -/
namespace Go.Ab
open Go.Proofs Go.RowKit
set_option linter.unusedVariables false
set_option linter.unusedSimpArgs false
set_option maxRecDepth 100000
def idP (ws : List (List UInt8)) (s : List UInt8) : Nat × Nat := match idxW s ws with | some k => (k, 0) | none => (0, 3)
theorem id_p {st : St} {d mid t : Nat} {ws : List (List UInt8)} (h : DAt st d mid t ws) (s : List UInt8) : s17 [.ptr d 0, .str s] st = some (.ret (.tup [.int .i64 ((idP ws s).1 : Nat), .int .i64 ((idP ws s).2 : Nat)]), st) := by
  rw [id_s h]; unfold idP
  cases idxW s ws <;> rfl
theorem rid_p (ws : List (List UInt8)) (t : Nat) (s : List UInt8) (hl : ws.length ≤ 100000) (st : St) : s18 [.lst (strsV ws) t, .str s] st = some (.ret (.tup [.int .i64 ((idP ws s).1 : Nat), .int .i64 ((idP ws s).2 : Nat)]), st) := by
  rw [rid_s ws t s hl]; unfold idP
  cases idxW s ws <;> rfl
theorem plays_cmp {st0 st : St} {v : V} {ks : List Nat} (hs : SlAt st0 st v ks) (hl : ks.length ≤ 100000) (u : Nat) : ∀ (f i : Nat), i ≤ ks.length → ks.length < f + i → ∃ st', g6b111111111010 f v (.lst (intsV (zs ks)) u) (.int .i64 (i : Nat)) st = some (.ret (.bool true), st') := by
  intro f
  induction f with
  | zero => intro i hi hf; omega
  | succ f ih =>
    intro i hi hf
    unfold g6b111111111010
    simp only [slat_len hs, bin_lss]
    by_cases h : i < ks.length
    · have e4 : ∀ K, A.bin .add (.int .i64 (i : Nat)) (.int .i64 1) K = K (.int .i64 ((i + 1 : Nat) : Int)) := fun K => bin_inc (by omega) K
      have e1 : ∀ K, A.iaddr 1 (.lst (intsV (zs ks)) u) (.int .i64 (i : Nat)) K = K (.lptr [.int .i64 ((ks[i] : Nat) : Int)]) := fun K => by rw [iaddr_ints u (by rw [zs_len]; exact h), zs_at h]
      simp only [show ((i : Int) < (ks.length : Int)) from by omega, decide_true, cond_true]
      have := slat_at hs h (fun a4 z => A.iaddr 1 (.lst (intsV (zs ks)) u) (.int .i64 (i : Nat)) fun a5 => A.load false 1 a5 st fun a6 _ => A.eql 2 true a4 a6 fun a7 => A.cond a7 (some (.ret ((.bool false) : V).er1, st)) (A.bin .add (.int .i64 (i : Nat)) (.int .i64 1) fun a8 => g6b111111111010 f v (.lst (intsV (zs ks)) u) a8 st))
      rw [this]
      simp only [e1, load_l1', eql_int, if_true, bne_self_eq_false, cond_false, e4]
      exact ih (i + 1) (by omega) (by omega)
    · have : i = ks.length := by omega
      subst this
      obtain ⟨st', hw⟩ := awake_s st
      simp only [Int.lt_irrefl, decide_false, cond_false, hw, ret_ret, er1_bool]
      exact ⟨_, rfl⟩
theorem plays_end {d mid t u : Nat} {ws : List (List UInt8)} (hu : ws.Nodup) (hl : ws.length ≤ 1000) {st : St} (h : DAt st d mid t ws) : ∃ st', g6b1111111 (.ptr d 0) (.lst (strsV ws) u) st = some (.ret (.bool true), st') := by
  unfold g6b1111111
  obtain ⟨st1, v, q1, q2, q3⟩ := sorted_s h hu (by omega)
  obtain ⟨st2, u2, r1, r2⟩ := rsorted_s ws u (by omega) st1
  have h2 := dat_ks h (q3.trans r2)
  have hn := sorted_len ws
  have q2' : SlAt st st2 v (sorted ws) := by
    rcases q2 with g | ⟨id, g1, g2, g3, g4, g5⟩
    · exact .inl g
    · exact .inr ⟨id, g1, by rw [r2.ob _ g4]; exact g2, g3, Nat.lt_of_lt_of_le g4 r2.n, g5⟩
  simp only [er1_ptr, er1_lst, q1, ret_ret, r1, len_s h2, lenL_lst, strsV_len, eql_int, if_true, bne_self_eq_false, guard_ff, slat_len q2', intsV_len, zs_len, cond_false]
  unfold g6b111111111
  exact plays_cmp q2' (by omega) u2 big 0 (by omega) (lt_big (by omega))
theorem plays_word (x : Int) {d mid t u : Nat} {ws : List (List UInt8)} (hu : ws.Nodup) (hl : ws.length ≤ 1000) {st : St} (h : DAt st d mid t ws) : ∃ st', g6b11111 (.int .i64 x) (.ptr d 0) (.lst (strsV ws) u) st = some (.ret (.bool true), st') := by
  unfold g6b11111
  have hend := plays_end (u := u) hu hl h
  simp only [er1_ptr, er1_int, word_s h, ret_ret]
  by_cases hx : 0 ≤ x ∧ x.toNat < ws.length
  · rw [dif_pos hx]
    have hxx : x = ((x.toNat : Nat) : Int) := by omega
    have ia : ∀ K, A.iaddr 1 (.lst (strsV ws) u) (.int .i64 x) K = K (.lptr [.str ws[x.toNat]]) := fun K => by
      conv => lhs; rw [hxx]
      exact iaddr_strs u hx.2 K
    simp only [ext_0, ext_1, bin_geq, show (0 : Int) ≤ x from hx.1, decide_true, guard_tt, lenL_lst, strsV_len, bin_lss, show x < (ws.length : Int) from by omega]
    unfold g6b11111101
    simp only [cond_true, ia, load_l1', eql_str, if_true, bne_self_eq_false, guard_ff, eql_int, cond_false]
    exact hend
  · rw [dif_neg hx]
    have fin : ∃ st', g6b11111101 (.int .i64 x) (.ptr d 0) (.lst (strsV ws) u) (.str []) (.int .i64 3) (.bool false) st = some (.ret (.bool true), st') := by
      unfold g6b11111101
      simp only [cond_false, eql_str, if_true, bne_self_eq_false, guard_ff, eql_int]
      exact hend
    by_cases h0 : 0 ≤ x
    · simp only [ext_0, ext_1, bin_geq, h0, decide_true, guard_tt, lenL_lst, strsV_len, bin_lss, show ¬ x < (ws.length : Int) from by omega, decide_false]
      exact fin
    · simp only [ext_0, ext_1, bin_geq, h0, decide_false, guard_ft]
      exact fin
theorem plays_loop (l : List (List UInt8)) (hl : l.length ≤ 9223372036854775807) (hls : ∀ s ∈ l, s.length ≤ 9223372036854775807) (x : Int) {d mid : Nat} : ∀ (f i t u : Nat) (ws : List (List UInt8)) (st : St), i ≤ 200 → 200 < f + i → i ≤ l.length → ws.length ≤ i → ws.Nodup → DAt st d mid t ws →
    ∃ st', g6b1111010 f (.lst (strsV l) 0) (.int .i64 x) (.ptr d 0) (.lst (strsV ws) u) (.int .i64 (i : Nat)) st = some (.ret (.bool true), st') := by
  intro f
  induction f with
  | zero => intro i t u ws st hi hf; omega
  | succ f ih =>
    intro i t u ws st hi hf hil hw hu h
    unfold g6b1111010
    by_cases h1 : i < l.length
    · by_cases h2 : i < 200
      · have e4 : ∀ K, A.bin .add (.int .i64 (i : Nat)) (.int .i64 1) K = K (.int .i64 ((i + 1 : Nat) : Int)) := fun K => bin_inc (by omega) K
        have hsl := hls _ (List.getElem_mem h1)
        simp only [lenL_lst, strsV_len, bin_lss, show ((i : Int) < (l.length : Int)) from by omega, decide_true, guard_tt, show ((i : Int) < 200) from by omega, cond_true]
        unfold g6b111101001
        simp only [iaddr_strs 0 h1, load_l1', er1_ptr, er1_str, id_p h, ret_ret, ext_0, ext_1]
        unfold g6b111101001001
        simp only [iaddr_strs 0 h1, load_l1', er1_lst, er1_str, rid_p ws u l[i] (by omega), ret_ret, ext_0, ext_1]
        unfold g6b1111010010011
        obtain ⟨st1, u1, r1, r2⟩ := rput_s ws u l[i] hsl (by omega) st
        simp only [iaddr_strs 0 h1, load_l1', er1_lst, er1_str, r1, ret_ret, ext_0, ext_1, ext_2]
        unfold g6b11110100100111
        obtain ⟨st2, t2, q1, q2, q3⟩ := put_s (dat_ks h r2) (by omega) l[i]
        simp only [iaddr_strs 0 h1, load_l1', er1_ptr, er1_str, q1, ret_ret, ext_0, ext_1]
        unfold g6b111101001001111
        simp only [eql_int, if_true, bne_self_eq_false, guard_ff]
        unfold g6b11110100100111100_9
        simp only [guard_ff, eql_int, if_true, bne_self_eq_false, cond_false, e4]
        exact ih (i + 1) t2 u1 _ st2 (by omega) (by omega) (by omega) (by have := putW_len ws l[i]; omega) (putW_nodup hu _) q2
      · simp only [lenL_lst, strsV_len, bin_lss, show ((i : Int) < (l.length : Int)) from by omega, decide_true, guard_tt, show ¬ ((i : Int) < 200) from by omega, decide_false, cond_false]
        exact plays_word x hu (by omega) h
    · simp only [lenL_lst, strsV_len, bin_lss, show ¬ ((i : Int) < (l.length : Int)) from by omega, decide_false, guard_ft]
      exact plays_word x hu (by omega) h
theorem wordsPlays_law (l : List (List UInt8)) (hl : l.length ≤ 9223372036854775807) (hls : ∀ s ∈ l, s.length ≤ 9223372036854775807) (x : Int) (st : St) : ∃ st', s6 [.lst (strsV l) 0, .int .i64 x] st = some (.ret (.bool true), st') := by
  rw [s6_eq]
  unfold f6
  simp only [new_s, ret_ret, eql_ptr, cond_false]
  exact plays_loop l hl hls x big 0 1 1 [] _ (by omega) (lt_big (by omega)) (by omega) (by simp) (by simp) (new_at_d st)
theorem wordsPlays_row {W : World} {v0 v1 : Value} {x0 x1 : V} {n0 n1 : Nat}
    (r0 : Rs (E0 W) [x0] [v0]) (s0 : Sh Try.prog n0 23 x0.cells) (f0 : fit Try.prog 23 x0)
    (r1 : Rs (E0 W) [x1] [v1]) (s1 : Sh Try.prog n1 3 x1.cells) (f1 : fit Try.prog 3 x1) :
    Calls Try.prog 6 #[v0, v1] W fun e w' => e = .returned (.bool true) ∧ Below W.heap.size W w' := by
  obtain ⟨l, rfl, h1, h2⟩ := in_strs s0 f0 Try.underlying23 Try.underlying9
  obtain ⟨k, rfl, _⟩ := in_int s1 f1 Try.underlying3
  obtain ⟨st', hs⟩ := wordsPlays_law l h1 h2 k St0
  exact bool_row sim6 W _ _ _ hs (Rs.cons r0 r1)
end Go.Ab
