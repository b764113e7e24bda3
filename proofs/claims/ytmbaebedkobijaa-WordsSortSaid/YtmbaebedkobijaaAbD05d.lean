import Derived.Test.YtmbaebedkobijaaAbD05c
/- sinewlaw05: WordsSort. -/
namespace Go.Ab
open Go.Proofs Go.RowKit
set_option linter.unusedVariables false
set_option linter.unusedSimpArgs false
set_option maxRecDepth 100000
theorem bin_subN (a b : Nat) (K : V → Res) (h : b ≤ a) (ha : a ≤ 9223372036854775807) : A.bin .sub (.int .i64 (a : Nat)) (.int .i64 (b : Nat)) K = K (.int .i64 ((a - b : Nat) : Int)) := by
  rw [bin_sub K (by omega) (by omega)]
  congr 2; omega
/-- The words in their order. -/
def sorted (ws : List (List UInt8)) : List Nat := sortW ws (List.range ws.length)
theorem sorted_len (ws : List (List UInt8)) : (sorted ws).length = ws.length := by unfold sorted; rw [(sortW_perm _ _).length_eq]; simp
theorem sorted_lt {ws : List (List UInt8)} {i : Nat} (h : i < (sorted ws).length) : (sorted ws)[i] < ws.length := by
  have := (sortW_perm ws (List.range ws.length)).mem_iff.1 (List.getElem_mem h)
  simpa using this
theorem sorted_nodup (ws : List (List UInt8)) : (sorted ws).Nodup := (sortW_perm ws _).nodup_iff.2 List.nodup_range
theorem sorted_less {ws : List (List UInt8)} (hu : ws.Nodup) {i j : Nat} (hij : i < j) (hj : j < (sorted ws).length) : Op.bytesLess (ws[(sorted ws)[i]]'(sorted_lt (by omega))) (ws[(sorted ws)[j]]'(sorted_lt hj)) = true := by
  have hi : i < (sorted ws).length := by omega
  have h1 := List.pairwise_iff_getElem.1 (sortW_sorted ws (List.range ws.length)) i j hi hj hij
  unfold leW at h1
  have g : ∀ k (h : k < (sorted ws).length), ws.getD (sorted ws)[k] [] = ws[(sorted ws)[k]]'(sorted_lt h) := fun k h => by rw [List.getD_eq_getElem?_getD, List.getElem?_eq_getElem (sorted_lt h)]; rfl
  have e1 := g i hi
  have e2 := g j hj
  unfold sorted at e1 e2
  rw [e1, e2] at h1
  cases h : Op.bytesLess (ws[(sorted ws)[i]]'(sorted_lt hi)) (ws[(sorted ws)[j]]'(sorted_lt hj)) with
  | true => rfl
  | false =>
    have := (List.getElem_inj hu).1 (less_tot h h1)
    have := (List.getElem_inj (sorted_nodup ws)).1 this
    omega
theorem sort_check {d mid t : Nat} {ws : List (List UInt8)} (hu : ws.Nodup) (hl : ws.length ≤ 100000) {st0 st : St} (h : DAt st d mid t ws) {v : V} (hs : SlAt st0 st v (sorted ws)) : ∀ (f i : Nat), i ≤ ws.length → ws.length < f + i → ∃ st', g4b11111010 f (.ptr d 0) v (.int .i64 (i : Nat)) st = some (.ret (.bool true), st') := by
  have hn := sorted_len ws
  intro f
  induction f with
  | zero => intro i hi hf; omega
  | succ f ih =>
    intro i hi hf
    unfold g4b11111010
    simp only [slat_len hs, hn, bin_lss]
    by_cases hlt : i < ws.length
    · have hi' : i < (sorted ws).length := by omega
      have sl := sorted_lt hi'
      have e4 : ∀ K, A.bin .add (.int .i64 (i : Nat)) (.int .i64 1) K = K (.int .i64 ((i + 1 : Nat) : Int)) := fun K => bin_inc (by omega) K
      have wd : ∀ {k} (hk : k < ws.length), s14 [.ptr d 0, .int .i64 ((k : Nat) : Int)] st = some (.ret (.tup [.str ws[k], .int .i64 0]), st) := fun {k} hk => by
        rw [word_s h, dif_pos ⟨by omega, by simpa using hk⟩]; simp
      simp only [show ((i : Int) < (ws.length : Int)) from by omega, decide_true, cond_true]
      rw [slat_at hs hi']
      simp only [er1_ptr, er1_int, wd sl, ret_ret, ext_0, ext_1]
      unfold g4b1111101001001
      simp only [eql_int, if_true, bne_self_eq_false, cond_false, bin_gtr]
      by_cases h0 : 0 < i
      · have es : ∀ K, A.bin .sub (.int .i64 (i : Nat)) (.int .i64 1) K = K (.int .i64 ((i - 1 : Nat) : Int)) := fun K => bin_subN i 1 K (by omega) (by omega)
        have hi2 : i - 1 < (sorted ws).length := by omega
        have sl2 := sorted_lt hi2
        simp only [show ((0 : Int) < (i : Int)) from by omega, decide_true, cond_true, es]
        rw [slat_at hs hi2]
        simp only [er1_ptr, er1_int, wd sl2, ret_ret, ext_0, ext_1]
        unfold g4b11111010010011101
        have hless := sorted_less hu (show i - 1 < i by omega) hi'
        have eg : ∀ K, A.bin .geq (.str (ws[(sorted ws)[i - 1]]'sl2)) (.str (ws[(sorted ws)[i]]'sl)) K = K (.bool false) := fun K => by
          show K (.bool !(Op.bytesLess _ _)) = _
          rw [hless]; rfl
        simp only [eql_int, if_true, bne_self_eq_false, guard_ff, eg, cond_false, e4]
        exact ih (i + 1) (by omega) (by omega)
      · simp only [show ¬ ((0 : Int) < (i : Int)) from by omega, decide_false, cond_false, e4]
        exact ih (i + 1) (by omega) (by omega)
    · have : i = ws.length := by omega
      subst this
      obtain ⟨st', hw⟩ := awake_s st
      simp only [Int.lt_irrefl, decide_false, cond_false, er1_ptr, len_s h, ret_ret, eql_int, Bool.false_eq_true, if_false, beq_self_eq_true, guard_tt, hw, er1_bool]
      exact ⟨_, rfl⟩
theorem sort_loop (l : List (List UInt8)) (hl : l.length ≤ 9223372036854775807) {d mid : Nat} : ∀ (f i t : Nat) (ws : List (List UInt8)) (st : St), i ≤ 200 → 200 < f + i → i ≤ l.length → ws.length ≤ i → ws.Nodup → DAt st d mid t ws →
    ∃ st', g4b111010 f (.lst (strsV l) 0) (.ptr d 0) (.int .i64 (i : Nat)) st = some (.ret (.bool true), st') := by
  have last : ∀ (t : Nat) (ws : List (List UInt8)) (st : St), ws.length ≤ 1000 → ws.Nodup → DAt st d mid t ws → ∃ st', g4b1111 (.ptr d 0) st = some (.ret (.bool true), st') := by
    intro t ws st hw hu h
    unfold g4b1111
    obtain ⟨st1, v, q1, q2, q3⟩ := sorted_s h hu (by omega)
    simp only [er1_ptr, q1, ret_ret]
    exact sort_check hu (by omega) (dat_ks h q3) q2 big 0 (by omega) (lt_big (by omega))
  intro f
  induction f with
  | zero => intro i t ws st hi hf; omega
  | succ f ih =>
    intro i t ws st hi hf hil hw hu h
    unfold g4b111010
    by_cases h1 : i < l.length
    · by_cases h2 : i < 200
      · have e4 : ∀ K, A.bin .add (.int .i64 (i : Nat)) (.int .i64 1) K = K (.int .i64 ((i + 1 : Nat) : Int)) := fun K => bin_inc (by omega) K
        obtain ⟨st1, t1, q1, q2, q3⟩ := put_s h (by omega) l[i]
        simp only [lenL_lst, strsV_len, bin_lss, show ((i : Int) < (l.length : Int)) from by omega, decide_true, guard_tt, show ((i : Int) < 200) from by omega, cond_true]
        unfold g4b11101001
        simp only [iaddr_strs 0 h1, load_l1', er1_ptr, er1_str, q1, ret_ret, e4]
        exact ih (i + 1) t1 _ st1 (by omega) (by omega) (by omega) (by have := putW_len ws l[i]; omega) (putW_nodup hu _) q2
      · simp only [lenL_lst, strsV_len, bin_lss, show ((i : Int) < (l.length : Int)) from by omega, decide_true, guard_tt, show ¬ ((i : Int) < 200) from by omega, decide_false, cond_false]
        exact last t ws st (by omega) hu h
    · simp only [lenL_lst, strsV_len, bin_lss, show ¬ ((i : Int) < (l.length : Int)) from by omega, decide_false, guard_ft]
      exact last t ws st (by omega) hu h
theorem wordsSort_law (l : List (List UInt8)) (hl : l.length ≤ 9223372036854775807) (st : St) : ∃ st', s4 [.lst (strsV l) 0] st = some (.ret (.bool true), st') := by
  rw [s4_eq]
  unfold f4
  simp only [new_s, ret_ret, eql_ptr, cond_false]
  exact sort_loop l hl big 0 1 [] _ (by omega) (lt_big (by omega)) (by omega) (by simp) (by simp) (new_at_d st)
theorem wordsSort_row {W : World} {v0 : Value} {x0 : V} {n0 : Nat}
    (r0 : Rs (E0 W) [x0] [v0]) (s0 : Sh Try.prog n0 23 x0.cells) (f0 : fit Try.prog 23 x0) :
    Calls Try.prog 4 #[v0] W fun e w' => e = .returned (.bool true) ∧ Below W.heap.size W w' := by
  obtain ⟨l, rfl, h1, _⟩ := in_strs s0 f0 Try.underlying23 Try.underlying9
  obtain ⟨st', hs⟩ := wordsSort_law l h1 St0
  exact bool_row sim4 W _ _ _ hs r0
end Go.Ab
