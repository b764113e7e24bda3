import Derived.Test.YtnnjfbbflfbcaaaAbW03g
/- sinew/wire: which notes may be. -/
namespace Go.Ab
open Go.RowKit Go.Oct
set_option linter.unusedVariables false
set_option linter.unusedSimpArgs false

def manyF (m : Int) (r : List (List (List UInt8))) : Int := r.foldl (fun m l => IntKind.i64.wrap (m + (l.length : Int))) m
def greatF (g : Bool) (r : List (List (List UInt8))) : Bool := g || r.any fun l => l.any longT
/-- What fits answers. -/
def fitsW (n : Note) : Bool :=
  !decide (n.kind < 1) && (!decide (255 < n.kind) && (!decide (64 < n.nums.length) && (!decide (4096 < n.rows.length) &&
  (!n.nums.any oddN && (!greatF false n.rows && (!n.texts.any longT && decide (manyF n.texts.length n.rows ≤ 4096)))))))
/-- A list's length is one that an int holds. -/
structure NoteOK (n : Note) : Prop where
  nums : n.nums.length ≤ 9223372036854775807
  texts : n.texts.length ≤ 9223372036854775807
  rows : n.rows.length ≤ 9223372036854775807
  row : ∀ r ∈ n.rows, r.length ≤ 9223372036854775807
theorem fits_loop (n : Note) (hn : NoteOK n) (id : Nat) (st : St) (ho : st.ob id = some (.cells (noteC n))) : ∀ (f i : Nat) (m : Int) (g : Bool), i ≤ n.rows.length → n.rows.length < f + i →
    g39b11111010 f (.ptr id 0) (.fn 54 [] []) (.int .i64 m) (.bool g) (.fn 55 [] []) (.lst (rowsV n.rows) 0) (.int .i64 (n.rows.length : Nat)) (.int .i64 (i : Nat)) st
      = g39b111111 (.ptr id 0) (.fn 54 [] []) (.int .i64 (manyF m (n.rows.drop i))) (.bool (greatF g (n.rows.drop i))) (.fn 55 [] []) st := by
  intro f
  induction f with
  | zero => intro i m g hi hf; omega
  | succ f ih =>
    intro i m g hi hf
    unfold g39b11111010
    by_cases h : i < n.rows.length
    · have e4 : ∀ K, A.bin .add (.int .i64 (i : Nat)) (.int .i64 1) K = K (.int .i64 ((i + 1 : Nat) : Int)) := fun K => bin_inc (by have := hn.rows; omega) K
      have hr := hn.row _ (List.getElem_mem h)
      have e3 : ∀ K, A.bin .add (.int .i64 m) (.int .i64 (n.rows[i].length : Nat)) K = K (.int .i64 (IntKind.i64.wrap (m + (n.rows[i].length : Int)))) := fun K => bin_addW _ _ K
      simp only [bin_lss, show ((i : Int) < (n.rows.length : Int)) from by omega, decide_true, cond_true, iaddr_rows 0 h, load_l1', lenL_lst, strsV_len, e3]
      rw [List.drop_eq_getElem_cons h]
      cases g with
      | false =>
        simp only [guard_ff, er1_lst, er1_fn, containsT_s _ _ hr, ret_ret, e4]
        rw [ih (i + 1) _ _ (by omega) (by omega)]
        simp only [manyF, greatF, List.foldl_cons, List.any_cons, Bool.false_or]
      | true =>
        simp only [guard_tf, e4]
        rw [ih (i + 1) _ _ (by omega) (by omega)]
        simp only [manyF, greatF, List.foldl_cons, List.any_cons, Bool.true_or]
    · have : i = n.rows.length := by omega
      subst this
      simp only [bin_lss, Int.lt_irrefl, decide_false, cond_false, List.drop_length, manyF, greatF, List.foldl_nil, List.any_nil, Bool.or_false]
theorem fits_s (n : Note) (hn : NoteOK n) (st : St) : s39 [noteV n] st = some (.ret (.bool (fitsW n)), st) := by
  rw [s39_eq]
  refine fg_of (st' := st.new (.cells (noteC n))) (v := .bool (fitsW n)) ?_ ((Ks.refl st).new _) rfl
  unfold f39 noteV
  rw [box_agg _ _ _ rfl]
  generalize hst : st.new (.cells (noteC n)) = st1
  have ho : st1.ob st.n = some (.cells (noteC n)) := by rw [← hst]; simp
  generalize st.n = id at ho
  have l0 : ∀ K, A.load false 1 (.ptr id 0) st1 K = K (.int .i64 n.kind) st1 := fun K => by simp [ho, noteC]
  have l1 : ∀ K, A.load false 1 (.ptr id 1) st1 K = K (.lst (intsV n.nums) 0) st1 := fun K => by simp [ho, noteC]
  have l2 : ∀ K, A.load false 1 (.ptr id 2) st1 K = K (.lst (strsV n.texts) 0) st1 := fun K => by simp [ho, noteC]
  have l3 : ∀ K, A.load false 1 (.ptr id 3) st1 K = K (.lst (rowsV n.rows) 0) st1 := fun K => by simp [ho, noteC]
  unfold fitsW
  simp only [faddr_ptr, Nat.zero_add, l0, bin_lss]
  by_cases h1 : n.kind < 1
  · simp only [h1, decide_true, guard_tf, Bool.not_true, Bool.false_and]
    unfold g39b100_9; simp only [guard_tf]
    unfold g39b100_15; simp only [guard_tf, er1_bool]
  simp only [h1, decide_false, guard_ff, bin_gtr, Bool.not_false, Bool.true_and, l0]
  unfold g39b100_9
  by_cases h2 : 255 < n.kind
  · simp only [h2, decide_true, guard_tf, Bool.not_true, Bool.false_and]
    unfold g39b100_15; simp only [guard_tf, er1_bool]
  simp only [h2, decide_false, guard_ff, faddr_ptr, Nat.zero_add, l1, lenL_lst, intsV_len, bin_gtr, Bool.not_false, Bool.true_and]
  unfold g39b100_15
  by_cases h3 : 64 < n.nums.length
  · simp only [h3, show ((64 : Int) < (n.nums.length : Int)) from by omega, decide_true, guard_tf, Bool.not_true, Bool.false_and, er1_bool]
  simp only [h3, show ¬ ((64 : Int) < (n.nums.length : Int)) from by omega, decide_false, guard_ff, faddr_ptr, Nat.zero_add, l3, lenL_lst, rowsV_len, bin_gtr, Bool.not_false, Bool.true_and]
  by_cases h4 : 4096 < n.rows.length
  · simp only [h4, show ((4096 : Int) < (n.rows.length : Int)) from by omega, decide_true, cond_true, Bool.not_true, Bool.false_and, er1_bool]
  simp only [h4, show ¬ ((4096 : Int) < (n.rows.length : Int)) from by omega, decide_false, cond_false, Bool.not_false, Bool.true_and]
  unfold g39b11
  simp only [faddr_ptr, Nat.zero_add, l2, lenL_lst, strsV_len]
  unfold g39b1111
  simp only [faddr_ptr, Nat.zero_add, l3, lenL_lst, rowsV_len]
  have := fits_loop n hn id st1 ho big 0 (n.texts.length : Nat) false (by omega) (lt_big (by have := hn.rows; omega))
  rw [List.drop_zero, show ((0 : Nat) : Int) = 0 from rfl] at this
  rw [this]
  unfold g39b111111
  simp only [faddr_ptr, Nat.zero_add, l1, er1_lst, er1_fn, containsN_s _ _ hn.nums, ret_ret, un_not]
  unfold g39b1111110_6
  cases hA : n.nums.any oddN with
  | true =>
    simp only [Bool.not_true, guard_ft, Bool.false_and]
    unfold g39b1111110_17; simp only [guard_ft, er1_bool]
  | false =>
    simp only [Bool.not_false, guard_tt, un_not, Bool.true_and]
    cases hB : greatF false n.rows with
    | true =>
      simp only [Bool.not_true, guard_ft, Bool.false_and]
      unfold g39b1111110_17; simp only [guard_ft, er1_bool]
    | false =>
      simp only [Bool.not_false, guard_tt, faddr_ptr, Nat.zero_add, l2, er1_lst, er1_fn, containsT_s _ _ hn.texts, ret_ret, un_not, Bool.true_and]
      unfold g39b1111110_17
      cases hC : n.texts.any longT with
      | true => simp only [Bool.not_true, guard_ft, Bool.false_and, er1_bool]
      | false => simp only [Bool.not_false, guard_tt, bin_leq, Bool.true_and, er1_bool]
/-! ### sinewref03.shaped -/
theorem short_loop (l : List (List UInt8)) (t : Nat) (hl : l.length ≤ 9223372036854775807) (st : St) : ∀ (n i : Nat), i ≤ l.length → l.length < n + i →
    g59b1010 n (.lst (strsV l) t) (.int .i64 (i : Nat)) st = some (.ret (.bool (!(l.drop i).any longT)), st) := by
  intro n
  induction n with
  | zero => intro i hi hn; omega
  | succ n ih =>
    intro i hi hn
    unfold g59b1010
    by_cases h : i < l.length
    · have e4 : ∀ K, A.bin .add (.int .i64 (i : Nat)) (.int .i64 1) K = K (.int .i64 ((i + 1 : Nat) : Int)) := fun K => bin_inc (by omega) K
      simp only [lenL_lst, strsV_len, bin_lss, show ((i : Int) < (l.length : Int)) from by omega, decide_true, cond_true, iaddr_strs t h, load_l1', lenS_str, bin_gtr]
      rw [List.drop_eq_getElem_cons h, List.any_cons]
      by_cases hx : 65536 < l[i].length
      · simp only [show ((65536 : Int) < (l[i].length : Int)) from by omega, decide_true, cond_true, er1_bool, longT, hx, Bool.true_or, Bool.not_true]
      · simp only [show ¬ ((65536 : Int) < (l[i].length : Int)) from by omega, decide_false, cond_false, e4, ih (i + 1) (by omega) (by omega)]
        simp only [longT, hx, decide_false, Bool.false_or]
    · have : i = l.length := by omega
      subst this
      simp only [lenL_lst, strsV_len, bin_lss, Int.lt_irrefl, decide_false, cond_false, er1_bool, List.drop_length]
      rfl
theorem short_s (l : List (List UInt8)) (t : Nat) (hl : l.length ≤ 9223372036854775807) (st : St) : s59 [.lst (strsV l) t] st = some (.ret (.bool (!l.any longT)), st) := by
  rw [s59_eq]
  unfold f59
  have := short_loop l t hl st big 0 (by omega) (lt_big (by omega))
  rw [List.drop_zero] at this
  exact this
/-- The rows, one behind the other. -/
def rowsS (k : Int) : List (List (List UInt8)) → Bool
  | [] => true
  | l :: r => !decide (4096 - k < l.length) && (!l.any longT && rowsS (k + l.length) r)
def shapedW (n : Note) : Bool :=
  !decide (n.kind < 1) && (!decide (255 < n.kind) && (!decide (64 < n.nums.length) && (!decide (4096 < n.texts.length) && (!decide (4096 < n.rows.length) &&
  (!n.texts.any longT && (!n.nums.any oddN && rowsS n.texts.length n.rows))))))
theorem shaped_rows (n : Note) (hn : NoteOK n) (id : Nat) (st : St) (ho : st.ob id = some (.cells (noteC n))) : ∀ (f i : Nat) (k : Int), 0 ≤ k → k ≤ 4096 → i ≤ n.rows.length → n.rows.length < f + i →
    g42b1111010 f (.ptr id 0) (.int .i64 k) (.int .i64 (i : Nat)) st = some (.ret (.bool (rowsS k (n.rows.drop i))), st) := by
  have l3 : ∀ K, A.load false 1 (.ptr id 3) st K = K (.lst (rowsV n.rows) 0) st := fun K => by simp [ho, noteC]
  intro f
  induction f with
  | zero => intro i k h0 hk hi hf; omega
  | succ f ih =>
    intro i k h0 hk hi hf
    unfold g42b1111010
    by_cases h : i < n.rows.length
    · have e4 : ∀ K, A.bin .add (.int .i64 (i : Nat)) (.int .i64 1) K = K (.int .i64 ((i + 1 : Nat) : Int)) := fun K => bin_inc (by have := hn.rows; omega) K
      have hr := hn.row _ (List.getElem_mem h)
      have e1 : ∀ K, A.bin .sub (.int .i64 4096) (.int .i64 k) K = K (.int .i64 (4096 - k)) := fun K => bin_sub K (by omega) (by omega)
      simp only [faddr_ptr, Nat.zero_add, l3, lenL_lst, rowsV_len, bin_lss, show ((i : Int) < (n.rows.length : Int)) from by omega, decide_true, cond_true, iaddr_rows 0 h, load_l1', strsV_len, e1, bin_gtr]
      rw [List.drop_eq_getElem_cons h]
      unfold rowsS g42b1111010010000_10
      by_cases h1 : 4096 - k < (n.rows[i].length : Int)
      · simp only [h1, decide_true, guard_tf, er1_bool, Bool.not_true, Bool.false_and]
      · have e2 : ∀ K, A.bin .add (.int .i64 k) (.int .i64 (n.rows[i].length : Nat)) K = K (.int .i64 (k + (n.rows[i].length : Int))) := fun K => bin_add K (by omega) (by omega)
        simp only [h1, decide_false, guard_ff, faddr_ptr, Nat.zero_add, l3, iaddr_rows 0 h, load_l1', er1_lst, short_s _ _ hr, ret_ret, un_not, Bool.not_not, Bool.not_false, Bool.true_and]
        cases hB : n.rows[i].any longT with
        | true => simp only [cond_true, er1_bool, Bool.not_true, Bool.false_and]
        | false =>
          simp only [cond_false, lenL_lst, strsV_len, e2, e4, Bool.not_false, Bool.true_and]
          exact ih (i + 1) _ (by omega) (by omega) (by omega) (by omega)
    · have : i = n.rows.length := by omega
      subst this
      simp only [faddr_ptr, Nat.zero_add, l3, lenL_lst, rowsV_len, bin_lss, Int.lt_irrefl, decide_false, cond_false, er1_bool, List.drop_length]
      rfl
theorem shaped_nums (n : Note) (hn : NoteOK n) (id : Nat) (st : St) (ho : st.ob id = some (.cells (noteC n))) : ∀ (f i : Nat), i ≤ n.nums.length → n.nums.length < f + i →
    g42b11010 f (.ptr id 0) (.int .i64 (i : Nat)) st = _root_.cond ((n.nums.drop i).any oddN) (some (.ret (.bool false), st)) (g42b111 (.ptr id 0) st) := by
  have l1 : ∀ K, A.load false 1 (.ptr id 1) st K = K (.lst (intsV n.nums) 0) st := fun K => by simp [ho, noteC]
  intro f
  induction f with
  | zero => intro i hi hf; omega
  | succ f ih =>
    intro i hi hf
    unfold g42b11010
    by_cases h : i < n.nums.length
    · have e4 : ∀ K, A.bin .add (.int .i64 (i : Nat)) (.int .i64 1) K = K (.int .i64 ((i + 1 : Nat) : Int)) := fun K => bin_inc (by have := hn.nums; omega) K
      simp only [faddr_ptr, Nat.zero_add, l1, lenL_lst, intsV_len, bin_lss, show ((i : Int) < (n.nums.length : Int)) from by omega, decide_true, cond_true, iaddr_ints 0 h, load_l1']
      rw [List.drop_eq_getElem_cons h, List.any_cons]
      unfold oddN
      by_cases h1 : n.nums[i] < 0
      · simp only [h1, decide_true, guard_tf, er1_bool, Bool.true_or, _root_.cond_true]
      · simp only [h1, decide_false, guard_ff, faddr_ptr, Nat.zero_add, l1, iaddr_ints 0 h, load_l1', bin_gtr, Bool.false_or]
        by_cases h2 : 4611686018427387903 < n.nums[i]
        · simp only [h2, decide_true, cond_true, er1_bool, Bool.true_or, _root_.cond_true]
        · simp only [h2, decide_false, cond_false, e4, Bool.false_or]
          exact ih (i + 1) (by omega) (by omega)
    · have : i = n.nums.length := by omega
      subst this
      simp only [faddr_ptr, Nat.zero_add, l1, lenL_lst, intsV_len, bin_lss, Int.lt_irrefl, decide_false, cond_false, List.drop_length]
      rfl
theorem shaped_s (n : Note) (hn : NoteOK n) (st : St) : s42 [noteV n] st = some (.ret (.bool (shapedW n)), st) := by
  rw [s42_eq]
  refine fg_of (st' := st.new (.cells (noteC n))) (v := .bool (shapedW n)) ?_ ((Ks.refl st).new _) rfl
  unfold f42 noteV
  rw [box_agg _ _ _ rfl]
  generalize hst : st.new (.cells (noteC n)) = st1
  have ho : st1.ob st.n = some (.cells (noteC n)) := by rw [← hst]; simp
  generalize st.n = id at ho
  have l0 : ∀ K, A.load false 1 (.ptr id 0) st1 K = K (.int .i64 n.kind) st1 := fun K => by simp [ho, noteC]
  have l1 : ∀ K, A.load false 1 (.ptr id 1) st1 K = K (.lst (intsV n.nums) 0) st1 := fun K => by simp [ho, noteC]
  have l2 : ∀ K, A.load false 1 (.ptr id 2) st1 K = K (.lst (strsV n.texts) 0) st1 := fun K => by simp [ho, noteC]
  have l3 : ∀ K, A.load false 1 (.ptr id 3) st1 K = K (.lst (rowsV n.rows) 0) st1 := fun K => by simp [ho, noteC]
  have z27 : g42b100_27 (.ptr id 0) (.bool true) st1 = some (.ret (.bool false), st1) := by unfold g42b100_27; simp only [guard_tf, er1_bool]
  have z21 : g42b100_21 (.ptr id 0) (.bool true) st1 = some (.ret (.bool false), st1) := by unfold g42b100_21; simp only [guard_tf, z27]
  have z15 : g42b100_15 (.ptr id 0) (.bool true) st1 = some (.ret (.bool false), st1) := by unfold g42b100_15; simp only [guard_tf, z21]
  unfold shapedW
  simp only [faddr_ptr, Nat.zero_add, l0, bin_lss]
  by_cases h1 : n.kind < 1
  · simp only [h1, decide_true, guard_tf, Bool.not_true, Bool.false_and]
    unfold g42b100_9; simp only [guard_tf, z15]
  simp only [h1, decide_false, guard_ff, bin_gtr, Bool.not_false, Bool.true_and, l0]
  unfold g42b100_9
  by_cases h2 : 255 < n.kind
  · simp only [h2, decide_true, guard_tf, Bool.not_true, Bool.false_and, z15]
  simp only [h2, decide_false, guard_ff, faddr_ptr, Nat.zero_add, l1, lenL_lst, intsV_len, bin_gtr, Bool.not_false, Bool.true_and]
  by_cases h3 : 64 < n.nums.length
  · simp only [h3, show ((64 : Int) < (n.nums.length : Int)) from by omega, decide_true, z15, Bool.not_true, Bool.false_and]
  simp only [h3, show ¬ ((64 : Int) < (n.nums.length : Int)) from by omega, decide_false, Bool.not_false, Bool.true_and]
  unfold g42b100_15
  simp only [guard_ff, faddr_ptr, Nat.zero_add, l2, lenL_lst, strsV_len, bin_gtr]
  by_cases h4 : 4096 < n.texts.length
  · simp only [h4, show ((4096 : Int) < (n.texts.length : Int)) from by omega, decide_true, z21, Bool.not_true, Bool.false_and]
  simp only [h4, show ¬ ((4096 : Int) < (n.texts.length : Int)) from by omega, decide_false, Bool.not_false, Bool.true_and]
  unfold g42b100_21
  simp only [guard_ff, faddr_ptr, Nat.zero_add, l3, lenL_lst, rowsV_len, bin_gtr]
  by_cases h5 : 4096 < n.rows.length
  · simp only [h5, show ((4096 : Int) < (n.rows.length : Int)) from by omega, decide_true, z27, Bool.not_true, Bool.false_and]
  simp only [h5, show ¬ ((4096 : Int) < (n.rows.length : Int)) from by omega, decide_false, Bool.not_false, Bool.true_and]
  unfold g42b100_27
  simp only [guard_ff, faddr_ptr, Nat.zero_add, l2, er1_lst, short_s _ _ hn.texts, ret_ret, un_not, Bool.not_not]
  cases hA : n.texts.any longT with
  | true => simp only [cond_true, er1_bool, Bool.not_true, Bool.false_and]
  | false =>
    simp only [cond_false, Bool.not_false, Bool.true_and]
    unfold g42b11
    have := shaped_nums n hn id st1 ho big 0 (by omega) (lt_big (by have := hn.nums; omega))
    rw [List.drop_zero, show ((0 : Nat) : Int) = 0 from rfl] at this
    rw [this]
    cases hB : n.nums.any oddN with
    | true => simp only [_root_.cond_true, Bool.not_true, Bool.false_and]
    | false =>
      simp only [_root_.cond_false, Bool.not_false, Bool.true_and]
      unfold g42b111
      simp only [faddr_ptr, Nat.zero_add, l2, lenL_lst, strsV_len]
      have := shaped_rows n hn id st1 ho big 0 (n.texts.length : Nat) (by omega) (by omega) (by omega) (lt_big (by have := hn.rows; omega))
      rw [List.drop_zero, show ((0 : Nat) : Int) = 0 from rfl] at this
      exact this
end Go.Ab
