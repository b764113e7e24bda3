import Derived.Test.YtnnjfbbflfbcaaaAbW03h
/- Which notes may be: both are one where lengths add up; notes that are the same. -/
namespace Go.Ab
open Go.RowKit Go.Oct
set_option linter.unusedVariables false
set_option linter.unusedSimpArgs false

def lens (r : List (List (List UInt8))) : Nat := (r.map List.length).sum
theorem lens_cons (l : List (List UInt8)) (r : List (List (List UInt8))) : lens (l :: r) = l.length + lens r := by simp [lens]
theorem manyF_eq : ∀ (r : List (List (List UInt8))) (m : Nat), m + lens r ≤ 9223372036854775807 → manyF m r = ((m + lens r : Nat) : Int)
  | [], m, _ => by simp [manyF, lens]
  | l :: r, m, h => by
    rw [lens_cons] at h
    have e : manyF (m : Int) (l :: r) = manyF ((m + l.length : Nat) : Int) r := by
      show manyF (IntKind.i64.wrap ((m : Int) + (l.length : Int))) r = _
      rw [wrap_i64 (by omega) (by omega)]; rfl
    rw [e, manyF_eq r (m + l.length) (by omega), lens_cons]; congr 1; omega
theorem rowsS_eq : ∀ (r : List (List (List UInt8))) (k : Nat), k ≤ 4096 → rowsS k r = (!(r.any fun l => l.any longT) && decide (k + lens r ≤ 4096))
  | [], k, h => by simp [rowsS, lens, h]
  | l :: r, k, h => by
    unfold rowsS
    rw [List.any_cons, lens_cons]
    by_cases h1 : 4096 - (k : Int) < (l.length : Int)
    · have : ¬ (k + (l.length + lens r) ≤ 4096) := by omega
      simp [h1, this]
    · have e : ((k : Int) + (l.length : Int)) = ((k + l.length : Nat) : Int) := by omega
      rw [e, rowsS_eq r (k + l.length) (by omega)]
      simp only [h1, decide_false, Bool.not_false, Bool.true_and]
      cases l.any longT <;> simp [Nat.add_assoc]
theorem fits_shaped (n : Note) (h : n.texts.length + lens n.rows ≤ 9223372036854775807) : fitsW n = shapedW n := by
  unfold fitsW shapedW greatF
  rw [manyF_eq _ _ h]
  by_cases h1 : n.texts.length ≤ 4096
  · rw [rowsS_eq _ _ h1]
    have e : decide (((n.texts.length + lens n.rows : Nat) : Int) ≤ 4096) = decide (n.texts.length + lens n.rows ≤ 4096) := by
      apply decide_eq_decide.2; omega
    have e2 : decide (4096 < n.texts.length) = false := by simp; omega
    rw [e, e2]
    cases decide (n.kind < 1) <;> cases decide (255 < n.kind) <;> cases decide (64 < n.nums.length) <;> cases decide (4096 < n.rows.length) <;> cases n.nums.any oddN <;> cases n.texts.any longT <;> cases n.rows.any (fun l => l.any longT) <;> simp
  · have e : decide (((n.texts.length + lens n.rows : Nat) : Int) ≤ 4096) = false := by simp; omega
    have e2 : decide (4096 < n.texts.length) = true := by simp; omega
    rw [e, e2]
    simp
/-! ### the same -/
theorem sameRows_loop (a b : List (List (List UInt8))) (t u : Nat) (hl : a.length = b.length) (hm : a.length ≤ 9223372036854775807) (ha : ∀ r ∈ a, r.length ≤ 9223372036854775806) (st : St) : ∀ (n i : Nat), i ≤ a.length → a.length < n + i →
    g29b11010 n (.lst (rowsV a) t) (.lst (rowsV b) u) (.int .i64 (i : Nat)) st = some (.ret (.bool (decide (a.drop i = b.drop i))), st) := by
  intro n
  induction n with
  | zero => intro i hi hn; omega
  | succ n ih =>
    intro i hi hn
    unfold g29b11010
    by_cases h : i < a.length
    · have e4 : ∀ K, A.bin .add (.int .i64 (i : Nat)) (.int .i64 1) K = K (.int .i64 ((i + 1 : Nat) : Int)) := fun K => bin_inc (by omega) K
      have hr := ha _ (List.getElem_mem h)
      simp only [lenL_lst, rowsV_len, bin_lss, show ((i : Int) < (a.length : Int)) from by omega, decide_true, cond_true, iaddr_rows t h, iaddr_rows u (show i < b.length by omega), load_l1', er1_lst, same_s _ _ _ _ hr, ret_ret, kid, noP_ret, un_not]
      rw [List.drop_eq_getElem_cons h, List.drop_eq_getElem_cons (show i < b.length by omega)]
      by_cases h2 : a[i] = b[i]
      · simp only [h2, decide_true, Bool.not_true, cond_false, e4]
        rw [ih (i + 1) (by omega) (by omega)]
        simp only [List.cons.injEq, true_and]
      · simp only [h2, decide_false, Bool.not_false, cond_true, er1_bool, List.cons.injEq, false_and]
    · have h1 : i = a.length := by omega
      subst h1
      simp only [lenL_lst, rowsV_len, bin_lss, Int.lt_irrefl, decide_false, cond_false, er1_bool]
      rw [List.drop_length, hl, List.drop_length]; rfl
theorem sameRows_s (a b : List (List (List UInt8))) (t u : Nat) (hm : a.length ≤ 9223372036854775807) (ha : ∀ r ∈ a, r.length ≤ 9223372036854775806) (st : St) : s29 [.lst (rowsV a) t, .lst (rowsV b) u] st = some (.ret (.bool (decide (a = b))), st) := by
  rw [s29_eq]
  unfold f29
  simp only [lenL_lst, rowsV_len, eql_int, if_true]
  by_cases h : a.length = b.length
  · have e : ((((a.length : Nat) : Int)) != (b.length : Int)) = false := by rw [h]; simp
    simp only [e, cond_false]
    have := sameRows_loop a b t u h hm ha st big 0 (by omega) (lt_big (by omega))
    simpa using this
  · have e : ((((a.length : Nat) : Int)) != (b.length : Int)) = true := by simp; omega
    simp only [e, cond_true, er1_bool]
    congr 3
    have : a ≠ b := fun g => h (by rw [g])
    simp [this]
/-- Lists that SameAll walks. -/
structure NoteSM (n : Note) : Prop where
  nums : n.nums.length ≤ 9223372036854775806
  texts : n.texts.length ≤ 9223372036854775806
  rows : n.rows.length ≤ 9223372036854775806
  row : ∀ r ∈ n.rows, r.length ≤ 9223372036854775806
theorem same_nums (a b : Note) (hl : a.nums.length = b.nums.length) (ha : NoteSM a) (p q : Nat) (st : St) (hp : st.ob p = some (.cells (noteC a))) (hq : st.ob q = some (.cells (noteC b))) : ∀ (f i : Nat), i ≤ a.nums.length → a.nums.length < f + i →
    g15b11010 f (.ptr p 0) (.ptr q 0) (.int .i64 (i : Nat)) st = some (.ret (.bool (decide (a.nums.drop i = b.nums.drop i) && (decide (a.texts = b.texts) && decide (a.rows = b.rows)))), st) := by
  have a1 : ∀ K, A.load false 1 (.ptr p 1) st K = K (.lst (intsV a.nums) 0) st := fun K => by simp [hp, noteC]
  have a2 : ∀ K, A.load false 1 (.ptr p 2) st K = K (.lst (strsV a.texts) 0) st := fun K => by simp [hp, noteC]
  have a3 : ∀ K, A.load false 1 (.ptr p 3) st K = K (.lst (rowsV a.rows) 0) st := fun K => by simp [hp, noteC]
  have b1 : ∀ K, A.load false 1 (.ptr q 1) st K = K (.lst (intsV b.nums) 0) st := fun K => by simp [hq, noteC]
  have b2 : ∀ K, A.load false 1 (.ptr q 2) st K = K (.lst (strsV b.texts) 0) st := fun K => by simp [hq, noteC]
  have b3 : ∀ K, A.load false 1 (.ptr q 3) st K = K (.lst (rowsV b.rows) 0) st := fun K => by simp [hq, noteC]
  intro f
  induction f with
  | zero => intro i hi hf; omega
  | succ f ih =>
    intro i hi hf
    unfold g15b11010
    by_cases h : i < a.nums.length
    · have e4 : ∀ K, A.bin .add (.int .i64 (i : Nat)) (.int .i64 1) K = K (.int .i64 ((i + 1 : Nat) : Int)) := fun K => bin_inc (by have := ha.nums; omega) K
      simp only [faddr_ptr, Nat.zero_add, a1, b1, lenL_lst, intsV_len, bin_lss, show ((i : Int) < (a.nums.length : Int)) from by omega, decide_true, cond_true, iaddr_ints 0 h, iaddr_ints 0 (show i < b.nums.length by omega), load_l1', eql_int, if_true]
      rw [List.drop_eq_getElem_cons h, List.drop_eq_getElem_cons (show i < b.nums.length by omega)]
      by_cases h2 : a.nums[i] = b.nums[i]
      · simp only [h2, bne_self_eq_false, cond_false, e4]
        rw [ih (i + 1) (by omega) (by omega)]
        simp only [List.cons.injEq, true_and]
      · have : (a.nums[i] != b.nums[i]) = true := by simp [h2]
        simp only [this, cond_true, er1_bool, List.cons.injEq, h2, false_and, decide_false, Bool.false_and]
    · have h1 : i = a.nums.length := by omega
      subst h1
      simp only [faddr_ptr, Nat.zero_add, a1, a2, b2, lenL_lst, intsV_len, bin_lss, Int.lt_irrefl, decide_false, cond_false, er1_lst, same_s _ _ _ _ ha.texts, ret_ret]
      rw [List.drop_length, hl, List.drop_length]
      by_cases h3 : a.texts = b.texts
      · simp only [h3, decide_true, guard_tt, faddr_ptr, Nat.zero_add, a3, b3, er1_lst, sameRows_s _ _ _ _ (show a.rows.length ≤ 9223372036854775807 by have := ha.rows; omega) ha.row, ret_ret, er1_bool, Bool.true_and]
      · simp only [h3, decide_false, guard_ft, er1_bool, Bool.false_and, Bool.and_false]
def sameN (a b : Note) : Bool := decide (a.kind = b.kind) && (decide (a.nums = b.nums) && (decide (a.texts = b.texts) && decide (a.rows = b.rows)))
theorem sameN_iff {a b : Note} : sameN a b = true ↔ a = b := by
  cases a; cases b; simp [sameN]
theorem noteSame_s (a b : Note) (ha : NoteSM a) (st : St) : s15 [noteV a, noteV b] st = some (.ret (.bool (sameN a b)), st) := by
  rw [s15_eq]
  refine fg_of (st' := (st.new (.cells (noteC a))).new (.cells (noteC b))) (v := .bool (sameN a b)) ?_ (((Ks.refl st).new _).new _) rfl
  unfold f15 noteV
  rw [box_agg _ _ _ rfl, box_agg _ _ _ rfl]
  have hp : ((st.new (.cells (noteC a))).new (.cells (noteC b))).ob st.n = some (.cells (noteC a)) := by
    rw [new_ne _ _ (by simp), new_at]
  have hq : ((st.new (.cells (noteC a))).new (.cells (noteC b))).ob (st.new (.cells (noteC a))).n = some (.cells (noteC b)) := new_at _ _
  generalize (st.new (.cells (noteC a))).new (.cells (noteC b)) = st1 at hp hq
  generalize (st.new (.cells (noteC a))).n = q at hq
  generalize st.n = p at hp
  have a0 : ∀ K, A.load false 1 (.ptr p 0) st1 K = K (.int .i64 a.kind) st1 := fun K => by simp [hp, noteC]
  have a1 : ∀ K, A.load false 1 (.ptr p 1) st1 K = K (.lst (intsV a.nums) 0) st1 := fun K => by simp [hp, noteC]
  have b0 : ∀ K, A.load false 1 (.ptr q 0) st1 K = K (.int .i64 b.kind) st1 := fun K => by simp [hq, noteC]
  have b1 : ∀ K, A.load false 1 (.ptr q 1) st1 K = K (.lst (intsV b.nums) 0) st1 := fun K => by simp [hq, noteC]
  simp only [faddr_ptr, Nat.zero_add, a0, b0, eql_int, if_true]
  unfold sameN
  by_cases h1 : a.kind = b.kind
  · simp only [h1, bne_self_eq_false, guard_ff, faddr_ptr, Nat.zero_add, a1, b1, lenL_lst, intsV_len, eql_int, if_true, decide_true, Bool.true_and]
    by_cases h2 : a.nums.length = b.nums.length
    · have e : ((((a.nums.length : Nat) : Int)) != (b.nums.length : Int)) = false := by rw [h2]; simp
      simp only [e, cond_false]
      unfold g15b11
      have := same_nums a b h2 ha p q st1 hp hq big 0 (by omega) (lt_big (by have := ha.nums; omega))
      rw [List.drop_zero, List.drop_zero] at this
      exact this
    · have e : ((((a.nums.length : Nat) : Int)) != (b.nums.length : Int)) = true := by simp; omega
      have : ¬ a.nums = b.nums := fun g => h2 (by rw [g])
      simp only [e, cond_true, er1_bool, this, decide_false, Bool.false_and]
  · have : (a.kind != b.kind) = true := by simp [h1]
    simp only [this, guard_tf, er1_bool, h1, decide_false, Bool.false_and]
/-- Lists of notes: four cells each. -/
def notesV (l : List Note) : List V := l.map noteV
@[simp] theorem notesV_len (l : List Note) : (notesV l).length = l.length := by simp [notesV]
theorem szok_notes (l : List Note) : szok 4 (notesV l) = true := szok_of (by intro v hv; obtain ⟨x, _, rfl⟩ := List.mem_map.1 hv; rfl)
theorem iaddr_notes {l : List Note} {i : Nat} (t : Nat) (h : i < l.length) (K : V → Res) : A.iaddr 4 (.lst (notesV l) t) (.int .i64 (i : Nat)) K = K (.lptr (noteC l[i])) := iaddr_lst (v := noteV l[i]) K (by simp [notesV, h]) rfl
theorem load_note (n : Note) (st : St) (K : V → St → Res) : A.load true 4 (.lptr (noteC n)) st K = K (noteV n) st := load_lagg K rfl
@[simp] theorem er1_note (n : Note) : (noteV n).er1 = noteV n := rfl
theorem sameAll_loop (a b : List Note) (t u : Nat) (hl : a.length = b.length) (hm : a.length ≤ 9223372036854775806) (ha : ∀ n ∈ a, NoteSM n) (st : St) : ∀ (n i : Nat), i ≤ a.length → a.length < n + i →
    ∃ c : Bool, g16b11010 n (.lst (notesV a) t) (.lst (notesV b) u) (.int .i64 (i : Nat)) st = some (.ret (.bool c), st) ∧ (c = true ↔ a.drop i = b.drop i) := by
  intro n
  induction n with
  | zero => intro i hi hn; omega
  | succ n ih =>
    intro i hi hn
    unfold g16b11010
    by_cases h : i < a.length
    · have e4 : ∀ K, A.bin .add (.int .i64 (i : Nat)) (.int .i64 1) K = K (.int .i64 ((i + 1 : Nat) : Int)) := fun K => bin_inc (by omega) K
      have hr := ha _ (List.getElem_mem h)
      simp only [lenL_lst, notesV_len, bin_lss, show ((i : Int) < (a.length : Int)) from by omega, decide_true, cond_true, iaddr_notes t h, iaddr_notes u (show i < b.length by omega), load_note, er1_note, noteSame_s _ _ hr, ret_ret, kid, noP_ret, un_not]
      rw [List.drop_eq_getElem_cons h, List.drop_eq_getElem_cons (show i < b.length by omega)]
      cases h2 : sameN a[i] b[i] with
      | true =>
        simp only [Bool.not_true, cond_false, e4]
        obtain ⟨c, c1, c2⟩ := ih (i + 1) (by omega) (by omega)
        refine ⟨c, c1, ?_⟩
        rw [c2, List.cons.injEq, sameN_iff.1 h2]; simp only [true_and]
      | false =>
        simp only [Bool.not_false, cond_true, er1_bool]
        refine ⟨false, rfl, ?_⟩
        have : ¬ a[i] = b[i] := fun g => by rw [sameN_iff.2 g] at h2; cases h2
        simp only [List.cons.injEq, this, false_and, Bool.false_eq_true]
    · have h1 : i = a.length := by omega
      subst h1
      simp only [lenL_lst, notesV_len, bin_lss, Int.lt_irrefl, decide_false, cond_false, er1_bool]
      refine ⟨true, rfl, ?_⟩
      rw [List.drop_length, hl, List.drop_length]; simp
theorem sameAll_s (a b : List Note) (t u : Nat) (hm : a.length ≤ 9223372036854775806) (ha : ∀ n ∈ a, NoteSM n) (st : St) : ∃ c : Bool, s16 [.lst (notesV a) t, .lst (notesV b) u] st = some (.ret (.bool c), st) ∧ (c = true ↔ a = b) := by
  rw [s16_eq]
  unfold f16
  simp only [lenL_lst, notesV_len, eql_int, if_true]
  by_cases h : a.length = b.length
  · have e : ((((a.length : Nat) : Int)) != (b.length : Int)) = false := by rw [h]; simp
    simp only [e, cond_false]
    obtain ⟨c, c1, c2⟩ := sameAll_loop a b t u h hm ha st big 0 (by omega) (lt_big (by omega))
    exact ⟨c, by simpa using c1, by simpa using c2⟩
  · have e : ((((a.length : Nat) : Int)) != (b.length : Int)) = true := by simp; omega
    simp only [e, cond_true, er1_bool]
    exact ⟨false, rfl, by simp; exact fun g => h (by rw [g])⟩
end Go.Ab
