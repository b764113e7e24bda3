import Derived.Test.YtimicmlpaaohoaaAbX15d
import Derived.Test.YtimicmlpaaohoaaAbX15b
/- Light notes are of few bytes. -/
namespace Go.Ab
open Go.Proofs Go.RowKit Go.Oct
set_option linter.unusedVariables false
set_option linter.unusedSimpArgs false
set_option maxRecDepth 100000
def lightT (l : List (List UInt8)) : Nat := (l.map fun s => min s.length 4096).sum
theorem lightT_snoc (l : List (List UInt8)) (s : List UInt8) : lightT (l ++ [s]) = lightT l + min s.length 4096 := by simp [lightT]
theorem lightT_cons (s : List UInt8) (l : List (List UInt8)) : lightT (s :: l) = min s.length 4096 + lightT l := by simp [lightT]
theorem lightT_le : ∀ l : List (List UInt8), lightT l ≤ l.length * 4096
  | [] => by simp [lightT]
  | s :: l => by have := lightT_le l; rw [lightT_cons, List.length_cons]; omega
def lightR (r : List (List (List UInt8))) : Nat := (r.map lightT).sum
theorem lightR_snoc (r : List (List (List UInt8))) (l : List (List UInt8)) : lightR (r ++ [l]) = lightR r + lightT l := by simp [lightR]
theorem lightR_cons (l : List (List UInt8)) (r : List (List (List UInt8))) : lightR (l :: r) = lightT l + lightR r := by simp [lightR]
theorem lightR_le : ∀ r : List (List (List UInt8)), lightR r ≤ lens r * 4096
  | [] => by simp [lightR]
  | l :: r => by have := lightR_le r; have := lightT_le l; rw [lightR_cons, lens_cons]; omega
def lightN (n : Note) : Nat := lightT n.texts + lightR n.rows
theorem min_nat (x : Nat) (K : V → Res) : A.min (.int .i64 (x : Nat)) (.int .i64 4096) K = K (.int .i64 ((min x 4096 : Nat) : Int)) := by
  show K (.int .i64 (if (4096 : Int) < (x : Int) then 4096 else (x : Int))) = _
  congr 2
  split <;> omega
theorem lens_snoc (r : List (List (List UInt8))) (l : List (List UInt8)) : lens (r ++ [l]) = lens r + l.length := by simp [lens]
theorem lens_take (r : List (List (List UInt8))) (i : Nat) : lens (r.take i) ≤ lens r := by
  have : lens r = lens (r.take i) + lens (r.drop i) := by
    unfold lens
    rw [← List.sum_append, ← List.map_append, List.take_append_drop]
  omega
theorem lx_texts (n : Note) (hu : Upto n) (p : Nat) (st : St) (ho : st.ob p = some (.cells (noteC n))) : ∀ (f i : Nat), i ≤ n.texts.length → n.texts.length < f + i → g12b11010 f (.ptr p 0) (.int .i64 (lightT (n.texts.take i) : Nat)) (.int .i64 (i : Nat)) st = g12b111 (.ptr p 0) (.int .i64 (lightT n.texts : Nat)) st := by
  have l2 : ∀ K, A.load false 1 (.ptr p 2) st K = K (.lst (strsV n.texts) 0) st := fun K => by simp [ho, noteC]
  unfold Upto at hu
  intro f
  induction f with
  | zero => intro i hi hf; omega
  | succ f ih =>
    intro i hi hf
    unfold g12b11010
    by_cases h : i < n.texts.length
    · have e4 : ∀ K, A.bin .add (.int .i64 (i : Nat)) (.int .i64 1) K = K (.int .i64 ((i + 1 : Nat) : Int)) := fun K => bin_inc (by omega) K
      have hle := lightT_le (n.texts.take i)
      rw [List.length_take] at hle
      have e3 : ∀ K, A.bin .add (.int .i64 (lightT (n.texts.take i) : Nat)) (.int .i64 ((min n.texts[i].length 4096 : Nat) : Int)) K = K (.int .i64 ((lightT (n.texts.take (i + 1)) : Nat) : Int)) := fun K => by
        rw [bin_addN _ _ K (by omega), List.take_succ_eq_append_getElem h, lightT_snoc]
      simp only [faddr_ptr, Nat.zero_add, l2, lenL_lst, strsV_len, bin_lss, show ((i : Int) < (n.texts.length : Int)) from by omega, decide_true, cond_true, iaddr_strs 0 h, load_l1', lenS_str, min_nat, e3, e4]
      exact ih (i + 1) (by omega) (by omega)
    · have : i = n.texts.length := by omega
      subst this
      rw [List.take_length]
      simp only [faddr_ptr, Nat.zero_add, l2, lenL_lst, strsV_len, bin_lss, Int.lt_irrefl, decide_false, cond_false]
theorem lx_row (n : Note) (hu : Upto n) (p : Nat) (st : St) (ho : st.ob p = some (.cells (noteC n))) (L : V → V → V → St → Res) (i : Nat) (hi : i < n.rows.length) (hrl : n.rows.length ≤ 9223372036854775807) (k : Nat) (hk : k ≤ 8589934592) : ∀ (f j : Nat), j ≤ n.rows[i].length → n.rows[i].length < f + j →
    g12bz61e L f (.ptr p 0) (.int .i64 (k + lightT (n.rows[i].take j) : Nat)) (.int .i64 (i : Nat)) (.int .i64 (j : Nat)) st = L (.ptr p 0) (.int .i64 (k + lightT n.rows[i] : Nat)) (.int .i64 ((i + 1 : Nat) : Int)) st := by
  have l3 : ∀ K, A.load false 1 (.ptr p 3) st K = K (.lst (rowsV n.rows) 0) st := fun K => by simp [ho, noteC]
  have hr := lens_mem (List.getElem_mem hi)
  unfold Upto at hu
  intro f
  induction f with
  | zero => intro j hj hf; omega
  | succ f ih =>
    intro j hj hf
    unfold g12bz61e
    by_cases h : j < n.rows[i].length
    · have e4 : ∀ K, A.bin .add (.int .i64 (j : Nat)) (.int .i64 1) K = K (.int .i64 ((j + 1 : Nat) : Int)) := fun K => bin_inc (by omega) K
      have hle := lightT_le (n.rows[i].take j)
      rw [List.length_take] at hle
      have e3 : ∀ K, A.bin .add (.int .i64 (k + lightT (n.rows[i].take j) : Nat)) (.int .i64 ((min n.rows[i][j].length 4096 : Nat) : Int)) K = K (.int .i64 ((k + lightT (n.rows[i].take (j + 1)) : Nat) : Int)) := fun K => by
        rw [bin_addN _ _ K (by omega), List.take_succ_eq_append_getElem h, lightT_snoc, Nat.add_assoc]
      simp only [faddr_ptr, Nat.zero_add, l3, iaddr_rows 0 hi, load_l1', lenL_lst, strsV_len, bin_lss, show ((j : Int) < (n.rows[i].length : Int)) from by omega, decide_true, cond_true, iaddr_strs 0 h, lenS_str, min_nat, e3, e4]
      exact ih (j + 1) (by omega) (by omega)
    · have : j = n.rows[i].length := by omega
      subst this
      have e4 : ∀ K, A.bin .add (.int .i64 (i : Nat)) (.int .i64 1) K = K (.int .i64 ((i + 1 : Nat) : Int)) := fun K => bin_inc (by omega) K
      rw [List.take_length]
      simp only [faddr_ptr, Nat.zero_add, l3, iaddr_rows 0 hi, load_l1', lenL_lst, strsV_len, bin_lss, Int.lt_irrefl, decide_false, cond_false, e4]
theorem lx_rows (n : Note) (hn : NoteOK n) (hu : Upto n) (p : Nat) (st : St) (ho : st.ob p = some (.cells (noteC n))) : ∀ (f i : Nat), i ≤ n.rows.length → n.rows.length < f + i → g12bz3e f (.ptr p 0) (.int .i64 (lightT n.texts + lightR (n.rows.take i) : Nat)) (.int .i64 (i : Nat)) st = some (.ret (.bool (decide (lightN n < 2048))), st) := by
  have l3 : ∀ K, A.load false 1 (.ptr p 3) st K = K (.lst (rowsV n.rows) 0) st := fun K => by simp [ho, noteC]
  intro f
  induction f with
  | zero => intro i hi hf; omega
  | succ f ih =>
    intro i hi hf
    unfold g12bz3e
    have hu' := hu
    unfold Upto at hu'
    have h1 := lightT_le n.texts
    have h2 := lightR_le (n.rows.take i)
    have h3 := lens_take n.rows i
    by_cases h : i < n.rows.length
    · simp only [faddr_ptr, Nat.zero_add, l3, lenL_lst, rowsV_len, bin_lss, show ((i : Int) < (n.rows.length : Int)) from by omega, decide_true, cond_true]
      have hq := lx_row n hu p st ho (g12bz3e f) i h (by have := hn.rows; omega) (lightT n.texts + lightR (n.rows.take i)) (by omega) big 0 (by omega) (lt_big (by have := hn.row _ (List.getElem_mem h); omega))
      rw [List.take_zero, show lightT [] = 0 from rfl, Nat.add_zero, show ((0 : Nat) : Int) = 0 from rfl] at hq
      rw [hq, Nat.add_assoc, ← lightR_snoc, ← List.take_succ_eq_append_getElem h]
      exact ih (i + 1) (by omega) (by omega)
    · have : i = n.rows.length := by omega
      subst this
      rw [List.take_length]
      have e : decide ((lightT n.texts + lightR n.rows : Nat) < (2048 : Int)) = decide (lightN n < 2048) := by
        apply decide_eq_decide.2; unfold lightN; omega
      simp only [faddr_ptr, Nat.zero_add, l3, lenL_lst, rowsV_len, bin_lss, Int.lt_irrefl, decide_false, cond_false, er1_bool, e]
theorem lx_s (n : Note) (hn : NoteOK n) (hu : Upto n) (st : St) : s12 [noteV n] st = some (.ret (.bool (decide (lightN n < 2048))), st) := by
  rw [s12_eq]
  have key : f12 (noteV n) st = some (.ret (.bool (decide (lightN n < 2048))), st.new (.cells (noteC n))) := by
    unfold f12
    have bx : ∀ K, A.box (noteV n) st K = K (.ptr st.n 0) (st.new (.cells (noteC n))) := fun K => rfl
    simp only [bx]
    have h2 := lx_texts n hu st.n _ (new_at st (.cells (noteC n))) big 0 (by omega) (lt_big (by have := hn.texts; omega))
    rw [List.take_zero, show lightT [] = 0 from rfl, show ((0 : Nat) : Int) = 0 from rfl] at h2
    rw [h2]
    unfold g12b111
    have := lx_rows n hn hu st.n _ (new_at st (.cells (noteC n))) big 0 (by omega) (lt_big (by have := hn.rows; omega))
    rwa [List.take_zero, show lightR [] = 0 from rfl, Nat.add_zero, show ((0 : Nat) : Int) = 0 from rfl] at this
  exact fg_of key ((Ks.refl st).new _) rfl
theorem light_tot : ∀ l : List (List UInt8), lightT l < 2048 → totS l = lightT l
  | [], _ => by simp [lightT, totS]
  | s :: l, h => by
    rw [lightT_cons] at h ⊢
    rw [totS_cons, light_tot l (by omega)]; omega
theorem light_totR : ∀ r : List (List (List UInt8)), lightR r < 2048 → totR r = lightR r
  | [], _ => by simp [lightR, totR]
  | l :: r, h => by
    rw [lightR_cons] at h ⊢
    rw [totR_cons, light_totR r (by omega), light_tot l (by omega)]
theorem catS_len3 : ∀ l : List (List UInt8), (catS l).length ≤ l.length * 9 + totS l
  | [] => by simp [catS]
  | s :: l => by
    have h1 := catS_len3 l
    have h2 := putN_len9 s.length
    rw [totS_cons]
    simp only [catS, putS, List.length_append, List.length_cons]; omega
theorem listB_len3 (l : List (List UInt8)) : (listB l).length ≤ 9 + l.length * 9 + totS l := by
  unfold listB
  split
  · simp
  · split
    · unfold Oct.putL
      have := putN_len9 l.length
      have := catS_len3 l
      rw [List.length_append]; omega
    · simp
theorem rowsB_len3 : ∀ r : List (List (List UInt8)), (rowsB r).length ≤ r.length * 9 + lens r * 9 + totR r
  | [] => by simp [rowsB]
  | l :: r => by
    have h1 := listB_len3 l
    have h2 := rowsB_len3 r
    rw [lens_cons, totR_cons]
    simp only [rowsB, List.flatMap_cons, List.length_append, List.length_cons] at h2 ⊢; omega
/-- A light note's bytes. -/
theorem light_pack {n : Note} (hf : Fit n) (h : lightN n < 2048) : (packB n).length ≤ 77000 := by
  unfold lightN at h
  have t1 := light_tot n.texts (by omega)
  have t2 := light_totR n.rows (by omega)
  have a1 := putN_len9 n.kind.toNat
  have a2 := putN_len9 n.nums.length
  have a3 := putN_len9 n.rows.length
  have a4 := numsB_len n.nums
  have a5 := listB_len3 n.texts
  have a6 := rowsB_len3 n.rows
  have := hf.nums
  have := hf.rows
  have := hf.all
  rw [packB_len]
  unfold bodyB headB
  simp only [List.length_append]
  omega
end Go.Ab
