import Derived.Test.YtjdgaphjjhhjeaaAbX04a
/- The reference's body, Pack and Check of notes of so much bulk; sinewlaw03.WirePacks. -/
namespace Go.Ab
open Go.Proofs Go.RowKit Go.Oct
set_option linter.unusedVariables false
set_option linter.unusedSimpArgs false
def totS (l : List (List UInt8)) : Nat := (l.map List.length).sum
theorem totS_cons (s : List UInt8) (l : List (List UInt8)) : totS (s :: l) = s.length + totS l := by simp [totS]
theorem totS_snoc (l : List (List UInt8)) (s : List UInt8) : totS (l ++ [s]) = totS l + s.length := by simp [totS]
theorem totS_le : ∀ {l : List (List UInt8)}, (∀ s ∈ l, s.length ≤ 65536) → totS l ≤ l.length * 65536
  | [], _ => by simp [totS]
  | s :: l, h => by
    have h1 := h s (by simp)
    have h2 := totS_le (l := l) fun x hx => h x (List.mem_cons_of_mem _ hx)
    rw [totS_cons, List.length_cons]; omega
theorem size_loop (l : List (List UInt8)) (u : Nat) (hm : l.length ≤ 4096) (hs : ∀ s ∈ l, s.length ≤ 65536) (st : St) : ∀ (f i : Nat), i ≤ l.length → l.length < f + i →
    g67b11010 f (.lst (strsV l) u) (.int .i64 (totS (l.take i) : Nat)) (.int .i64 (i : Nat)) st = some (.ret (.int .i64 (totS l : Nat)), st) := by
  intro f
  induction f with
  | zero => intro i hi hf; omega
  | succ f ih =>
    intro i hi hf
    unfold g67b11010
    by_cases h : i < l.length
    · have hx := hs _ (List.getElem_mem h)
      have ht := totS_le (l := l.take i) fun s q => hs s (List.mem_of_mem_take q)
      rw [List.length_take, Nat.min_eq_left (by omega)] at ht
      have e4 : ∀ K, A.bin .add (.int .i64 (i : Nat)) (.int .i64 1) K = K (.int .i64 ((i + 1 : Nat) : Int)) := fun K => bin_inc (by omega) K
      have e5 : ∀ K, A.bin .add (.int .i64 (totS (l.take i) : Nat)) (.int .i64 (l[i].length : Nat)) K = K (.int .i64 ((totS (l.take i) + l[i].length : Nat) : Int)) := fun K => bin_addN _ _ K (by omega)
      simp only [lenL_lst, strsV_len, bin_lss, show ((i : Int) < (l.length : Int)) from by omega, decide_true, cond_true, iaddr_strs u h, load_l1', lenS_str, e5, e4]
      rw [← totS_snoc, ← List.take_succ_eq_append_getElem h]
      exact ih (i + 1) (by omega) (by omega)
    · have : i = l.length := by omega
      subst this
      rw [List.take_length]
      simp only [lenL_lst, strsV_len, bin_lss, Int.lt_irrefl, decide_false, cond_false, er1_int]
theorem size_s (l : List (List UInt8)) (u : Nat) (hm : l.length ≤ 4096) (hs : ∀ s ∈ l, s.length ≤ 65536) (st : St) : s67 [.lst (strsV l) u] st = some (.ret (.int .i64 (totS l : Nat)), st) := by
  rw [s67_eq]
  unfold f67
  have := size_loop l u hm hs st big 0 (by omega) (by have := big_le; omega)
  simpa [totS] using this
/-- What fits says, of notes of so much bulk. -/
structure Fit (n : Note) : Prop where
  kind : 1 ≤ n.kind ∧ n.kind ≤ 255
  nums : n.nums.length ≤ 64
  rows : n.rows.length ≤ 4096
  odd : ∀ x ∈ n.nums, 0 ≤ x ∧ x ≤ 4611686018427387903
  texts : ∀ s ∈ n.texts, s.length ≤ 65536
  row : ∀ r ∈ n.rows, ∀ s ∈ r, s.length ≤ 65536
  all : n.texts.length + lens n.rows ≤ 4096
theorem longT_iff {l : List (List UInt8)} (h : l.any longT = false) : ∀ s ∈ l, s.length ≤ 65536 := fun s hs => by
  have := List.any_eq_false.1 h s hs
  simp only [longT, decide_eq_true_eq] at this; omega
theorem fit_of {n : Note} (hu : Upto n) (hf : fitsW n = true) : Fit n := by
  unfold fitsW at hf
  simp only [Bool.and_eq_true, Bool.not_eq_true', decide_eq_false_iff_not, Int.not_lt, Nat.not_lt, decide_eq_true_eq] at hf
  obtain ⟨k1, k2, k3, k4, k5, k6, k7, k8⟩ := hf
  unfold Upto at hu
  rw [manyF_eq _ _ (by omega)] at k8
  refine ⟨⟨k1, k2⟩, k3, k4, fun x hx => ?_, longT_iff k7, fun r hr => ?_, by omega⟩
  · have := List.any_eq_false.1 k5 x hx
    simp only [oddN, Bool.or_eq_true, decide_eq_true_eq, not_or, Int.not_lt] at this
    exact this
  · simp only [greatF, Bool.false_or] at k6
    have := List.any_eq_false.1 k6 r hr
    exact longT_iff (by simpa using this)
theorem listB_put {l : List (List UInt8)} (hm : l.length ≤ 4096) (hs : ∀ s ∈ l, s.length ≤ 65536) : listB l = Oct.putL l := by
  unfold listB
  rw [if_neg (by omega), if_pos (List.all_eq_true.2 fun s h => by simpa using hs s h)]
theorem listB_len2 {l : List (List UInt8)} (hs : ∀ s ∈ l, s.length ≤ 65536) : (listB l).length ≤ 9 + l.length * 65545 := by
  unfold listB
  split
  · simp
  · split
    · unfold Oct.putL
      have := putN_len9 l.length
      have := catS_len hs
      rw [List.length_append]; omega
    · simp
theorem catS_tot : ∀ l : List (List UInt8), totS l ≤ (catS l).length
  | [] => by simp [totS]
  | s :: l => by
    have := catS_tot l
    rw [totS_cons]
    simp only [catS, putS, List.length_append]; omega
theorem listB_tot {l : List (List UInt8)} (hm : l.length ≤ 4096) (hs : ∀ s ∈ l, s.length ≤ 65536) : totS l ≤ (listB l).length := by
  rw [listB_put hm hs]
  unfold Oct.putL
  have := catS_tot l
  rw [List.length_append]; omega
def totR (r : List (List (List UInt8))) : Nat := (r.map totS).sum
theorem totR_cons (l : List (List UInt8)) (r : List (List (List UInt8))) : totR (l :: r) = totS l + totR r := by simp [totR]
theorem totR_snoc (r : List (List (List UInt8))) (l : List (List UInt8)) : totR (r ++ [l]) = totR r + totS l := by simp [totR]
theorem totR_le : ∀ {r : List (List (List UInt8))}, (∀ l ∈ r, ∀ s ∈ l, s.length ≤ 65536) → totR r ≤ lens r * 65536
  | [], _ => by simp [totR]
  | l :: r, h => by
    have h1 := totS_le (h l (by simp))
    have h2 := totR_le (r := r) fun x hx => h x (List.mem_cons_of_mem _ hx)
    rw [totR_cons, lens_cons]; omega
theorem rowsB_tot : ∀ {r : List (List (List UInt8))}, lens r ≤ 4096 → (∀ l ∈ r, ∀ s ∈ l, s.length ≤ 65536) → totR r ≤ (rowsB r).length
  | [], _, _ => by simp [totR]
  | l :: r, hl, h => by
    rw [lens_cons] at hl
    have h1 := listB_tot (l := l) (by omega) (h l (by simp))
    have h2 := rowsB_tot (r := r) (by omega) fun x hx => h x (List.mem_cons_of_mem _ hx)
    rw [totR_cons]
    simp only [rowsB, List.flatMap_cons, List.length_append] at h2 ⊢; omega
theorem rowsB_len2 : ∀ {r : List (List (List UInt8))}, (∀ l ∈ r, ∀ s ∈ l, s.length ≤ 65536) → (rowsB r).length ≤ r.length * 9 + lens r * 65545
  | [], _ => by simp [rowsB]
  | l :: r, h => by
    have h1 := listB_len2 (h l (by simp))
    have h2 := rowsB_len2 (r := r) fun x hx => h x (List.mem_cons_of_mem _ hx)
    rw [lens_cons]
    simp only [rowsB, List.flatMap_cons, List.length_append, List.length_cons] at h2 ⊢; omega
theorem body_len {n : Note} (h : Fit n) : (bodyB n).length ≤ 270000000 := by
  have a1 := putN_len9 n.kind.toNat
  have a2 := putN_len9 n.nums.length
  have a3 := putN_len9 n.rows.length
  have a4 := numsB_len n.nums
  have a5 := listB_len2 h.texts
  have a6 := rowsB_len2 h.row
  have := h.nums
  have := h.rows
  have := h.all
  unfold bodyB headB
  simp only [List.length_append]
  omega
theorem body_tot {n : Note} (h : Fit n) : totS n.texts + totR n.rows ≤ (bodyB n).length := by
  have := h.all
  have a5 := listB_tot (show n.texts.length ≤ 4096 by omega) h.texts
  have a6 := rowsB_tot (show lens n.rows ≤ 4096 by omega) h.row
  unfold bodyB headB
  simp only [List.length_append]
  omega
theorem rowsB_take (r : List (List (List UInt8))) (i : Nat) : (rowsB (r.take i)).length ≤ (rowsB r).length := by
  have : rowsB r = rowsB (r.take i) ++ rowsB (r.drop i) := by
    unfold rowsB
    rw [← List.flatMap_append, List.take_append_drop]
  rw [this, List.length_append]; omega
/-- Where a note lies while its bytes are laid. -/
structure RB (st0 st : St) (p : Nat) (n : Note) (t : Nat) : Prop where
  ks : Ks st0 st
  ob : st.ob p = some (.cells (noteC n))
  own : Own st0 st 1 t
theorem RB.app {st0 st : St} {p : Nat} {n : Note} {t : Nat} (h : RB st0 st p n t) : RB st0 (appSt st t 1) p n (st.nt + 3) := by
  obtain ⟨k, o⟩ := h.own.app h.ks
  exact ⟨k, by rw [appSt_ob]; exact h.ob, o⟩
theorem rb_add {st0 st : St} {p : Nat} {n : Note} {t : Nat} (h : RB st0 st p n t) (s x : List UInt8) (hl : s.length + x.length ≤ 1073741824) (K : V → St → Res) :
    A.appB 1 (.lst (bytV s) t) (elemsOf 3 1 (.str x) st) st K = K (.lst (bytV (s ++ x)) (st.nt + 3)) (appSt st t 1) := by
  simp only [elemsOf_str, appB_lst]
  rw [app_own _ h.own (by simp only [bytV_len]; omega) (szok_bytV _), ← bytV_append]
def RBOut (st0 : St) (x : Res) (n : Note) : Prop := ∃ st', x = some (.ret (.tup [.str (bodyB n), .bool (decide ((bodyB n).length ≤ 1048576))]), st') ∧ Ks st0 st'
theorem putLR_any {l : List (List UInt8)} (hm : l.length ≤ 4096) (hs : ∀ s ∈ l, s.length ≤ 65536) (u : Nat) (st : St) : s69 [.lst (strsV l) u] st = some (.ret (P2 (listB l) 0), st) := by
  rw [rputlist_s l u hm, putLR, if_pos (List.all_eq_true.2 fun s h => by simpa using hs s h), listB_put hm hs]
theorem rb_rows {st0 : St} {p : Nat} {n : Note} (hn : Fit n) : ∀ (f i : Nat) (t : Nat) (st : St), i ≤ n.rows.length → n.rows.length < f + i → RB st0 st p n t →
    RBOut st0 (g53b1111111111111010 f (.ptr p 0) (.lst (bytV (headB n ++ rowsB (n.rows.take i))) t) (.int .i64 (i : Nat)) st) n := by
  have hb := body_len hn
  have h4 := hn.rows
  intro f
  induction f with
  | zero => intro i t st hi hf; omega
  | succ f ih =>
    intro i t st hi hf h
    have l3 : ∀ K, A.load false 1 (.ptr p 3) st K = K (.lst (rowsV n.rows) 0) st := fun K => by simp [h.ob, noteC]
    unfold g53b1111111111111010
    by_cases hlt : i < n.rows.length
    · have e4 : ∀ K, A.bin .add (.int .i64 (i : Nat)) (.int .i64 1) K = K (.int .i64 ((i + 1 : Nat) : Int)) := fun K => bin_inc (by omega) K
      have hr : n.rows[i].length ≤ 4096 := by have := lens_mem (List.getElem_mem hlt); have := hn.all; omega
      have hsn : rowsB (n.rows.take (i + 1)) = rowsB (n.rows.take i) ++ listB n.rows[i] := by
        rw [List.take_succ_eq_append_getElem hlt, rowsB_snoc]
      have hle := rowsB_take n.rows (i + 1)
      rw [hsn, List.length_append] at hle
      have hb' := hb
      unfold bodyB at hb'
      rw [List.length_append] at hb'
      simp only [faddr_ptr, Nat.zero_add, l3, lenL_lst, rowsV_len, bin_lss, show ((i : Int) < (n.rows.length : Int)) from by omega, decide_true, cond_true, iaddr_rows 0 hlt, load_l1', er1_lst, putLR_any hr (hn.row _ (List.getElem_mem hlt)), ret_ret, P2, ext_0, ext_1]
      rw [rb_add h _ _ (by rw [List.length_append]; omega)]
      simp only [e4]
      rw [List.append_assoc, ← hsn]
      exact ih (i + 1) _ _ (by omega) (by omega) h.app
    · have : i = n.rows.length := by omega
      subst this
      rw [List.take_length]
      have hbb : headB n ++ rowsB n.rows = bodyB n := rfl
      rw [hbb]
      have el : decide (((bodyB n).length : Int) ≤ 1048576) = decide ((bodyB n).length ≤ 1048576) := by apply decide_eq_decide.2; omega
      simp only [faddr_ptr, Nat.zero_add, l3, lenL_lst, rowsV_len, bin_lss, Int.lt_irrefl, decide_false, cond_false, toStr_bytV, bytV_len, bin_leq, er1_str, er1_bool, el]
      exact ⟨st, rfl, h.ks⟩
theorem rb_texts {st0 : St} {p : Nat} {n : Note} (hn : Fit n) (t : Nat) (st : St) (h : RB st0 st p n t) :
    RBOut st0 (g53b111111111 (.ptr p 0) (.lst (bytV (putN n.kind.toNat ++ putN n.nums.length ++ numsB n.nums)) t) st) n := by
  have hb := body_len hn
  unfold bodyB headB at hb
  simp only [List.length_append] at hb
  have l2 : ∀ K, A.load false 1 (.ptr p 2) st K = K (.lst (strsV n.texts) 0) st := fun K => by simp [h.ob, noteC]
  have h2 := h.app
  have l3 : ∀ K, A.load false 1 (.ptr p 3) (appSt st t 1) K = K (.lst (rowsV n.rows) 0) (appSt st t 1) := fun K => by simp [h2.ob, noteC]
  unfold g53b111111111
  have ht : n.texts.length ≤ 4096 := by have := hn.all; omega
  have hr := hn.rows
  simp only [faddr_ptr, Nat.zero_add, l2, er1_lst, putLR_any ht hn.texts, ret_ret, P2, ext_0, ext_1]
  rw [rb_add h _ _ (by simp only [List.length_append]; omega)]
  unfold g53b11111111111
  simp only [faddr_ptr, Nat.zero_add, l3, lenL_lst, rowsV_len, er1_int, rputnum_s n.rows.length (by omega), ret_ret, P2, ext_0, ext_1]
  rw [rb_add h2 _ _ (by simp only [List.length_append]; omega)]
  unfold g53b1111111111111
  have := rb_rows hn big 0 _ _ (by omega) (lt_big (by omega)) h2.app
  simpa [headB, rowsB] using this
theorem rb_nums {st0 : St} {p : Nat} {n : Note} (hn : Fit n) (u : Nat) : ∀ (f i : Nat) (t : Nat) (st : St), i ≤ n.nums.length + 2 → n.nums.length + 2 < f + i → RB st0 st p n t →
    RBOut st0 (g53b11111111010 f (.ptr p 0) (.lst (bytV (numsB ((n.kind :: (n.nums.length : Int) :: n.nums).take i))) t) (.lst (intsV (n.kind :: (n.nums.length : Int) :: n.nums)) u) (.int .i64 (i : Nat)) st) n := by
  have hk := hn.kind
  have hnl := hn.nums
  have hall : ∀ x ∈ (n.kind :: (n.nums.length : Int) :: n.nums), 0 ≤ x ∧ x ≤ 4611686018427387903 := by
    intro x hx
    rcases List.mem_cons.1 hx with rfl | hx
    · omega
    · rcases List.mem_cons.1 hx with rfl | hx
      · omega
      · exact hn.odd x hx
  have hll : (n.kind :: (n.nums.length : Int) :: n.nums).length = n.nums.length + 2 := rfl
  have hfin : numsB (n.kind :: (n.nums.length : Int) :: n.nums) = putN n.kind.toNat ++ putN n.nums.length ++ numsB n.nums := by
    simp [numsB]
  generalize n.kind :: (n.nums.length : Int) :: n.nums = L at hall hll hfin
  intro f
  induction f with
  | zero => intro i t st hi hf; omega
  | succ f ih =>
    intro i t st hi hf h
    unfold g53b11111111010
    by_cases hlt : i < L.length
    · have e4 : ∀ K, A.bin .add (.int .i64 (i : Nat)) (.int .i64 1) K = K (.int .i64 ((i + 1 : Nat) : Int)) := fun K => bin_inc (by omega) K
      obtain ⟨hx1, hx2⟩ := hall _ (List.getElem_mem hlt)
      have e5 : V.int .i64 L[i] = .int .i64 ((L[i].toNat : Nat) : Int) := by rw [Int.toNat_of_nonneg hx1]
      have hl := numsB_len (L.take i)
      have hp := putN_len9 L[i].toNat
      rw [List.length_take] at hl
      simp only [lenL_lst, intsV_len, bin_lss, show ((i : Int) < (L.length : Int)) from by omega, decide_true, cond_true, iaddr_ints u hlt, load_l1']
      rw [e5]
      simp only [er1_int, rputnum_s L[i].toNat (by omega), ret_ret, P2, ext_0, ext_1]
      rw [rb_add h _ _ (by omega)]
      simp only [e4]
      rw [← numsB_snoc, ← List.take_succ_eq_append_getElem hlt]
      exact ih (i + 1) _ _ (by omega) (by omega) h.app
    · have : i = L.length := by omega
      subst this
      rw [List.take_length, hfin]
      simp only [lenL_lst, intsV_len, bin_lss, Int.lt_irrefl, decide_false, cond_false]
      exact rb_texts hn t st h
theorem rb_head {st0 st : St} {p : Nat} {n : Note} (hn : Fit n) (h : st.ob p = some (.cells (noteC n))) (hk : Ks st0 st) (k : Nat) (hkb : k ≤ 1048576) :
    RBOut st0 (g53b1111 (.ptr p 0) (.int .i64 (k : Nat)) st) n := by
  have l0 : ∀ K, A.load false 1 (.ptr p 0) st K = K (.int .i64 n.kind) st := fun K => by simp [h, noteC]
  have l1 : ∀ K, A.load false 1 (.ptr p 1) st K = K (.lst (intsV n.nums) 0) st := fun K => by simp [h, noteC]
  have hnl := hn.nums
  unfold g53b1111
  simp only [bin_gtr, show ¬ ((1048576 : Int) < (k : Int)) from by omega, decide_false, cond_false, faddr_ptr, Nat.zero_add, l0, l1, lenL_lst, intsV_len, bslice_int2]
  unfold g53b1111111
  simp only [faddr_ptr, Nat.zero_add, l1, elemsOf_ints]
  rw [app_own (st0 := st0) _ (.full _ _ _) (by simp; omega) (szok_ints _), ← intsV_app]
  have h2 : RB st0 (appSt st 2 1) p n 1 := ⟨((Own.full st0 st 1).app hk).1, by rw [appSt_ob]; exact h, .nil _ _ _⟩
  have := rb_nums hn (st.nt + 3) big 0 1 _ (by omega) (lt_big (by omega)) h2
  simpa [numsB, bytV] using this
theorem rb_sizes {st : St} {p : Nat} {n : Note} (hn : Fit n) (h : st.ob p = some (.cells (noteC n))) : ∀ (f i : Nat), i ≤ n.rows.length → n.rows.length < f + i →
    g53b111010 f (.ptr p 0) (.int .i64 (totS n.texts + totR (n.rows.take i) : Nat)) (.int .i64 (i : Nat)) st = g53b1111 (.ptr p 0) (.int .i64 (totS n.texts + totR n.rows : Nat)) st := by
  have l3 : ∀ K, A.load false 1 (.ptr p 3) st K = K (.lst (rowsV n.rows) 0) st := fun K => by simp [h, noteC]
  have ha := hn.all
  have hr := hn.rows
  have ht := totS_le hn.texts
  intro f
  induction f with
  | zero => intro i hi hf; omega
  | succ f ih =>
    intro i hi hf
    unfold g53b111010
    by_cases hlt : i < n.rows.length
    · have e4 : ∀ K, A.bin .add (.int .i64 (i : Nat)) (.int .i64 1) K = K (.int .i64 ((i + 1 : Nat) : Int)) := fun K => bin_inc (by omega) K
      have hl := lens_mem (List.getElem_mem hlt)
      have hsn : totR (n.rows.take (i + 1)) = totR (n.rows.take i) + totS n.rows[i] := by rw [List.take_succ_eq_append_getElem hlt, totR_snoc]
      have hle : totR (n.rows.take (i + 1)) ≤ totR n.rows := by
        have : totR n.rows = totR (n.rows.take (i + 1)) + totR (n.rows.drop (i + 1)) := by
          unfold totR
          rw [← List.sum_append, ← List.map_append, List.take_append_drop]
        omega
      have hR := totR_le hn.row
      have e5 : ∀ K, A.bin .add (.int .i64 (totS n.texts + totR (n.rows.take i) : Nat)) (.int .i64 (totS n.rows[i] : Nat)) K = K (.int .i64 ((totS n.texts + totR (n.rows.take (i + 1)) : Nat) : Int)) := fun K => by
        rw [bin_addN _ _ K (by omega), hsn, Nat.add_assoc]
      simp only [faddr_ptr, Nat.zero_add, l3, lenL_lst, rowsV_len, bin_lss, show ((i : Int) < (n.rows.length : Int)) from by omega, decide_true, cond_true, iaddr_rows 0 hlt, load_l1', er1_lst, size_s _ 0 (show n.rows[i].length ≤ 4096 by omega) (hn.row _ (List.getElem_mem hlt)), ret_ret, e5, e4]
      exact ih (i + 1) (by omega) (by omega)
    · have : i = n.rows.length := by omega
      subst this
      rw [List.take_length]
      simp only [faddr_ptr, Nat.zero_add, l3, lenL_lst, rowsV_len, bin_lss, Int.lt_irrefl, decide_false, cond_false]
theorem rbody_s (n : Note) (hn : NoteOK n) (hu : Upto n) (st : St) : ∃ X : List UInt8, s53 [noteV n] st = some (.ret (.tup [.str X, .bool (packOK n)]), st) ∧ (packOK n = true → X = bodyB n) := by
  have key : ∃ (X : List UInt8) (st' : St), f53 (noteV n) st = some (.ret (.tup [.str X, .bool (packOK n)]), st') ∧ Ks st st' ∧ (packOK n = true → X = bodyB n) := by
    unfold f53
    have bx : ∀ K, A.box (noteV n) st K = K (.ptr st.n 0) (st.new (.cells (noteC n))) := fun K => rfl
    have ho := new_at st (.cells (noteC n))
    have hnv : (V.agg (noteC n)).er1 = noteV n := rfl
    have hk := (Ks.refl st).new (.cells (noteC n))
    generalize hst : st.new (.cells (noteC n)) = st1 at bx ho hk
    generalize st.n = p at bx ho
    simp only [bx, load_noteb ho, hnv, shaped_s n hn, ret_ret, un_not]
    have hfs := fits_shaped n (by unfold Upto at hu; omega)
    rw [← hfs]
    cases hf : fitsW n with
    | false =>
      have hp : packOK n = false := by unfold packOK; rw [hf]; rfl
      simp only [Bool.not_false, cond_true, er1_str, er1_bool, hp]
      exact ⟨[], st1, rfl, hk, fun h => by cases h⟩
    | true =>
      have hfit := fit_of hu hf
      have l2 : ∀ K, A.load false 1 (.ptr p 2) st1 K = K (.lst (strsV n.texts) 0) st1 := fun K => by simp [ho, noteC]
      have ht : n.texts.length ≤ 4096 := by have := hfit.all; omega
      simp only [Bool.not_true, cond_false, faddr_ptr, Nat.zero_add, l2, er1_lst, size_s _ 0 ht hfit.texts, ret_ret]
      unfold g53b111
      have hs := rb_sizes hfit ho big 0 (by omega) (lt_big (by have := hfit.rows; omega))
      rw [List.take_zero, show totR [] = 0 from rfl, Nat.add_zero, show ((0 : Nat) : Int) = 0 from rfl] at hs
      rw [hs]
      have hp : packOK n = decide ((bodyB n).length ≤ 1048576) := by unfold packOK; rw [hf]; rfl
      by_cases hk2 : totS n.texts + totR n.rows ≤ 1048576
      · obtain ⟨st', g1, g2⟩ := rb_head (st0 := st) hfit ho hk _ hk2
        exact ⟨bodyB n, st', by rw [g1, hp], g2, fun _ => rfl⟩
      · have hbt := body_tot hfit
        have hp' : packOK n = false := by rw [hp]; exact decide_eq_false (by omega)
        unfold g53b1111
        simp only [bin_gtr, show ((1048576 : Int) < ((totS n.texts + totR n.rows : Nat) : Int)) from by omega, decide_true, cond_true, er1_str, er1_bool, hp']
        exact ⟨[], st1, rfl, hk, fun h => by cases h⟩
  obtain ⟨X, st', h1, h2, h3⟩ := key
  refine ⟨X, ?_, h3⟩
  rw [s53_eq]
  exact fg_of h1 h2 rfl
theorem rpack_s (n : Note) (hn : NoteOK n) (hu : Upto n) (st : St) : s39 [noteV n] st = some (.ret (if packOK n = true then P2 (packB n) 0 else P2 [] 1), st) := by
  have key : f39 (noteV n) st = some (.ret (if packOK n = true then P2 (packB n) 0 else P2 [] 1), st.new (.cells (noteC n))) := by
    unfold f39
    have bx : ∀ K, A.box (noteV n) st K = K (.ptr st.n 0) (st.new (.cells (noteC n))) := fun K => rfl
    have lo : ∀ K, A.load true 4 (.ptr st.n 0) (st.new (.cells (noteC n))) K = K (.agg (noteC n)) (st.new (.cells (noteC n))) := fun K => load_noteb (new_at _ _) K
    have hnv : (V.agg (noteC n)).er1 = noteV n := rfl
    obtain ⟨X, h1, h2⟩ := rbody_s n hn hu (st.new (.cells (noteC n)))
    simp only [bx, lo, hnv, h1, ret_ret, ext_0, ext_1, un_not]
    cases hp : packOK n with
    | false => simp only [Bool.not_false, cond_true, er1_str, er1_int, Bool.false_eq_true, if_false]; rfl
    | true =>
      have hX := h2 hp
      subst hX
      have hl : (bodyB n).length ≤ 1048576 := by
        simp only [packOK, Bool.and_eq_true, decide_eq_true_eq] at hp; exact hp.2
      simp only [Bool.not_true, cond_false]
      unfold g39b111
      simp only [lenS_str, er1_int, rfour_s, ret_ret, er1_str, rsum_s _ (show (bodyB n).length ≤ 9223372036854775807 by omega)]
      rw [bin_cat _ _ _ (by rw [four_len, four_len]; omega)]
      rw [bin_cat _ _ _ (by rw [List.length_append, four_len, four_len]; omega)]
      rfl
  have e : (if packOK n = true then P2 (packB n) 0 else P2 [] 1).era = (if packOK n = true then P2 (packB n) 0 else P2 [] 1) ∧ (if packOK n = true then P2 (packB n) 0 else P2 [] 1).era.pu = true := by
    split <;> exact ⟨rfl, rfl⟩
  rw [s39_eq]
  have := fg_of key ((Ks.refl st).new _) e.2
  rw [e.1] at this
  exact this
theorem rcheck_s (n : Note) (hn : NoteOK n) (hu : Upto n) (st : St) : s40 [noteV n] st = some (.ret (.int .i64 (if packOK n = true then 0 else 1)), st) := by
  rw [s40_eq]
  refine fg_of (st' := st.new (.cells (noteC n))) (v := .int .i64 (if packOK n = true then 0 else 1)) ?_ ((Ks.refl st).new _) rfl
  unfold f40
  have bx : ∀ K, A.box (noteV n) st K = K (.ptr st.n 0) (st.new (.cells (noteC n))) := fun K => rfl
  have lo : ∀ K, A.load true 4 (.ptr st.n 0) (st.new (.cells (noteC n))) K = K (.agg (noteC n)) (st.new (.cells (noteC n))) := fun K => load_noteb (new_at _ _) K
  have hnv : (V.agg (noteC n)).er1 = noteV n := rfl
  obtain ⟨X, h1, h2⟩ := rbody_s n hn hu (st.new (.cells (noteC n)))
  simp only [bx, lo, hnv, h1, ret_ret, ext_0, ext_1, un_not]
  cases packOK n <;> simp
end Go.Ab
