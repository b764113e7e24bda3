import Derived.Test.YtimicmlpaaohoaaAbW15merged0
import Derived.Test.YtimicmlpaaohoaaAbIn2
import Derived.Test.YtimicmlpaaohoaaAbBulk
/- Light notes; notes as arguments; notes of so much bulk. (For renum.py: seats that stand on wire.) -/
namespace Go.Ab
open Go.Proofs Go.RowKit Go.Oct
set_option linter.unusedVariables false
set_option linter.unusedSimpArgs false
set_option maxRecDepth 100000
theorem min_int (x y : Int) (K : V → Res) : A.min (.int .i64 x) (.int .i64 y) K = K (.int .i64 (if y < x then y else x)) := rfl
theorem light_texts (n : Note) (hn : NoteOK n) (p : Nat) (st : St) (ho : st.ob p = some (.cells (noteC n))) : ∀ (f i : Nat) (k : Int), i ≤ n.texts.length → n.texts.length < f + i → ∃ k2 : Int, g12b11010 f (.ptr p 0) (.int .i64 k) (.int .i64 (i : Nat)) st = g12b111 (.ptr p 0) (.int .i64 k2) st := by
  have l2 : ∀ K, A.load false 1 (.ptr p 2) st K = K (.lst (strsV n.texts) 0) st := fun K => by simp [ho, noteC]
  intro f
  induction f with
  | zero => intro i k hi hf; omega
  | succ f ih =>
    intro i k hi hf
    unfold g12b11010
    by_cases h : i < n.texts.length
    · have e4 : ∀ K, A.bin .add (.int .i64 (i : Nat)) (.int .i64 1) K = K (.int .i64 ((i + 1 : Nat) : Int)) := fun K => bin_inc (by have := hn.texts; omega) K
      have e3 : ∀ (x : Int) K, A.bin .add (.int .i64 k) (.int .i64 x) K = K (.int .i64 (IntKind.i64.wrap (k + x))) := fun x K => bin_addW _ _ K
      simp only [faddr_ptr, Nat.zero_add, l2, lenL_lst, strsV_len, bin_lss, show ((i : Int) < (n.texts.length : Int)) from by omega, decide_true, cond_true, iaddr_strs 0 h, load_l1', lenS_str, min_int, e3]
      first
        | rw [e4]; exact ih (i + 1) _ (by omega) (by omega)
        | (simp only [e4]; exact ih (i + 1) _ (by omega) (by omega))
    · have : i = n.texts.length := by omega
      subst this
      simp only [faddr_ptr, Nat.zero_add, l2, lenL_lst, strsV_len, bin_lss, Int.lt_irrefl, decide_false, cond_false]
      exact ⟨k, rfl⟩
theorem light_row (n : Note) (hn : NoteOK n) (p : Nat) (st : St) (ho : st.ob p = some (.cells (noteC n))) (L : V → V → V → St → Res) (i : Nat) (hi : i < n.rows.length) : ∀ (f j : Nat) (k : Int), j ≤ n.rows[i].length → n.rows[i].length < f + j → ∃ k2 : Int, g12b111010010010 L f (.ptr p 0) (.int .i64 k) (.int .i64 (i : Nat)) (.int .i64 (j : Nat)) st = L (.ptr p 0) (.int .i64 k2) (.int .i64 ((i + 1 : Nat) : Int)) st := by
  have l3 : ∀ K, A.load false 1 (.ptr p 3) st K = K (.lst (rowsV n.rows) 0) st := fun K => by simp [ho, noteC]
  have hr := hn.row _ (List.getElem_mem hi)
  intro f
  induction f with
  | zero => intro j k hj hf; omega
  | succ f ih =>
    intro j k hj hf
    unfold g12b111010010010
    by_cases h : j < n.rows[i].length
    · have e4 : ∀ K, A.bin .add (.int .i64 (j : Nat)) (.int .i64 1) K = K (.int .i64 ((j + 1 : Nat) : Int)) := fun K => bin_inc (by omega) K
      have e3 : ∀ (x : Int) K, A.bin .add (.int .i64 k) (.int .i64 x) K = K (.int .i64 (IntKind.i64.wrap (k + x))) := fun x K => bin_addW _ _ K
      simp only [faddr_ptr, Nat.zero_add, l3, iaddr_rows 0 hi, load_l1', lenL_lst, strsV_len, bin_lss, show ((j : Int) < (n.rows[i].length : Int)) from by omega, decide_true, cond_true, iaddr_strs 0 h, lenS_str, min_int, e3, e4]
      exact ih (j + 1) _ (by omega) (by omega)
    · have : j = n.rows[i].length := by omega
      subst this
      have e4 : ∀ K, A.bin .add (.int .i64 (i : Nat)) (.int .i64 1) K = K (.int .i64 ((i + 1 : Nat) : Int)) := fun K => bin_inc (by have := hn.rows; omega) K
      simp only [faddr_ptr, Nat.zero_add, l3, iaddr_rows 0 hi, load_l1', lenL_lst, strsV_len, bin_lss, Int.lt_irrefl, decide_false, cond_false, e4]
      exact ⟨k, rfl⟩
theorem light_rows (n : Note) (hn : NoteOK n) (p : Nat) (st : St) (ho : st.ob p = some (.cells (noteC n))) : ∀ (f i : Nat) (k : Int), i ≤ n.rows.length → n.rows.length < f + i → ∃ c : Bool, g12b111010 f (.ptr p 0) (.int .i64 k) (.int .i64 (i : Nat)) st = some (.ret (.bool c), st) := by
  have l3 : ∀ K, A.load false 1 (.ptr p 3) st K = K (.lst (rowsV n.rows) 0) st := fun K => by simp [ho, noteC]
  intro f
  induction f with
  | zero => intro i k hi hf; omega
  | succ f ih =>
    intro i k hi hf
    unfold g12b111010
    by_cases h : i < n.rows.length
    · simp only [faddr_ptr, Nat.zero_add, l3, lenL_lst, rowsV_len, bin_lss, show ((i : Int) < (n.rows.length : Int)) from by omega, decide_true, cond_true]
      obtain ⟨k2, h2⟩ := light_row n hn p st ho (g12b111010 f) i h big 0 k (by omega) (lt_big (by have := hn.row _ (List.getElem_mem h); omega))
      rw [show ((0 : Nat) : Int) = 0 from rfl] at h2
      rw [h2]
      exact ih (i + 1) k2 (by omega) (by omega)
    · have : i = n.rows.length := by omega
      subst this
      simp only [faddr_ptr, Nat.zero_add, l3, lenL_lst, rowsV_len, bin_lss, Int.lt_irrefl, decide_false, cond_false, bin_leq, er1_bool]
      exact ⟨_, rfl⟩
theorem light_s (n : Note) (hn : NoteOK n) (st : St) : ∃ c : Bool, s12 [noteV n] st = some (.ret (.bool c), st) := by
  rw [s12_eq]
  have key : ∃ c : Bool, f12 (noteV n) st = some (.ret (.bool c), st.new (.cells (noteC n))) := by
    unfold f12
    have bx : ∀ K, A.box (noteV n) st K = K (.ptr st.n 0) (st.new (.cells (noteC n))) := fun K => rfl
    simp only [bx]
    obtain ⟨k2, h2⟩ := light_texts n hn st.n _ (new_at st _) big 0 0 (by omega) (lt_big (by have := hn.texts; omega))
    rw [show ((0 : Nat) : Int) = 0 from rfl] at h2
    rw [h2]
    unfold g12b111
    have := light_rows n hn st.n _ (new_at st _) big 0 k2 (by omega) (lt_big (by have := hn.rows; omega))
    exact this
  obtain ⟨c, hc⟩ := key
  exact ⟨c, fg_of hc ((Ks.refl st).new _) rfl⟩
theorem putN_pos {k : Nat} (h : 1 ≤ k) (h2 : k < 9223372036854775808) : 2 ≤ (putN k).length := by
  rw [putN_length]
  have := (nlen_spec k h2).1
  have : nlen k ≠ 0 := fun g => by rw [g] at this; simp at this; omega
  omega
theorem body_five {n : Note} (h : fitsW n = true) : 5 ≤ (bodyB n).length := by
  unfold fitsW at h
  simp only [Bool.and_eq_true, Bool.not_eq_true', decide_eq_false_iff_not, Int.not_lt, Nat.not_lt, decide_eq_true_eq] at h
  obtain ⟨k1, k2, k3, k4, k5, k6, k7, k8⟩ := h
  have a1 := putN_pos (k := n.kind.toNat) (by omega) (by omega)
  have a2 : 1 ≤ (putN n.nums.length).length := by rw [putN_length]; omega
  have a3 : 1 ≤ (putN n.rows.length).length := by rw [putN_length]; omega
  unfold bodyB headB
  simp only [List.length_append]
  by_cases h1 : n.texts.length ≤ 4096
  · have : 1 ≤ (listB n.texts).length := by
      unfold listB
      rw [if_neg (by omega), if_pos (List.all_eq_true.2 fun s hs => by
        have := List.any_eq_false.1 k7 s hs
        simp only [longT, decide_eq_true_eq] at this
        simp; omega)]
      unfold Oct.putL
      rw [List.length_append, putN_length]; omega
    omega
  · have : 1 ≤ n.rows.length := by
      cases hr : n.rows with
      | nil => rw [hr] at k8; simp [manyF] at k8; omega
      | cons a b => simp
    have := putN_pos (k := n.rows.length) this (by omega)
    omega
theorem in_note {n : Nat} {x : V} (s : Sh Try.prog n 36 x.cells) (f : fit Try.prog 36 x) : ∃ m : Note, x = noteV m ∧ NoteOK m := by
  obtain ⟨cs, rfl⟩ := fit_ag f (isAg_of.2 (.inl ⟨_, Try.underlying36⟩))
  obtain ⟨k, h1, h2⟩ := s.struct Try.underlying36
  rw [cells_agg] at h1 h2
  have c27 : Try.prog.cellsOf 36 = 4 := by kernel_rfl
  have c3 : Try.prog.cellsOf 3 = 1 := by kernel_rfl
  have c23 : Try.prog.cellsOf 33 = 1 := by kernel_rfl
  have c24 : Try.prog.cellsOf 27 = 1 := by kernel_rfl
  have c25 : Try.prog.cellsOf 34 = 1 := by kernel_rfl
  rw [c27] at h1
  obtain ⟨a, b, c, d, rfl⟩ : ∃ a b c d, cs = [a, b, c, d] := by
    match cs, h1 with
    | [a, b, c, d], _ => exact ⟨a, b, c, d, rfl⟩
  have q0 := h2 ⟨ "Kind", 3, 0, false, "", "", 0⟩ (by simp)
  have q1 := h2 ⟨ "Nums", 33, 1, false, "", "", 8⟩ (by simp)
  have q2 := h2 ⟨ "Texts", 27, 2, false, "", "", 32⟩ (by simp)
  have q3 := h2 ⟨ "Rows", 34, 3, false, "", "", 56⟩ (by simp)
  simp only [c3, c23, c24, c25, List.drop_zero, List.drop_succ_cons, List.take_succ_cons, List.take_zero] at q0 q1 q2 q3
  obtain ⟨kind, e0, _⟩ := q0.int Try.underlying3
  obtain ⟨l1, m1, e1, g1, w1⟩ := q1.slice Try.underlying33
  obtain ⟨l2, m2, e2, g2, w2⟩ := q2.slice Try.underlying27
  obtain ⟨l3, m3, e3, g3, w3⟩ := q3.slice Try.underlying34
  cases e0; cases e1; cases e2; cases e3
  obtain ⟨nums, rfl, _⟩ := list_pick (g := fun x => V.int .i64 x) (Q := fun _ => True) (l := l1) (fun v hv => by
    obtain ⟨y, r1, _⟩ := in_int (w1 v hv).1 (w1 v hv).2 Try.underlying3
    exact ⟨y, r1, trivial⟩)
  obtain ⟨texts, rfl, _⟩ := list_pick (g := V.str) (Q := fun _ => True) (l := l2) (fun v hv => by
    obtain ⟨y, r1, _⟩ := in_str (w2 v hv).1 (w2 v hv).2 Try.underlying9
    exact ⟨y, r1, trivial⟩)
  obtain ⟨rows, rfl, hr⟩ := list_pick (g := fun r => V.lst (strsV r) 0) (Q := fun r => r.length ≤ 9223372036854775807) (l := l3) (fun v hv => by
    obtain ⟨y, r1, r2, _⟩ := in_strs (w3 v hv).1 (w3 v hv).2 Try.underlying27 Try.underlying9
    exact ⟨y, r1, r2⟩)
  exact ⟨⟨kind, nums, texts, rows⟩, rfl, ⟨by simpa [maxLen] using g1, by simpa [maxLen] using g2, by simpa [maxLen] using g3, hr⟩⟩
theorem strsV_bulk (l : List (List UInt8)) : l.length ≤ bulkL (strsV l) := by
  have := bulkL_len (strsV l) (fun v hv => by obtain ⟨s, _, rfl⟩ := List.mem_map.1 hv; simp [V.bulk])
  simpa using this
theorem rowsV_bulk : ∀ r : List (List (List UInt8)), lens r ≤ bulkL (rowsV r)
  | [] => by simp [lens]
  | l :: r => by
    have h1 := rowsV_bulk r
    have h2 := strsV_bulk l
    rw [lens_cons]
    simp only [rowsV, List.map_cons, bulkL, V.bulk] at h1 ⊢
    omega
theorem note_bulk (n : Note) : n.texts.length + lens n.rows ≤ (noteV n).bulk := by
  have h1 := strsV_bulk n.texts
  have h2 := rowsV_bulk n.rows
  simp only [noteV, noteC, V.bulk, bulkL]
  omega
/-- Of so much bulk. -/
def Upto (n : Note) : Prop := n.texts.length + lens n.rows ≤ 1048576
theorem packOK_small {n : Note} (hu : Upto n) (h : packOK n = true) : n.texts.length + lens n.rows ≤ 4096 := by
  simp only [packOK, Bool.and_eq_true] at h
  have hf := h.1
  unfold fitsW at hf
  simp only [Bool.and_eq_true, Bool.not_eq_true', decide_eq_false_iff_not, Int.not_lt, Nat.not_lt, decide_eq_true_eq] at hf
  obtain ⟨k1, k2, k3, k4, k5, k6, k7, k8⟩ := hf
  unfold Upto at hu
  rw [manyF_eq _ _ (by omega)] at k8
  omega
theorem pack_inj {a b : Note} (ha : Upto a) (hb : Upto b) (pa : packOK a = true) (pb : packOK b = true) (h : packB a = packB b) : a = b := by
  have h1 := unp_pack pa (packOK_small ha pa) []
  have h2 := unp_pack pb (packOK_small hb pb) []
  rw [h, h2] at h1
  exact (congrArg Prod.fst h1).symm
theorem packOK_sm {n : Note} (hn : NoteOK n) (hu : Upto n) (h : packOK n = true) : NoteSM n := by
  have h2 := packOK_small hu h
  simp only [packOK, Bool.and_eq_true] at h
  have hf := h.1
  unfold fitsW at hf
  simp only [Bool.and_eq_true, Bool.not_eq_true', decide_eq_false_iff_not, Int.not_lt, Nat.not_lt, decide_eq_true_eq] at hf
  obtain ⟨k1, k2, k3, k4, k5, k6, k7, k8⟩ := hf
  exact ⟨by omega, by omega, by omega, fun r hr => by have := lens_mem hr; omega⟩
/-- Two lists of other sizes: one is appended to, the other keeps its right. -/
theorem Own.keep {st0 st : St} {sz sz' t t' : Nat} (hne : sz ≠ sz') (h : Own st0 st sz t) (h' : Own st0 st sz' t') : Own st0 (appSt st t sz) sz' t' := by
  rcases h' with g | g | ⟨k, g1, g2, g3, g4⟩
  · exact .inl g
  · exact .inr (.inl g)
  · refine .inr (.inr ⟨k, g1, g2, by rw [appSt_nt]; omega, ?_⟩)
    rw [appSt_tk _ _ _ _ (by omega) (fun e => ?_)]
    · exact g4
    · rcases h with q | q | ⟨k2, q1, q2, q3, q4⟩
      · omega
      · omega
      · have : k2 = k := by omega
        subst this
        rw [g4] at q4
        exact hne (Option.some.inj q4).symm
theorem in_notes {n : Nat} {x : V} (s : Sh Try.prog n 48 x.cells) (f : fit Try.prog 48 x) : ∃ l : List Note, x = .lst (notesV l) 0 ∧ l.length ≤ 9223372036854775807 ∧ ∀ n ∈ l, NoteOK n := by
  obtain ⟨l, m, rfl, h1, h2⟩ := in_slice s f Try.underlying48
  obtain ⟨xs, rfl, h3⟩ := list_pick (g := noteV) (Q := NoteOK) (l := l) (fun v hv => in_note (h2 v hv).1 (h2 v hv).2)
  exact ⟨xs, rfl, by simpa using h1, h3⟩
theorem notes_upto {l : List Note} {t : Nat} (h : (V.lst (notesV l) t).bulk ≤ 1048576) : ∀ n ∈ l, Upto n := by
  intro n hn
  have h1 := note_bulk n
  have h2 := bulkL_mem (l := notesV l) (v := noteV n) (List.mem_map.2 ⟨n, hn, rfl⟩)
  simp only [V.bulk] at h
  unfold Upto; omega
end Go.Ab
