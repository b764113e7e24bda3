import Derived.Test.YtnnjfbbflfbcaaaAbLawWireTells
import Derived.Test.YtnnjfbbflfbcaaaAbBulk
/- Notes of so much bulk: lengths add up. sinewlaw03.WireApart. -/
namespace Go.Ab
open Go.Proofs Go.RowKit Go.Oct
set_option linter.unusedVariables false
set_option linter.unusedSimpArgs false
theorem strsV_bulk (l : List (List UInt8)) : l.length ≤ bulkL (strsV l) := by
  have := bulkL_len (strsV l) (fun v hv => by obtain ⟨s, _, rfl⟩ := List.mem_map.1 hv; simp [V.bulk])
  simpa using this
theorem rowsV_bulk : ∀ r : List (List (List UInt8)), lens r ≤ bulkL (rowsV r)
  | [] => by simp [lens]
  | l :: r => by
    have h1 := rowsV_bulk r
    have h2 := strsV_bulk l
    rw [lens_cons]
    simp only [rowsV, List.map_cons, bulkL, V.bulk] at h1 ⊢
    omega
theorem note_bulk (n : Note) : n.texts.length + lens n.rows ≤ (noteV n).bulk := by
  have h1 := strsV_bulk n.texts
  have h2 := rowsV_bulk n.rows
  simp only [noteV, noteC, V.bulk, bulkL]
  omega
/-- Of so much bulk. -/
def Upto (n : Note) : Prop := n.texts.length + lens n.rows ≤ 1048576
theorem packOK_small {n : Note} (hu : Upto n) (h : packOK n = true) : n.texts.length + lens n.rows ≤ 4096 := by
  simp only [packOK, Bool.and_eq_true] at h
  have hf := h.1
  unfold fitsW at hf
  simp only [Bool.and_eq_true, Bool.not_eq_true', decide_eq_false_iff_not, Int.not_lt, Nat.not_lt, decide_eq_true_eq] at hf
  obtain ⟨k1, k2, k3, k4, k5, k6, k7, k8⟩ := hf
  unfold Upto at hu
  rw [manyF_eq _ _ (by omega)] at k8
  omega
theorem pack_inj {a b : Note} (ha : Upto a) (hb : Upto b) (pa : packOK a = true) (pb : packOK b = true) (h : packB a = packB b) : a = b := by
  have h1 := unp_pack pa (packOK_small ha pa) []
  have h2 := unp_pack pb (packOK_small hb pb) []
  rw [h, h2] at h1
  exact (congrArg Prod.fst h1).symm
theorem packOK_sm {n : Note} (hn : NoteOK n) (hu : Upto n) (h : packOK n = true) : NoteSM n := by
  have h2 := packOK_small hu h
  simp only [packOK, Bool.and_eq_true] at h
  have hf := h.1
  unfold fitsW at hf
  simp only [Bool.and_eq_true, Bool.not_eq_true', decide_eq_false_iff_not, Int.not_lt, Nat.not_lt, decide_eq_true_eq] at hf
  obtain ⟨k1, k2, k3, k4, k5, k6, k7, k8⟩ := hf
  exact ⟨by omega, by omega, by omega, fun r hr => by have := lens_mem hr; omega⟩
theorem wireApart_law (a b : Note) (ha : NoteOK a) (hb : NoteOK b) (ua : Upto a) (ub : Upto b) (st : St) : ∃ st', s7 [noteV a, noteV b] st = some (.ret (.bool true), st') := by
  rw [s7_eq]
  unfold f7
  have bx : ∀ (n : Note) (st : St) K, A.box (noteV n) st K = K (.ptr st.n 0) (st.new (.cells (noteC n))) := fun n st K => rfl
  have oa : ((st.new (.cells (noteC a))).new (.cells (noteC b))).ob st.n = some (.cells (noteC a)) := by simp [new_ob]
  have ob : ((st.new (.cells (noteC a))).new (.cells (noteC b))).ob (st.n + 1) = some (.cells (noteC b)) := by simp [new_ob]
  have nv : ∀ n : Note, (V.agg (noteC n)).er1 = noteV n := fun n => rfl
  simp only [bx, new_n]
  generalize (st.new (.cells (noteC a))).new (.cells (noteC b)) = st1 at oa ob
  generalize st.n = p at oa ob
  obtain ⟨c, hc⟩ := light_s a ha st1
  obtain ⟨d, hd⟩ := light_s b hb st1
  simp only [load_noteb oa, nv, hc, ret_ret, un_not]
  cases c with
  | false => simp only [Bool.not_false, guard_tf, s10_val, ret_ret, er1_bool]; exact ⟨_, rfl⟩
  | true =>
  simp only [Bool.not_true, guard_ff, load_noteb ob, nv, hd, ret_ret, un_not]
  cases d with
  | false => simp only [Bool.not_false, cond_true, s10_val, ret_ret, er1_bool]; exact ⟨_, rfl⟩
  | true =>
  simp only [Bool.not_true, cond_false]
  unfold g7b11
  simp only [load_noteb oa, load_noteb ob, nv, pack_s a ha, pack_s b hb, ret_ret]
  cases pa : packOK a with
  | false =>
    have e0 : (if (false = true) then P2 (packB a) 0 else P2 [] 1) = P2 [] 1 := rfl
    rw [e0]
    cases pb : packOK b <;> simp only [Bool.false_eq_true, if_false, if_true, P2, ext_0, ext_1] <;> unfold g7b1111 <;> simp only [eql_int, if_true, show (((1 : Nat) : Int) != 0) = true from rfl, guard_tf, s10_val, ret_ret, er1_bool] <;> exact ⟨_, rfl⟩
  | true =>
  cases pb : packOK b with
  | false =>
    simp only [Bool.false_eq_true, if_false, if_true, P2, ext_0, ext_1]
    unfold g7b1111
    simp only [eql_int, if_true, show (((1 : Nat) : Int) != 0) = true from rfl, show (((0 : Nat) : Int) != 0) = false from rfl, guard_ff, cond_true, s10_val, ret_ret, er1_bool]
    exact ⟨_, rfl⟩
  | true =>
  simp only [if_true, P2, ext_0, ext_1]
  unfold g7b1111
  simp only [eql_int, if_true, show (((0 : Nat) : Int) != 0) = false from rfl, guard_ff, cond_false]
  unfold g7b11111
  have e : (packB a == packB b) = sameN a b := by
    by_cases h : a = b
    · subst h; rw [sameN_iff.2 rfl]; simp
    · have h1 : (packB a == packB b) = false := by simp; exact fun g => h (pack_inj ua ub pa pb g)
      have h2 : sameN a b = false := by
        cases hs : sameN a b with
        | false => rfl
        | true => exact absurd (sameN_iff.1 hs) h
      rw [h1, h2]
  simp only [eql_str, Bool.false_eq_true, if_false, load_noteb oa, load_noteb ob, nv, noteSame_s a b (packOK_sm ha ua pa), ret_ret, e, eql_bool, beq_self_eq_true, guard_tt, s10_val, er1_bool]
  exact ⟨_, rfl⟩
theorem wireApart_row {W : World} {v0 v1 : Value} {x0 x1 : V} {n0 n1 : Nat}
    (r0 : Rs (E0 W) [x0] [v0]) (s0 : Sh Try.prog n0 27 x0.cells) (f0 : fit Try.prog 27 x0)
    (r1 : Rs (E0 W) [x1] [v1]) (s1 : Sh Try.prog n1 27 x1.cells) (f1 : fit Try.prog 27 x1) (hb : x0.bulk + x1.bulk ≤ 1048576) :
    Calls Try.prog 7 #[v0, v1] W fun e w' => e = .returned (.bool true) ∧ Below W.heap.size W w' := by
  obtain ⟨a, rfl, ha⟩ := in_note s0 f0
  obtain ⟨b, rfl, hb'⟩ := in_note s1 f1
  have b1 := note_bulk a
  have b2 := note_bulk b
  obtain ⟨st', hs⟩ := wireApart_law a b ha hb' (by unfold Upto; omega) (by unfold Upto; omega) St0
  exact bool_row sim7 W _ _ _ hs (Rs.cons r0 r1)
end Go.Ab
