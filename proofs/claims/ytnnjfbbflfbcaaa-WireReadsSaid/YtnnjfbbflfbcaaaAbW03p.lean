import Derived.Test.YtnnjfbbflfbcaaaAbW03o
/- All notes that bytes begin with. -/
namespace Go.Ab
open Go.RowKit Go.Oct
set_option linter.unusedVariables false
set_option linter.unusedSimpArgs false

def allL (s : List UInt8) : Nat → Nat → List Note → List Note × Nat
  | 0, a, acc => (acc, a)
  | f + 1, a, acc => if (unpL (s.drop a)).2.2 = 0 then allL s f (a + (unpL (s.drop a)).2.1) (acc ++ [(unpL (s.drop a)).1]) else (acc, a)
def A2 (x : List Note × Nat) : V := .tup [.lst (notesV x.1) 0, .int .i64 (x.2 : Nat)]
theorem unp_used {s : List UInt8} (h : (unpL s).2.2 = 0) : 8 ≤ (unpL s).2.1 ∧ (unpL s).2.1 ≤ s.length := by
  unfold unpL at h ⊢
  split at h
  · simp at h
  · rw [if_neg ‹_›]
    split at h
    · simp at h
    · rw [if_neg ‹_›]
      split at h
      · simp at h
      · rw [if_neg ‹_›]
        split at h
        · simp at h
        · rw [if_neg ‹_›]
          cases hp : parseO ((s.drop 8).take (of4 s)) with
          | none => rw [hp] at h; simp at h
          | some n => simp only; omega
theorem unp_3 (s : List UInt8) : (unpL s).2.2 = 0 ∨ (unpL s).2.2 = 11 ∨ (unpL s).2.2 = 30 ∨ (unpL s).2.2 = 31 := by
  unfold unpL
  split
  · simp
  · split
    · simp
    · split
      · simp
      · split
        · simp
        · split <;> simp
theorem bslice_note (n : Note) (K : V → Res) : A.bslice 4 (.agg [.int .i64 0, .lst [] 1, .lst [] 1, .lst [] 1]) 1 [(0, .agg (noteC n))] K = K (.lst (notesV [n]) 2) := rfl
theorem box_zero (st : St) (K : V → St → Res) : A.box (.agg [.int .i64 0, .lst [] 1, .lst [] 1, .lst [] 1]) st K = K (.ptr st.n 0) (st.new (.cells (nC 0 [] 1 [] 1 [] 1))) := rfl
theorem store_note {st : St} {p : Nat} (h : st.ob p = some (.cells (nC 0 [] 1 [] 1 [] 1))) (n : Note) (K : St → Res) : A.store 4 (.ptr p 0) (noteV n) st K = K (st.put p (.cells (noteC n))) := by
  unfold noteV
  rw [store_agg, h, obo_some]; simp [nC, noteC, Go.Ab.putL]
theorem load_noteb {st : St} {p : Nat} {n : Note} (h : st.ob p = some (.cells (noteC n))) (K : V → St → Res) : A.load true 4 (.ptr p 0) st K = K (.agg (noteC n)) st := by
  rw [load_obA, h, obo_some]; rfl
theorem notesV_app (a b : List Note) : notesV (a ++ b) = notesV a ++ notesV b := by simp [notesV]
theorem all_loop (s : List UInt8) (hs : s.length ≤ 1073741824) (st0 : St) : ∀ (m n a : Nat) (acc : List Note) (t : Nat) (st : St), s.length < m + a → s.length < n + a → a ≤ s.length → acc.length ≤ a → (∀ x ∈ acc, NoteSmall x) → Own st0 st 4 t → Ks st0 st →
    ∃ v st', g13b10 n (.str s) (.lst (notesV acc) t) (.int .i64 (a : Nat)) st = some (.ret v, st') ∧ Ks st0 st' ∧ v.era = A2 (allL s m a acc) ∧ (∀ x ∈ (allL s m a acc).1, NoteSmall x) ∧ (allL s m a acc).1.length ≤ s.length := by
  intro m
  induction m with
  | zero => intro n a acc t st hm hn ha; omega
  | succ m ih =>
    intro n a acc t st hm hn ha hacc hsm ho hk
    obtain ⟨n, rfl⟩ : ∃ k, n = k + 1 := ⟨n - 1, by omega⟩
    obtain ⟨hu, hu2⟩ := unp_s (s.drop a) (drop_len (by omega)) st
    unfold g13b10 allL
    simp only [sliceS_from ha, er1_str, hu, ret_ret, U3, ext_0, ext_1, ext_2, box_zero, store_note (new_at st _), put_put]
    have ob1 : ((st.new (.cells (nC 0 [] 1 [] 1 [] 1))).put st.n (.cells (noteC (unpL (s.drop a)).1))).ob st.n = some (.cells (noteC (unpL (s.drop a)).1)) := put_at _ _ _
    have hk1 : Ks st ((st.new (.cells (nC 0 [] 1 [] 1 [] 1))).put st.n (.cells (noteC (unpL (s.drop a)).1))) := ((Ks.refl st).new _).put (Nat.le_refl _) _
    have o1 := ho.mono hk1
    have hk2 := hk.trans hk1
    generalize (st.new (.cells (nC 0 [] 1 [] 1 [] 1))).put st.n (.cells (noteC (unpL (s.drop a)).1)) = st1 at ob1 o1 hk2
    unfold g13b10001
    simp only [eql_int, if_true, err_nz]
    by_cases h0 : (unpL (s.drop a)).2.2 = 0
    · have hub := unp_used h0
      simp only [List.length_drop] at hub
      have e3 : ∀ K, A.bin .add (.int .i64 (a : Nat)) (.int .i64 ((unpL (s.drop a)).2.1 : Nat)) K = K (.int .i64 ((a + (unpL (s.drop a)).2.1 : Nat) : Int)) := fun K => bin_addN _ _ K (by omega)
      simp only [h0, decide_true, Bool.not_true, cond_false, load_noteb ob1, bslice_note, elemsOf_lst 4 _ _ _ (szok_notes _), if_true]
      rw [app_own _ o1 (by simp; omega) (szok_notes _)]
      simp only [e3]
      rw [← notesV_app]
      obtain ⟨k2, o2⟩ := o1.app hk2
      exact ih n (a + (unpL (s.drop a)).2.1) (acc ++ [(unpL (s.drop a)).1]) (st1.nt + 3) _ (by omega) (by omega) (by omega) (by simp; omega) (by
        intro x hx
        rcases List.mem_append.1 hx with g | g
        · exact hsm x g
        · rw [List.mem_singleton.1 g]; exact hu2) o2 k2
    · simp only [h0, decide_false, Bool.not_false, cond_true, er1_lst, er1_int, if_false]
      exact ⟨_, _, rfl, hk2, rfl, hsm, by show acc.length ≤ _; omega⟩
theorem rall_loop (s : List UInt8) (hs : s.length ≤ 1073741824) (st0 : St) : ∀ (m n a : Nat) (acc : List Note) (t : Nat) (st : St), s.length < m + a → s.length < n + a → a ≤ s.length → acc.length ≤ a → Own st0 st 4 t → Ks st0 st →
    ∃ v st', g14b1110 n (.str s) (.lst (notesV acc) t) (.int .i64 (a : Nat)) st = some (.ret v, st') ∧ Ks st0 st' ∧ v.era = A2 (allL s m a acc) := by
  intro m
  induction m with
  | zero => intro n a acc t st hm hn ha; omega
  | succ m ih =>
    intro n a acc t st hm hn ha hacc ho hk
    obtain ⟨n, rfl⟩ : ∃ k, n = k + 1 := ⟨n - 1, by omega⟩
    have hu := runp_s (s.drop a) (drop_len (by omega)) st
    unfold g14b1110 allL
    simp only [sliceS_from ha, er1_str, hu, ret_ret, U3, ext_0, ext_1, ext_2, box_zero, store_note (new_at st _), put_put]
    have ob1 : ((st.new (.cells (nC 0 [] 1 [] 1 [] 1))).put st.n (.cells (noteC (unpL (s.drop a)).1))).ob st.n = some (.cells (noteC (unpL (s.drop a)).1)) := put_at _ _ _
    have hk1 : Ks st ((st.new (.cells (nC 0 [] 1 [] 1 [] 1))).put st.n (.cells (noteC (unpL (s.drop a)).1))) := ((Ks.refl st).new _).put (Nat.le_refl _) _
    have o1 := ho.mono hk1
    have hk2 := hk.trans hk1
    generalize (st.new (.cells (nC 0 [] 1 [] 1 [] 1))).put st.n (.cells (noteC (unpL (s.drop a)).1)) = st1 at ob1 o1 hk2
    unfold g14b1110001
    simp only [eql_int, if_true, err_nz]
    by_cases h0 : (unpL (s.drop a)).2.2 = 0
    · have hub := unp_used h0
      simp only [List.length_drop] at hub
      have e3 : ∀ K, A.bin .add (.int .i64 (a : Nat)) (.int .i64 ((unpL (s.drop a)).2.1 : Nat)) K = K (.int .i64 ((a + (unpL (s.drop a)).2.1 : Nat) : Int)) := fun K => bin_addN _ _ K (by omega)
      simp only [h0, decide_true, Bool.not_true, cond_false, load_noteb ob1, bslice_note, elemsOf_lst 4 _ _ _ (szok_notes _), if_true]
      rw [app_own _ o1 (by simp; omega) (szok_notes _)]
      simp only [e3]
      rw [← notesV_app]
      obtain ⟨k2, o2⟩ := o1.app hk2
      exact ih n (a + (unpL (s.drop a)).2.1) (acc ++ [(unpL (s.drop a)).1]) (st1.nt + 3) _ (by omega) (by omega) (by omega) (by simp; omega) o2 k2
    · simp only [h0, decide_false, Bool.not_false, cond_true, er1_lst, er1_int, if_false]
      exact ⟨_, _, rfl, hk2, rfl⟩
/-- All notes. -/
def allN (s : List UInt8) : List Note × Nat := allL s (s.length + 1) 0 []
theorem pu_A2 (x : List Note × Nat) : (A2 x).pu = true := by
  have : V.puL (notesV x.1) = true := puL_of (by intro v hv; obtain ⟨n, _, rfl⟩ := List.mem_map.1 hv; exact pu_note n)
  simp [A2, this]
theorem all_s (s : List UInt8) (hs : s.length ≤ 1073741824) (st : St) : s13 [.str s] st = some (.ret (A2 (allN s)), st) ∧ (∀ x ∈ (allN s).1, NoteSmall x) ∧ (allN s).1.length ≤ s.length := by
  rw [s13_eq]
  obtain ⟨v, st', h1, h2, h3, h4, h5⟩ := all_loop s hs st (s.length + 1) big 0 [] 1 st (by omega) (by have := big_le; omega) (by omega) (by simp) (by simp) (Own.nil _ _ _) (Ks.refl st)
  refine ⟨?_, h4, h5⟩
  have := fg_of (r := f13 (.str s) st) h1 h2 (by rw [h3]; exact pu_A2 _)
  rw [h3] at this
  exact this
theorem rall_s (s : List UInt8) (hs : s.length ≤ 1073741824) (st : St) : s14 [.str s] st = some (.ret (A2 (allN s)), st) := by
  rw [s14_eq]
  obtain ⟨v, st', h1, h2, h3⟩ := rall_loop s hs st (s.length + 1) big 0 [] 1 st (by omega) (by have := big_le; omega) (by omega) (by simp) (Own.nil _ _ _) (Ks.refl st)
  have := fg_of (r := f14 (.str s) st) h1 h2 (by rw [h3]; exact pu_A2 _)
  rw [h3] at this
  exact this
end Go.Ab
