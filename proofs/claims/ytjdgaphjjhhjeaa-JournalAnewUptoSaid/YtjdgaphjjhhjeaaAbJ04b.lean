import Derived.Test.YtjdgaphjjhhjeaaAbJ04a
/- sinew/journal: Fail and Begin. -/
namespace Go.Ab
open Go.Proofs Go.RowKit Go.Oct
set_option linter.unusedVariables false
set_option linter.unusedSimpArgs false
theorem jsure_w {st : St} {id room sure : Nat} {bv : V} {s : List UInt8} (hob : st.ob id = some (.cells (jC room bv sure))) (hr : 1 ≤ room) (hb : BytesAt st id bv s) : s13 [.ptr id 0] st = some (.ret (.int .i64 0), st.put id (.cells (jC room bv s.length))) := by
  rw [s13_eq]
  unfold f13
  obtain ⟨l0, l1, l2⟩ := jload hob
  have e : (jC room bv sure).set 2 (.int .i64 (s.length : Nat)) = jC room bv s.length := rfl
  simp only [er1_ptr, given_s hob hr, ret_ret, un_not, Bool.not_true, cond_false, nilc_ptr, faddr_ptr, Nat.zero_add, l1, hb.len, store_int, hob, obo_some, show 2 < (jC room bv sure).length from by simp [jC], if_true, e, er1_int]
theorem allN_le (s : List UInt8) : (allN s).2 ≤ s.length := (all_back s (s.length + 1) 0 [] (by omega) (by simp [packsB]) (by simp)).2.1
/-- How many bytes survive. -/
def jkeep (s : List UInt8) (sure : Nat) (keep : Int) : Nat := sure + keep.toNat % (s.length - sure + 1)
theorem jkeep_le {s : List UInt8} {sure : Nat} (h : sure ≤ s.length) (keep : Int) : jkeep s sure keep ≤ s.length := by
  unfold jkeep
  have := Nat.mod_lt keep.toNat (show 0 < s.length - sure + 1 by omega)
  omega
def jfail (s : List UInt8) (sure : Nat) (keep : Int) : List UInt8 := s.take (allN (s.take (jkeep s sure keep))).2
theorem jfail_s {st : St} {id room sure : Nat} {bv : V} {s : List UInt8} (h : JAt st id room bv s sure) (keep : Int) (hk : keep ≤ 9223372036854775807) :
    ∃ st' bv', s14 [.ptr id 0, .int .i64 keep] st = some (.ret (.int .i64 0), st') ∧ JAt st' id room bv' (jfail s sure keep) (jfail s sure keep).length ∧ JFr st st' id bv bv' := by
  rw [s14_eq]
  unfold f14
  obtain ⟨l0, l1, l2⟩ := jload h.ob
  have hle := h.le
  have hstr := h.str
  have e1 : ∀ K, A.max (.int .i64 keep) (.int .i64 0) K = K (.int .i64 (keep.toNat : Nat)) := fun K => by
    have : (if (0 : Int) > keep then 0 else keep) = ((keep.toNat : Nat) : Int) := by split <;> omega
    show K (.int .i64 (if (0 : Int) > keep then 0 else keep)) = _
    rw [this]
  have e2 : ∀ K, A.bin .sub (.int .i64 (s.length : Nat)) (.int .i64 (sure : Nat)) K = K (.int .i64 ((s.length - sure : Nat) : Int)) := fun K => bin_subN _ _ K hle (by omega)
  have e3 : ∀ K, A.bin .add (.int .i64 (s.length - sure : Nat)) (.int .i64 1) K = K (.int .i64 ((s.length - sure + 1 : Nat) : Int)) := fun K => bin_inc (by omega) K
  have e4 : ∀ K, A.bin .rem (.int .i64 (keep.toNat : Nat)) (.int .i64 (s.length - sure + 1 : Nat)) K = K (.int .i64 ((keep.toNat % (s.length - sure + 1) : Nat) : Int)) := fun K => bin_remN _ _ K (by omega)
  have hm := Nat.mod_lt keep.toNat (show 0 < s.length - sure + 1 by omega)
  have e5 : ∀ K, A.bin .add (.int .i64 (sure : Nat)) (.int .i64 (keep.toNat % (s.length - sure + 1) : Nat)) K = K (.int .i64 (jkeep s sure keep : Nat)) := fun K => bin_addN _ _ K (by omega)
  simp only [er1_ptr, given_s h.ob h.r1, ret_ret, un_not, Bool.not_true, cond_false, e1, nilc_ptr, faddr_ptr, Nat.zero_add, l1, h.b.len, l2, e2, e3, e4]
  unfold g14b111
  have hkl := jkeep_le hle keep
  obtain ⟨b2, q1, q2, q3⟩ := h.b.slice hkl
  obtain ⟨a1, _⟩ := all_s (s.take (jkeep s sure keep)) (by rw [List.length_take]; omega) st
  simp only [nilc_ptr, faddr_ptr, Nat.zero_add, l1, l2, e5, q1, q2.str, kid_eq, noP_ret, er1_str, a1, ret_ret, A2, ext_0, ext_1]
  unfold g14b1111
  have hw := allN_le (s.take (jkeep s sure keep))
  rw [List.length_take, Nat.min_eq_left hkl] at hw
  obtain ⟨b3, r1, r2, r3⟩ := h.b.slice (show (allN (s.take (jkeep s sure keep))).2 ≤ s.length by omega)
  have e6 : (jC room bv sure).set 1 b3 = jC room b3 sure := rfl
  simp only [nilc_ptr, faddr_ptr, Nat.zero_add, l1, r1]
  rw [store_ob _ _ _ _ _ r2.one, h.ob, obo_some, if_pos (show 1 < (jC room bv sure).length by simp [jC]), e6]
  have hl : (s.take (allN (s.take (jkeep s sure keep))).2).length ≤ s.length := by rw [List.length_take]; omega
  simp only [er1_ptr, jsure_w (put_at st id (.cells (jC room b3 sure))) h.r1 (r2.put _), ret_ret, er1_int, put_put]
  have hf := h.full
  refine ⟨_, b3, rfl, ⟨put_at _ _ _, h.lt, r2.put _, Nat.le_refl _, h.r1, h.r2, by unfold jfail; omega⟩, ⟨rfl, rfl, Nat.le_refl _, fun i _ hd _ => put_ne _ _ hd, fun i hi => .inl (r3 i hi)⟩⟩
/-- Is a note odd? -/
def oddP (n : Note) : Bool := !packOK n
theorem jodd_s (n : Note) (hn : NoteOK n) (st : St) : s30 [noteV n] st = some (.ret (.bool (oddP n)), st) := by
  rw [s30_eq]
  refine fg_of (st' := st.new (.cells (noteC n))) (v := .bool (oddP n)) ?_ ((Ks.refl st).new _) rfl
  unfold f30
  have bx : ∀ K, A.box (noteV n) st K = K (.ptr st.n 0) (st.new (.cells (noteC n))) := fun K => rfl
  have hnv : (V.agg (noteC n)).er1 = noteV n := rfl
  simp only [bx, load_noteb (new_at st _), hnv, check_s n hn, ret_ret, eql_int, if_true, oddP, er1_bool]
  cases packOK n <;> rfl
theorem jidx_loop (l : List Note) (t : Nat) (hl : l.length ≤ 9223372036854775807) (hn : ∀ n ∈ l, NoteOK n) (st : St) : ∀ (f i : Nat), i ≤ l.length → l.length < f + i →
    ∃ x : Int, g41b1010 f (.lst (notesV l) t) (.fn 30 [] []) (.int .i64 (l.length : Nat)) (.int .i64 (i : Nat)) st = some (.ret (.int .i64 x), st) ∧ (0 ≤ x ↔ (l.drop i).any oddP = true) := by
  intro f
  induction f with
  | zero => intro i hi hf; omega
  | succ f ih =>
    intro i hi hf
    unfold g41b1010
    by_cases h : i < l.length
    · have e4 : ∀ K, A.bin .add (.int .i64 (i : Nat)) (.int .i64 1) K = K (.int .i64 ((i + 1 : Nat) : Int)) := fun K => bin_inc (by omega) K
      have ec : ∀ (n : Note) K, A.call g41T (.fn 30 [] []) [noteV n] st K = A.ret (s30 [noteV n] st) K := fun n K => rfl
      rw [List.drop_eq_getElem_cons h, List.any_cons]
      simp only [bin_lss, show ((i : Int) < (l.length : Int)) from by omega, decide_true, cond_true, iaddr_notes t h, load_note, ec, jodd_s _ (hn _ (List.getElem_mem h)), ret_ret]
      cases hb : oddP l[i] with
      | true => simp only [cond_true, er1_int]; exact ⟨i, rfl, by simp⟩
      | false =>
        simp only [cond_false, e4]
        obtain ⟨x, h1, h2⟩ := ih (i + 1) (by omega) (by omega)
        exact ⟨x, h1, by simpa using h2⟩
    · have : i = l.length := by omega
      subst this
      simp only [bin_lss, Int.lt_irrefl, decide_false, cond_false, er1_int, List.drop_length, List.any_nil]
      exact ⟨-1, rfl, by simp⟩
theorem jany_s (l : List Note) (t : Nat) (hl : l.length ≤ 9223372036854775807) (hn : ∀ n ∈ l, NoteOK n) (st : St) : s32 [.lst (notesV l) t, .fn 30 [] []] st = some (.ret (.bool (l.any oddP)), st) := by
  obtain ⟨x, h1, h2⟩ := jidx_loop l t hl hn st big 0 (by omega) (lt_big (by omega))
  have h3 : s41 [.lst (notesV l) t, .fn 30 [] []] st = some (.ret (.int .i64 x), st) := by
    rw [s41_eq]
    refine fg_of (st' := st) (v := .int .i64 x) ?_ (Ks.refl st) rfl
    unfold f41
    simp only [lenL_lst, notesV_len]
    exact h1
  rw [s32_eq]
  refine fg_of (st' := st) (v := .bool (l.any oddP)) ?_ (Ks.refl st) rfl
  unfold f32
  have : decide (0 ≤ x) = l.any oddP := by
    rw [List.drop_zero] at h2
    cases hb : l.any oddP with
    | true => exact decide_eq_true (h2.2 hb)
    | false => exact decide_eq_false (fun g => by rw [h2.1 g] at hb; cases hb)
  simp only [er1_lst, er1_fn, h3, ret_ret, bin_geq, this, er1_bool]
end Go.Ab
