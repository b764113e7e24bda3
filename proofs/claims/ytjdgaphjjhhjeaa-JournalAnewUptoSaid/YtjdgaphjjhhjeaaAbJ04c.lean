import Derived.Test.YtjdgaphjjhhjeaaAbJ04b
/- sinew/journal: Begin. -/
namespace Go.Ab
open Go.Proofs Go.RowKit Go.Oct
set_option linter.unusedVariables false
set_option linter.unusedSimpArgs false
/-- All that was there is there. -/
structure Old (st st' : St) : Prop where
  tk : st'.tk = st.tk
  nt : st'.nt = st.nt
  n : st.n ≤ st'.n
  ob : ∀ i, i < st.n → st'.ob i = st.ob i
theorem Old.refl (st : St) : Old st st := ⟨rfl, rfl, Nat.le_refl _, fun _ _ => rfl⟩
theorem Old.trans {a b c : St} (h : Old a b) (k : Old b c) : Old a c :=
  ⟨k.tk.trans h.tk, k.nt.trans h.nt, Nat.le_trans h.n k.n, fun i hi => (k.ob i (Nat.lt_of_lt_of_le hi h.n)).trans (h.ob i hi)⟩
theorem Old.new (st : St) (o : Ob) : Old st (st.new o) := ⟨rfl, rfl, by simp, fun i hi => new_ne _ _ (by omega)⟩
theorem Old.newput (st : St) (o o' : Ob) : Old st ((st.new o).put st.n o') := ⟨rfl, rfl, by simp, fun i hi => by rw [put_ne _ _ (by omega), new_ne _ _ (by omega)]⟩
theorem BytesAt.old {st st' : St} {id : Nat} {bv : V} {s : List UInt8} (h : BytesAt st id bv s) (k : Old st st') : BytesAt st' id bv s := by
  rcases h with h | ⟨b, rest, h1, h2, h3, h4⟩
  · exact .inl h
  · exact .inr ⟨b, rest, h1, by rw [k.ob b h4]; exact h2, h3, Nat.lt_of_lt_of_le h4 k.n⟩
theorem JAt.old {st st' : St} {id room sure : Nat} {bv : V} {s : List UInt8} (h : JAt st id room bv s sure) (k : Old st st') : JAt st' id room bv s sure :=
  ⟨by rw [k.ob id h.lt]; exact h.ob, Nat.lt_of_lt_of_le h.lt k.n, h.b.old k, h.le, h.r1, h.r2, h.full⟩
theorem Old.fr {st st' : St} (k : Old st st') (id : Nat) (bv : V) : JFr st st' id bv bv := ⟨k.tk, k.nt, k.n, fun i hi _ _ => k.ob i hi, fun i h => .inl h⟩
/-- What lies behind a new journal's beginning. -/
theorem JFr.old {st0 st st' : St} {id : Nat} {bv : V} (h : JFr st st' id (.lst [] 1) bv) (h0 : st0.n ≤ id) (k : Old st0 st) : Old st0 st' :=
  ⟨h.tk.trans k.tk, h.nt.trans k.nt, Nat.le_trans k.n h.n, fun i hi => (h.ob i (Nat.lt_of_lt_of_le hi k.n) (by omega) (fun g => g)).trans (k.ob i hi)⟩
def jputs (room : Nat) : List Note → List UInt8 → Nat × List UInt8
  | [], s => (0, s)
  | n :: l, s => if (jwrite room s n).1 = 0 then jputs room l (jwrite room s n).2 else ((jwrite room s n).1, s)
def jbegin (room : Nat) (l : List Note) : Nat × List UInt8 := if l.any oddP = true then (1, []) else jputs room l []
theorem jload3 {st : St} {id room sure : Nat} {bv : V} (h : st.ob id = some (.cells (jC room bv sure))) (h1 : bv.one = true) (K : V → St → Res) : A.load true 3 (.ptr id 0) st K = K (.agg (jC room bv sure)) st := by
  rw [load_obA, h, obo_some]
  have : ones (jC room bv sure) = true := by simp [ones, jC, h1]
  rw [this]
  rfl
theorem jbegin_loop (l : List Note) (t : Nat) (hl : l.length ≤ 9223372036854775807) (hn : ∀ n ∈ l, NoteOK n) {st0 : St} {id nx room sure : Nat} {bv : V} {s0 : List UInt8} (h0 : JAt st0 id room bv s0 sure) (hnx : st0.n ≤ nx) :
    ∀ (f i : Nat) (st : St) (bx : V) (s : List UInt8), i ≤ l.length → l.length < f + i → Old st0 st → JAt st nx room bx s 0 → (∀ j, owns bx j → st0.n ≤ j) →
    ∃ st' bv' s' sure', g21b1111010 f (.ptr id 0) (.ptr nx 0) (.lst (notesV l) t) (.int .i64 (l.length : Nat)) (.int .i64 (i : Nat)) st = some (.ret (.int .i64 ((jputs room (l.drop i) s).1 : Nat)), st') ∧ JAt st' id room bv' s' sure' ∧ JFr st0 st' id bv bv' ∧
      ((jputs room (l.drop i) s).1 = 0 → s' = (jputs room (l.drop i) s).2 ∧ sure' = s'.length) ∧ ((jputs room (l.drop i) s).1 ≠ 0 → s' = s0 ∧ sure' = sure) := by
  intro f
  induction f with
  | zero => intro i st bx s hi hf; omega
  | succ f ih =>
    intro i st bx s hi hf ho hj hown
    unfold g21b1111010
    by_cases h : i < l.length
    · have e4 : ∀ K, A.bin .add (.int .i64 (i : Nat)) (.int .i64 1) K = K (.int .i64 ((i + 1 : Nat) : Int)) := fun K => bin_inc (by omega) K
      have hnv : ∀ n : Note, (V.agg (noteC n)).er1 = noteV n := fun n => rfl
      rw [List.drop_eq_getElem_cons h]
      have o1 := Old.newput st (.cells (nC 0 [] 1 [] 1 [] 1)) (.cells (noteC l[i]))
      have ob1 := put_at (st.new (.cells (nC 0 [] 1 [] 1 [] 1))) st.n (.cells (noteC l[i]))
      simp only [bin_lss, show ((i : Int) < (l.length : Int)) from by omega, decide_true, cond_true, iaddr_notes t h, load_note, box_zero, store_note (new_at st _)]
      generalize (st.new (.cells (nC 0 [] 1 [] 1 [] 1))).put st.n (.cells (noteC l[i])) = st1 at o1 ob1
      obtain ⟨st2, b2, r1, r2, r3⟩ := jwrite_s (hj.old o1) l[i] (hn _ (List.getElem_mem h))
      have o2 : Old st0 st2 := by
        have k := ho.trans o1
        refine ⟨r3.tk.trans k.tk, r3.nt.trans k.nt, Nat.le_trans k.n r3.n, fun j hj2 => ?_⟩
        rw [r3.ob j (Nat.lt_of_lt_of_le hj2 k.n) (by omega) (fun g => by have := hown j g; omega), k.ob j hj2]
      have hown2 : ∀ j, owns b2 j → st0.n ≤ j := fun j g => by
        rcases r3.own j g with q | q
        · exact hown j q
        · exact Nat.le_trans (ho.trans o1).n q
      simp only [load_noteb ob1, er1_ptr, hnv, r1, ret_ret, eql_int, if_true]
      unfold jputs
      by_cases hz : (jwrite room s l[i]).1 = 0
      · have e5 : (((jwrite room s l[i]).1 : Int) != 0) = false := by simp [hz]
        simp only [e5, cond_false, e4, if_pos hz]
        exact ih (i + 1) st2 b2 _ (by omega) (by omega) o2 r2 hown2
      · have e5 : (((jwrite room s l[i]).1 : Int) != 0) = true := by simp [hz]
        simp only [e5, cond_true, er1_int, if_neg hz]
        exact ⟨st2, bv, s0, sure, rfl, h0.old o2, o2.fr id bv, fun g => absurd g hz, fun _ => ⟨rfl, rfl⟩⟩
    · have : i = l.length := by omega
      subst this
      rw [List.drop_length]
      have hid : id ≠ nx := by have := h0.lt; omega
      have hone := hj.b.one
      have hobid : st.ob id = some (.cells (jC room bv sure)) := by rw [ho.ob id h0.lt]; exact h0.ob
      have ep : Go.Ab.putL (jC room bv sure) 0 (jC room bx 0) = jC room bx 0 := rfl
      have hb' : BytesAt (st.put id (.cells (jC room bx 0))) id bx s := by
        rcases hj.b with g | ⟨b, rest, g1, g2, g3, g4⟩
        · exact .inl g
        · have hb : b ≠ id := by have := hown b (by rw [g1]; exact rfl); have := h0.lt; omega
          exact .inr ⟨b, rest, g1, by rw [put_ne _ _ hb]; exact g2, hb, by rw [put_n]; exact g4⟩
      simp only [bin_lss, Int.lt_irrefl, decide_false, cond_false, nilc_ptr, jload3 hj.ob hone]
      rw [store_agg, hobid, obo_some, if_pos ⟨rfl, by simp [jC], by simp [jC, hone]⟩, ep]
      simp only [er1_ptr, jsure_w (put_at st id (.cells (jC room bx 0))) h0.r1 hb', ret_ret, er1_int, put_put]
      refine ⟨_, bx, s, s.length, rfl, ⟨put_at _ _ _, by rw [put_n]; exact Nat.lt_of_lt_of_le h0.lt ho.n, ?_, Nat.le_refl _, h0.r1, h0.r2, hj.full⟩, ⟨ho.tk, ho.nt, ho.n, fun j hj2 hd _ => by rw [put_ne _ _ hd, ho.ob j hj2], fun j g => .inr (hown j g)⟩, fun _ => ⟨rfl, rfl⟩, fun g => absurd rfl g⟩
      have := hb'.put (jC room bx s.length)
      rwa [put_put] at this
theorem jbegin_s {st : St} {id room sure : Nat} {bv : V} {s : List UInt8} (h : JAt st id room bv s sure) (l : List Note) (t : Nat) (hl : l.length ≤ 9223372036854775807) (hn : ∀ n ∈ l, NoteOK n) :
    ∃ st' bv' s' sure', s21 [.ptr id 0, .lst (notesV l) t] st = some (.ret (.int .i64 ((jbegin room l).1 : Nat)), st') ∧ JAt st' id room bv' s' sure' ∧ JFr st st' id bv bv' ∧
      ((jbegin room l).1 = 0 → s' = (jbegin room l).2 ∧ sure' = s'.length) ∧ ((jbegin room l).1 ≠ 0 → s' = s ∧ sure' = sure) := by
  rw [s21_eq]
  unfold f21
  simp only [er1_ptr, given_s h.ob h.r1, ret_ret, un_not, Bool.not_true, guard_ff, er1_lst, er1_fn, jany_s l t hl hn]
  unfold jbegin
  cases ha : l.any oddP with
  | true =>
    simp only [cond_true, er1_int, if_true]
    exact ⟨st, bv, s, sure, rfl, h, JFr.refl _ _ _, fun g => (by cases g), fun _ => ⟨rfl, rfl⟩⟩
  | false =>
    simp only [cond_false, Bool.false_eq_true, if_false]
    unfold g21b111
    obtain ⟨l0, l1, l2⟩ := jload h.ob
    have b : ∀ K, A.build [.int .i64 0, .lst [] 1, .int .i64 0] [(0, 1, .int .i64 (room : Nat))] K = K (.agg (jC room (.lst [] 1) 0)) := fun K => rfl
    have bx : ∀ K, A.box (.agg (jC room (.lst [] 1) 0)) st K = K (.ptr st.n 0) (st.new (.cells (jC room (.lst [] 1) 0))) := fun K => rfl
    simp only [nilc_ptr, faddr_ptr, Nat.zero_add, l0, b, bx, lenL_lst, notesV_len]
    have := jbegin_loop l t hl hn h (nx := st.n) (Nat.le_refl _) big 0 _ _ [] (by omega) (lt_big (by omega)) (Old.new st _) (new_at_j room h.r1 h.r2 st) (fun j g => g.elim)
    rwa [List.drop_zero] at this
/-! ### journals that nobody made -/
structure JNo (st : St) (v : V) : Prop where
  v : v = .ptr0 ∨ ∃ p, v = .ptr p 0 ∧ st.ob p = some (.cells (jC 0 (.lst [] 1) 0)) ∧ p < st.n
theorem JNo.old {st st' : St} {v : V} (h : JNo st v) (k : Old st st') : JNo st' v := by
  rcases h.v with g | ⟨p, g1, g2, g3⟩
  · exact ⟨.inl g⟩
  · exact ⟨.inr ⟨p, g1, by rw [k.ob p g3]; exact g2, Nat.lt_of_lt_of_le g3 k.n⟩⟩
theorem JNo.er1 {st : St} {v : V} (h : JNo st v) : v.er1 = v := by
  rcases h.v with g | ⟨p, g1, _, _⟩ <;> (first | rw [g] | rw [g1]) <;> rfl
theorem no_given {st : St} {v : V} (h : JNo st v) : s23 [v] st = some (.ret (.bool false), st) := by
  rw [s23_eq]
  unfold f23
  rcases h.v with rfl | ⟨p, rfl, h2, _⟩
  · simp only [eql_ptr0, Bool.not_true, guard_ft, er1_bool]
  · obtain ⟨l0, l1, l2⟩ := jload h2
    simp only [eql_ptr, guard_tt, nilc_ptr, faddr_ptr, Nat.zero_add, l0, bin_gtr, Int.lt_irrefl, show ¬ ((0 : Int) < ((0 : Nat) : Int)) from by omega, decide_false, er1_bool]
theorem no_size {st : St} {v : V} (h : JNo st v) : s17 [v] st = some (.ret (.tup [.int .i64 0, .int .i64 0]), st) := by
  rw [s17_eq]
  unfold f17
  simp only [h.er1, no_given h, ret_ret, un_not, Bool.not_false, cond_true, er1_int]
theorem no_sure {st : St} {v : V} (h : JNo st v) : s13 [v] st = some (.ret (.int .i64 1), st) := by
  rw [s13_eq]
  unfold f13
  simp only [h.er1, no_given h, ret_ret, un_not, Bool.not_false, cond_true, er1_int]
theorem no_notes {st : St} {v : V} (h : JNo st v) : s15 [v] st = some (.ret (.lst [] 1), st) := by
  rw [s15_eq]
  unfold f15
  simp only [h.er1, no_given h, ret_ret, un_not, Bool.not_false, cond_true, er1_lst]
theorem no_fail {st : St} {v : V} (h : JNo st v) (k : V) : s14 [v, k] st = some (.ret (.int .i64 1), st) := by
  rw [s14_eq]
  unfold f14
  simp only [h.er1, no_given h, ret_ret, un_not, Bool.not_false, cond_true, er1_int]
theorem no_begin {st : St} {v : V} (h : JNo st v) (l : V) : s21 [v, l] st = some (.ret (.int .i64 1), st) := by
  rw [s21_eq]
  unfold f21
  simp only [h.er1, no_given h, ret_ret, un_not, Bool.not_false, guard_tf, er1_int]
theorem no_write {st : St} {v : V} (h : JNo st v) (n : Note) (hn : NoteOK n) : ∃ st', s12 [v, noteV n] st = some (.ret (.int .i64 1), st') ∧ Old st st' := by
  rw [s12_eq]
  unfold f12
  have bx : ∀ K, A.box (noteV n) st K = K (.ptr st.n 0) (st.new (.cells (noteC n))) := fun K => rfl
  have hob := new_at st (.cells (noteC n))
  have hnv : (V.agg (noteC n)).er1 = noteV n := rfl
  have k := Old.new st (.cells (noteC n))
  have h1 := h.old k
  simp only [bx, load_noteb hob, hnv, pack_s n hn, ret_ret, h.er1, no_given h1, un_not, Bool.not_false, guard_tf]
  refine ⟨_, ?_, k⟩
  cases packOK n <;> simp only [Bool.false_eq_true, if_false, if_true, P2, ext_0, ext_1] <;> unfold g12b11001 <;> simp only [cond_true, er1_int]
end Go.Ab
