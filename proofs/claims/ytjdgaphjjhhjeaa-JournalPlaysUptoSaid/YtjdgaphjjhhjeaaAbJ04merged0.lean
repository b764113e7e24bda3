import Derived.Test.YtjdgaphjjhhjeaaAbX04d
import Derived.Test.YtjdgaphjjhhjeaaAbX04b
import Derived.Test.YtjdgaphjjhhjeaaAbX04e
import Derived.Test.YtjdgaphjjhhjeaaAbPairC
/- sinew/journal: what each function does. -/
namespace Go.Ab
open Go.Proofs Go.RowKit Go.Oct
set_option linter.unusedVariables false
set_option linter.unusedSimpArgs false
/-- Which object a value of bytes is. -/
def owns : V → Nat → Prop
  | .sl b _ _ _, i => i = b
  | _, _ => False
def jC (room : Nat) (bv : V) (sure : Nat) : List V := [.int .i64 (room : Nat), bv, .int .i64 (sure : Nat)]
/-- A journal's bytes. -/
def BytesAt (st : St) (id : Nat) (bv : V) (s : List UInt8) : Prop := (s = [] ∧ bv = .lst [] 1) ∨ ∃ b rest, bv = .sl b 0 s.length 1 ∧ st.ob b = some (.cells (bytV (s ++ rest))) ∧ b ≠ id ∧ b < st.n
structure JAt (st : St) (id room : Nat) (bv : V) (s : List UInt8) (sure : Nat) : Prop where
  ob : st.ob id = some (.cells (jC room bv sure))
  lt : id < st.n
  b : BytesAt st id bv s
  le : sure ≤ s.length
  r1 : 1 ≤ room
  r2 : room ≤ 67108864
  full : s.length ≤ room
/-- What else there was is there. -/
structure JFr (st st' : St) (id : Nat) (bv bv' : V) : Prop where
  tk : st'.tk = st.tk
  nt : st'.nt = st.nt
  n : st.n ≤ st'.n
  ob : ∀ i, i < st.n → i ≠ id → ¬ owns bv i → st'.ob i = st.ob i
  own : ∀ i, owns bv' i → owns bv i ∨ st.n ≤ i
theorem JFr.refl (st : St) (id : Nat) (bv : V) : JFr st st id bv bv := ⟨rfl, rfl, Nat.le_refl _, fun _ _ _ _ => rfl, fun _ h => .inl h⟩
theorem JFr.trans {a b c : St} {id : Nat} {u v w : V} (h : JFr a b id u v) (k : JFr b c id v w) : JFr a c id u w := by
  refine ⟨k.tk.trans h.tk, k.nt.trans h.nt, Nat.le_trans h.n k.n, fun i hi hd ho => ?_, fun i hi => ?_⟩
  · rw [k.ob i (Nat.lt_of_lt_of_le hi h.n) hd (fun g => ?_), h.ob i hi hd ho]
    rcases h.own i g with q | q
    · exact ho q
    · omega
  · rcases k.own i hi with q | q
    · exact h.own i q
    · exact .inr (Nat.le_trans h.n q)
theorem BytesAt.len {st : St} {id : Nat} {bv : V} {s : List UInt8} (h : BytesAt st id bv s) (K : V → Res) : A.lenL bv K = K (.int .i64 (s.length : Nat)) := by
  rcases h with ⟨rfl, rfl⟩ | ⟨b, rest, rfl, _, _, _⟩ <;> rfl
theorem BytesAt.one {st : St} {id : Nat} {bv : V} {s : List UInt8} (h : BytesAt st id bv s) : bv.one = true := by
  rcases h with ⟨rfl, rfl⟩ | ⟨b, rest, rfl, _, _, _⟩ <;> rfl
theorem BytesAt.slice {st : St} {id : Nat} {bv : V} {s : List UInt8} (h : BytesAt st id bv s) {k : Nat} (hk : k ≤ s.length) :
    ∃ bv', (∀ K, A.slice 1 bv none (some (.int .i64 (k : Nat))) none K = K bv') ∧ BytesAt st id bv' (s.take k) ∧ (∀ i, owns bv' i → owns bv i) := by
  rcases h with ⟨rfl, rfl⟩ | ⟨b, rest, rfl, h1, h2, h3⟩
  · have : k = 0 := by simpa using hk
    subst this
    exact ⟨.lst [] 1, fun K => rfl, .inl ⟨rfl, rfl⟩, fun i h => h⟩
  · refine ⟨.sl b 0 k 1, fun K => by simp [A.slice, bnd, hk], .inr ⟨b, s.drop k ++ rest, by rw [List.length_take, Nat.min_eq_left hk], ?_, h2, h3⟩, fun i h => h⟩
    rw [← List.append_assoc, List.take_append_drop]; exact h1
theorem BytesAt.str {st : St} {id : Nat} {bv : V} {s : List UInt8} (h : BytesAt st id bv s) (K : V → Res) : A.toStr bv st K = K (.str s) := by
  rcases h with ⟨rfl, rfl⟩ | ⟨b, rest, rfl, h1, h2, h3⟩
  · rfl
  · have h4 : (1 = 1 ∧ 0 + s.length ≤ (bytV (s ++ rest)).length) := ⟨rfl, by rw [bytV_len, List.length_append]; omega⟩
    have h5 : ((bytV (s ++ rest)).drop 0).take s.length = bytV s := by
      rw [List.drop_zero, bytV_append, List.take_left' (by rw [bytV_len])]
    simp only [A.toStr, h1, h4, and_self, if_true, h5, byteL_bytV]
theorem JAt.str {st : St} {id room sure : Nat} {bv : V} {s : List UInt8} (h : JAt st id room bv s sure) : s.length ≤ 67108864 := Nat.le_trans h.full h.r2
theorem jload {st : St} {id room sure : Nat} {bv : V} (h : st.ob id = some (.cells (jC room bv sure))) : (∀ K, A.load false 1 (.ptr id 0) st K = K (.int .i64 (room : Nat)) st) ∧ (∀ K, A.load false 1 (.ptr id 1) st K = K bv st) ∧ (∀ K, A.load false 1 (.ptr id 2) st K = K (.int .i64 (sure : Nat)) st) := by
  refine ⟨fun K => ?_, fun K => ?_, fun K => ?_⟩ <;> simp [h, jC]
theorem given_s {st : St} {id room sure : Nat} {bv : V} (h : st.ob id = some (.cells (jC room bv sure))) (hr : 1 ≤ room) : s23 [.ptr id 0] st = some (.ret (.bool true), st) := by
  rw [s23_eq]
  unfold f23
  obtain ⟨l0, l1, l2⟩ := jload h
  simp only [eql_ptr, guard_tt, nilc_ptr, faddr_ptr, Nat.zero_add, l0, bin_gtr, show ((0 : Int) < (room : Int)) from by omega, decide_true, er1_bool]
theorem new_s (r : Nat) (h1 : 1 ≤ r) (h2 : r ≤ 67108864) (st : St) : s9 [.int .i64 (r : Nat)] st = some (.ret (.tup [.ptr st.n 0, .int .i64 0]), st.new (.cells (jC r (.lst [] 1) 0))) := by
  rw [s9_eq]
  unfold f9
  simp only [bin_lss, show ¬ ((r : Int) < 1) from by omega, decide_false, guard_ff, bin_gtr, show ¬ ((67108864 : Int) < (r : Int)) from by omega, cond_false]
  unfold g9b11
  have b : ∀ K, A.build [.int .i64 0, .lst [] 1, .int .i64 0] [(0, 1, .int .i64 (r : Nat))] K = K (.agg (jC r (.lst [] 1) 0)) := fun K => rfl
  have bx : ∀ K, A.box (.agg (jC r (.lst [] 1) 0)) st K = K (.ptr st.n 0) (st.new (.cells (jC r (.lst [] 1) 0))) := fun K => rfl
  simp only [b, bx, er1_ptr, er1_int]
theorem new_at_j (r : Nat) (h1 : 1 ≤ r) (h2 : r ≤ 67108864) (st : St) : JAt (st.new (.cells (jC r (.lst [] 1) 0))) st.n r (.lst [] 1) [] 0 :=
  ⟨by simp, by simp, .inl ⟨rfl, rfl⟩, by simp, h1, h2, by simp⟩
theorem jsize_s {st : St} {id room sure : Nat} {bv : V} {s : List UInt8} (h : JAt st id room bv s sure) : s17 [.ptr id 0] st = some (.ret (.tup [.int .i64 (s.length : Nat), .int .i64 (sure : Nat)]), st) := by
  rw [s17_eq]
  unfold f17
  obtain ⟨l0, l1, l2⟩ := jload h.ob
  simp only [er1_ptr, given_s h.ob h.r1, ret_ret, un_not, Bool.not_true, cond_false, nilc_ptr, faddr_ptr, Nat.zero_add, l1, h.b.len, l2, er1_int]
theorem jnotes_s {st : St} {id room sure : Nat} {bv : V} {s : List UInt8} (h : JAt st id room bv s sure) : s15 [.ptr id 0] st = some (.ret (.lst (notesV (allN s).1) 0), st) := by
  rw [s15_eq]
  unfold f15
  obtain ⟨l0, l1, l2⟩ := jload h.ob
  obtain ⟨a1, _⟩ := all_s s (by have := h.str; omega) st
  simp only [er1_ptr, given_s h.ob h.r1, ret_ret, un_not, Bool.not_true, cond_false, nilc_ptr, faddr_ptr, Nat.zero_add, l1, h.b.str, er1_str, a1, A2, ext_0, ext_1, er1_lst]
theorem jsure_s {st : St} {id room sure : Nat} {bv : V} {s : List UInt8} (h : JAt st id room bv s sure) : s13 [.ptr id 0] st = some (.ret (.int .i64 0), st.put id (.cells (jC room bv s.length))) := by
  rw [s13_eq]
  unfold f13
  obtain ⟨l0, l1, l2⟩ := jload h.ob
  have e : (jC room bv sure).set 2 (.int .i64 (s.length : Nat)) = jC room bv s.length := rfl
  simp only [er1_ptr, given_s h.ob h.r1, ret_ret, un_not, Bool.not_true, cond_false, nilc_ptr, faddr_ptr, Nat.zero_add, l1, h.b.len, store_int, h.ob, obo_some, show 2 < (jC room bv sure).length from by simp [jC], if_true, e, er1_int]
theorem BytesAt.put {st : St} {id : Nat} {bv : V} {s : List UInt8} (h : BytesAt st id bv s) (cs : List V) : BytesAt (st.put id (.cells cs)) id bv s := by
  rcases h with h | ⟨b, rest, h1, h2, h3, h4⟩
  · exact .inl h
  · exact .inr ⟨b, rest, h1, by rw [put_ne _ _ h3]; exact h2, h3, h4⟩
theorem JAt.sure {st : St} {id room sure : Nat} {bv : V} {s : List UInt8} (h : JAt st id room bv s sure) : JAt (st.put id (.cells (jC room bv s.length))) id room bv s s.length ∧ JFr st (st.put id (.cells (jC room bv s.length))) id bv bv :=
  ⟨⟨put_at _ _ _, h.lt, h.b.put _, Nat.le_refl _, h.r1, h.r2, h.full⟩, ⟨rfl, rfl, Nat.le_refl _, fun i _ hd _ => put_ne _ _ hd, fun i h => .inl h⟩⟩
/-- What Write does. -/
def jwrite (room : Nat) (s : List UInt8) (n : Note) : Nat × List UInt8 := if packOK n = true then (if room < s.length + (packB n).length then (40, s) else (0, s ++ packB n)) else (1, s)
theorem BytesAt.new {st : St} {id : Nat} {bv : V} {s : List UInt8} (h : BytesAt st id bv s) (o : Ob) : BytesAt (st.new o) id bv s := by
  rcases h with h | ⟨b, rest, h1, h2, h3, h4⟩
  · exact .inl h
  · exact .inr ⟨b, rest, h1, by rw [new_ne _ _ (by omega)]; exact h2, h3, by rw [new_n]; omega⟩
theorem JAt.new {st : St} {id room sure : Nat} {bv : V} {s : List UInt8} (h : JAt st id room bv s sure) (o : Ob) : JAt (st.new o) id room bv s sure ∧ JFr st (st.new o) id bv bv := by
  have := h.lt
  exact ⟨⟨by rw [new_ne _ _ (by omega)]; exact h.ob, by rw [new_n]; omega, h.b.new o, h.le, h.r1, h.r2, h.full⟩, ⟨rfl, rfl, by simp, fun i hi _ _ => new_ne _ _ (by omega), fun i h => .inl h⟩⟩
theorem all_bytV (s : List UInt8) : (bytV s).all V.one = true := List.all_eq_true.2 (bytV_one s)
theorem flat_bytV (s : List UInt8) : flat (bytV s) = bytV s := by
  induction s with
  | nil => rfl
  | cons b s ih => simp only [bytV, flat, List.map_cons, List.flatMap_cons, cells_int] at ih ⊢; rw [ih]; rfl
/-- Bytes are appended. -/
theorem jappend {st : St} {id room sure : Nat} {bv : V} {s x : List UInt8} (h : JAt st id room bv s sure) (hx : x ≠ []) (hf : s.length + x.length ≤ room) : ∃ bv' st', (∀ K, A.appM 1 bv (some (bytV x)) st K = K bv' st') ∧ st'.ob id = some (.cells (jC room bv sure)) ∧ id < st'.n ∧ BytesAt st' id bv' (s ++ x) ∧
    st'.tk = st.tk ∧ st'.nt = st.nt ∧ st.n ≤ st'.n ∧ (∀ i, i < st.n → i ≠ id → ¬ owns bv i → st'.ob i = st.ob i) ∧ (∀ i, owns bv' i → owns bv i ∨ st.n ≤ i) := by
  have hr2 := h.r2
  have hlt := h.lt
  have hxn : bytV x ≠ [] := by cases x with | nil => exact absurd rfl hx | cons _ _ => simp [bytV]
  rcases h.b with ⟨rfl, rfl⟩ | ⟨b, rest, rfl, h1, h2, h3⟩
  · refine ⟨.sl st.n 0 x.length 1, st.new (.cells (bytV x)), fun K => ?_, by rw [new_ne _ _ (by omega)]; exact h.ob, by rw [new_n]; omega, .inr ⟨st.n, [], by simp, by simp, by omega, by simp⟩, rfl, rfl, by simp, fun i hi _ _ => new_ne _ _ (by omega), fun i hi => .inr (by cases hi; exact Nat.le_refl _)⟩
    simp only [List.length_nil, Nat.zero_add] at hf
    have c : ([] : List V).length + (bytV x).length ≤ 1073741824 ∧ szok 1 [] = true ∧ (1 = 1 ∨ 1 = 2) ∧ bytV x ≠ [] := ⟨by simp; omega, rfl, .inl rfl, hxn⟩
    have e : flat [] ++ flat (bytV x) = bytV x := by rw [flat_bytV]; rfl
    simp only [A.appM, c, and_self, if_true, e, List.length_nil, Nat.zero_add, bytV_len]
    rw [if_pos (by simpa using c)]
  · have hne : st.n ≠ id := by omega
    refine ⟨.sl st.n 0 (s ++ x).length 1, (st.del b).new (.cells (bytV (s ++ x))), fun K => ?_, ?_, by rw [new_n, del_n]; omega, .inr ⟨st.n, [], rfl, by rw [List.append_nil]; show (if st.n = (st.del b).n then _ else _) = _; rw [del_n, if_pos rfl], hne, by rw [new_n, del_n]; omega⟩, rfl, rfl, by rw [new_n, del_n]; omega, fun i hi hd ho => ?_, fun i hi => .inr (by cases hi; exact Nat.le_refl _)⟩
    · have e1 : (bytV (s ++ rest)).take (s.length * 1) = bytV s := by
        rw [Nat.mul_one, bytV_append, List.take_left' (by rw [bytV_len])]
      have c : s.length + (bytV x).length ≤ 1073741824 ∧ True ∧ True ∧ s.length * 1 ≤ (bytV (s ++ rest)).length ∧ (0 < s.length ∨ bytV x ≠ []) ∧ ((bytV (s ++ rest)).take (s.length * 1)).all V.one = true :=
        ⟨by rw [bytV_len]; omega, trivial, trivial, by rw [bytV_len, List.length_append]; omega, .inr hxn, by rw [e1]; exact all_bytV s⟩
      simp only [A.appM, h1]
      rw [if_pos c, e1, flat_bytV, bytV_len, ← bytV_append, List.length_append]
    · show (if id = (st.del b).n then _ else (st.del b).ob id) = _
      rw [del_n, if_neg (by omega), del_ob, if_neg (Ne.symm h2)]; exact h.ob
    · show (if i = (st.del b).n then _ else (st.del b).ob i) = _
      rw [del_n, if_neg (by omega), del_ob, if_neg (fun g => ho (by rw [g]; exact rfl))]
theorem jwrite_s {st : St} {id room sure : Nat} {bv : V} {s : List UInt8} (h : JAt st id room bv s sure) (n : Note) (hn : NoteOK n) :
    ∃ st' bv', s12 [.ptr id 0, noteV n] st = some (.ret (.int .i64 ((jwrite room s n).1 : Nat)), st') ∧ JAt st' id room bv' (jwrite room s n).2 sure ∧ JFr st st' id bv bv' := by
  rw [s12_eq]
  unfold f12
  have bx : ∀ K, A.box (noteV n) st K = K (.ptr st.n 0) (st.new (.cells (noteC n))) := fun K => rfl
  have hob := new_at st (.cells (noteC n))
  have hnv : (V.agg (noteC n)).er1 = noteV n := rfl
  obtain ⟨h1, fr⟩ := h.new (.cells (noteC n))
  simp only [bx, load_noteb hob, hnv, pack_s n hn, ret_ret, er1_ptr, given_s h1.ob h1.r1, un_not, Bool.not_true, guard_ff]
  generalize st.new (.cells (noteC n)) = st1 at h1 fr
  obtain ⟨l0, l1, l2⟩ := jload h1.ob
  unfold jwrite
  have hstr := h.str
  have hr2 := h.r2
  cases hp : packOK n with
  | false =>
    simp only [Bool.false_eq_true, if_false, P2, ext_0, ext_1, eql_int, if_true, show (((1 : Nat) : Int) != 0) = true from rfl]
    unfold g12b11001
    simp only [cond_true, er1_int]
    exact ⟨st1, bv, rfl, h1, fr⟩
  | true =>
    have hpl := packB_le hp
    have hpn : packB n ≠ [] := fun g => by have := packB_len n; rw [g] at this; simp at this; omega
    simp only [if_true, P2, ext_0, ext_1, eql_int, show (((0 : Nat) : Int) != 0) = false from rfl]
    unfold g12b11001
    have ea : ∀ K, A.bin .add (.int .i64 (s.length : Nat)) (.int .i64 ((packB n).length : Nat)) K = K (.int .i64 ((s.length + (packB n).length : Nat) : Int)) := fun K => bin_addN _ _ K (by omega)
    simp only [cond_false, nilc_ptr, faddr_ptr, Nat.zero_add, l1, h1.b.len, lenS_str, ea, l0, bin_gtr]
    by_cases hc : room < s.length + (packB n).length
    · simp only [show ((room : Int) < ((s.length + (packB n).length : Nat) : Int)) from by omega, decide_true, cond_true, er1_int, if_pos hc]
      exact ⟨st1, bv, rfl, h1, fr⟩
    · simp only [show ¬ ((room : Int) < ((s.length + (packB n).length : Nat) : Int)) from by omega, decide_false, cond_false, if_neg hc]
      unfold g12b111
      obtain ⟨bv', st2, q1, q2, q3, q4, q5, q6, q7, q8, q9⟩ := jappend h1 hpn (by omega)
      have hone := q4.one
      have e : (jC room bv sure).set 1 bv' = jC room bv' sure := rfl
      simp only [nilc_ptr, faddr_ptr, Nat.zero_add, l1, elemsOf_str, q1]
      rw [store_ob _ _ _ _ _ hone, q2, obo_some, if_pos (show 1 < (jC room bv sure).length by simp [jC]), e]
      have le := h.le
      refine ⟨_, bv', rfl, ⟨put_at _ _ _, q3, q4.put _, by rw [List.length_append]; omega, h.r1, h.r2, by rw [List.length_append]; omega⟩, ?_⟩
      refine fr.trans ⟨by rw [put_tk]; exact q5, by rw [put_nt]; exact q6, by rw [put_n]; exact q7, fun i hi hd ho => ?_, q9⟩
      rw [put_ne _ _ hd]; exact q8 i hi hd ho
end Go.Ab

/- sinew/journal: Fail and Begin. -/
namespace Go.Ab
open Go.Proofs Go.RowKit Go.Oct
set_option linter.unusedVariables false
set_option linter.unusedSimpArgs false
theorem jsure_w {st : St} {id room sure : Nat} {bv : V} {s : List UInt8} (hob : st.ob id = some (.cells (jC room bv sure))) (hr : 1 ≤ room) (hb : BytesAt st id bv s) : s13 [.ptr id 0] st = some (.ret (.int .i64 0), st.put id (.cells (jC room bv s.length))) := by
  rw [s13_eq]
  unfold f13
  obtain ⟨l0, l1, l2⟩ := jload hob
  have e : (jC room bv sure).set 2 (.int .i64 (s.length : Nat)) = jC room bv s.length := rfl
  simp only [er1_ptr, given_s hob hr, ret_ret, un_not, Bool.not_true, cond_false, nilc_ptr, faddr_ptr, Nat.zero_add, l1, hb.len, store_int, hob, obo_some, show 2 < (jC room bv sure).length from by simp [jC], if_true, e, er1_int]
theorem allN_le (s : List UInt8) : (allN s).2 ≤ s.length := (all_back s (s.length + 1) 0 [] (by omega) (by simp [packsB]) (by simp)).2.1
/-- How many bytes survive. -/
def jkeep (s : List UInt8) (sure : Nat) (keep : Int) : Nat := sure + keep.toNat % (s.length - sure + 1)
theorem jkeep_le {s : List UInt8} {sure : Nat} (h : sure ≤ s.length) (keep : Int) : jkeep s sure keep ≤ s.length := by
  unfold jkeep
  have := Nat.mod_lt keep.toNat (show 0 < s.length - sure + 1 by omega)
  omega
def jfail (s : List UInt8) (sure : Nat) (keep : Int) : List UInt8 := s.take (allN (s.take (jkeep s sure keep))).2
theorem jfail_s {st : St} {id room sure : Nat} {bv : V} {s : List UInt8} (h : JAt st id room bv s sure) (keep : Int) (hk : keep ≤ 9223372036854775807) :
    ∃ st' bv', s14 [.ptr id 0, .int .i64 keep] st = some (.ret (.int .i64 0), st') ∧ JAt st' id room bv' (jfail s sure keep) (jfail s sure keep).length ∧ JFr st st' id bv bv' := by
  rw [s14_eq]
  unfold f14
  obtain ⟨l0, l1, l2⟩ := jload h.ob
  have hle := h.le
  have hstr := h.str
  have e1 : ∀ K, A.max (.int .i64 keep) (.int .i64 0) K = K (.int .i64 (keep.toNat : Nat)) := fun K => by
    have : (if (0 : Int) > keep then 0 else keep) = ((keep.toNat : Nat) : Int) := by split <;> omega
    show K (.int .i64 (if (0 : Int) > keep then 0 else keep)) = _
    rw [this]
  have e2 : ∀ K, A.bin .sub (.int .i64 (s.length : Nat)) (.int .i64 (sure : Nat)) K = K (.int .i64 ((s.length - sure : Nat) : Int)) := fun K => bin_subN _ _ K hle (by omega)
  have e3 : ∀ K, A.bin .add (.int .i64 (s.length - sure : Nat)) (.int .i64 1) K = K (.int .i64 ((s.length - sure + 1 : Nat) : Int)) := fun K => bin_inc (by omega) K
  have e4 : ∀ K, A.bin .rem (.int .i64 (keep.toNat : Nat)) (.int .i64 (s.length - sure + 1 : Nat)) K = K (.int .i64 ((keep.toNat % (s.length - sure + 1) : Nat) : Int)) := fun K => bin_remN _ _ K (by omega)
  have hm := Nat.mod_lt keep.toNat (show 0 < s.length - sure + 1 by omega)
  have e5 : ∀ K, A.bin .add (.int .i64 (sure : Nat)) (.int .i64 (keep.toNat % (s.length - sure + 1) : Nat)) K = K (.int .i64 (jkeep s sure keep : Nat)) := fun K => bin_addN _ _ K (by omega)
  simp only [er1_ptr, given_s h.ob h.r1, ret_ret, un_not, Bool.not_true, cond_false, e1, nilc_ptr, faddr_ptr, Nat.zero_add, l1, h.b.len, l2, e2, e3, e4]
  unfold g14b111
  have hkl := jkeep_le hle keep
  obtain ⟨b2, q1, q2, q3⟩ := h.b.slice hkl
  obtain ⟨a1, _⟩ := all_s (s.take (jkeep s sure keep)) (by rw [List.length_take]; omega) st
  simp only [nilc_ptr, faddr_ptr, Nat.zero_add, l1, l2, e5, q1, q2.str, kid_eq, noP_ret, ret_ret, er1_str, a1, ret_ret, A2, ext_0, ext_1]
  unfold g14b1111
  have hw := allN_le (s.take (jkeep s sure keep))
  rw [List.length_take, Nat.min_eq_left hkl] at hw
  obtain ⟨b3, r1, r2, r3⟩ := h.b.slice (show (allN (s.take (jkeep s sure keep))).2 ≤ s.length by omega)
  have e6 : (jC room bv sure).set 1 b3 = jC room b3 sure := rfl
  simp only [nilc_ptr, faddr_ptr, Nat.zero_add, l1, r1]
  rw [store_ob _ _ _ _ _ r2.one, h.ob, obo_some, if_pos (show 1 < (jC room bv sure).length by simp [jC]), e6]
  have hl : (s.take (allN (s.take (jkeep s sure keep))).2).length ≤ s.length := by rw [List.length_take]; omega
  simp only [er1_ptr, jsure_w (put_at st id (.cells (jC room b3 sure))) h.r1 (r2.put _), ret_ret, er1_int, put_put]
  have hf := h.full
  refine ⟨_, b3, rfl, ⟨put_at _ _ _, h.lt, r2.put _, Nat.le_refl _, h.r1, h.r2, by unfold jfail; omega⟩, ⟨rfl, rfl, Nat.le_refl _, fun i _ hd _ => put_ne _ _ hd, fun i hi => .inl (r3 i hi)⟩⟩
/-- Is a note odd? -/
def oddP (n : Note) : Bool := !packOK n
theorem jodd_s (n : Note) (hn : NoteOK n) (st : St) : s30 [noteV n] st = some (.ret (.bool (oddP n)), st) := by
  rw [s30_eq]
  refine fg_of (st' := st.new (.cells (noteC n))) (v := .bool (oddP n)) ?_ ((Ks.refl st).new _) rfl
  unfold f30
  have bx : ∀ K, A.box (noteV n) st K = K (.ptr st.n 0) (st.new (.cells (noteC n))) := fun K => rfl
  have hnv : (V.agg (noteC n)).er1 = noteV n := rfl
  simp only [bx, load_noteb (new_at st _), hnv, check_s n hn, ret_ret, eql_int, if_true, oddP, er1_bool]
  cases packOK n <;> rfl
theorem jidx_loop (l : List Note) (t : Nat) (hl : l.length ≤ 9223372036854775807) (hn : ∀ n ∈ l, NoteOK n) (st : St) : ∀ (f i : Nat), i ≤ l.length → l.length < f + i →
    ∃ x : Int, g41b1010 f (.lst (notesV l) t) (.fn 30 [] []) (.int .i64 (l.length : Nat)) (.int .i64 (i : Nat)) st = some (.ret (.int .i64 x), st) ∧ (0 ≤ x ↔ (l.drop i).any oddP = true) := by
  intro f
  induction f with
  | zero => intro i hi hf; omega
  | succ f ih =>
    intro i hi hf
    unfold g41b1010
    by_cases h : i < l.length
    · have e4 : ∀ K, A.bin .add (.int .i64 (i : Nat)) (.int .i64 1) K = K (.int .i64 ((i + 1 : Nat) : Int)) := fun K => bin_inc (by omega) K
      have ec : ∀ (n : Note) K, A.call g41T (.fn 30 [] []) [noteV n] st K = A.ret (s30 [noteV n] st) K := fun n K => rfl
      rw [List.drop_eq_getElem_cons h, List.any_cons]
      simp only [bin_lss, show ((i : Int) < (l.length : Int)) from by omega, decide_true, cond_true, iaddr_notes t h, load_note, ec, jodd_s _ (hn _ (List.getElem_mem h)), ret_ret]
      cases hb : oddP l[i] with
      | true => simp only [cond_true, er1_int]; exact ⟨i, rfl, by simp⟩
      | false =>
        simp only [cond_false, e4]
        obtain ⟨x, h1, h2⟩ := ih (i + 1) (by omega) (by omega)
        exact ⟨x, h1, by simpa using h2⟩
    · have : i = l.length := by omega
      subst this
      simp only [bin_lss, Int.lt_irrefl, decide_false, cond_false, er1_int, List.drop_length, List.any_nil]
      exact ⟨-1, rfl, by simp⟩
theorem jany_s (l : List Note) (t : Nat) (hl : l.length ≤ 9223372036854775807) (hn : ∀ n ∈ l, NoteOK n) (st : St) : s32 [.lst (notesV l) t, .fn 30 [] []] st = some (.ret (.bool (l.any oddP)), st) := by
  obtain ⟨x, h1, h2⟩ := jidx_loop l t hl hn st big 0 (by omega) (lt_big (by omega))
  have h3 : s41 [.lst (notesV l) t, .fn 30 [] []] st = some (.ret (.int .i64 x), st) := by
    rw [s41_eq]
    refine fg_of (st' := st) (v := .int .i64 x) ?_ (Ks.refl st) rfl
    unfold f41
    simp only [lenL_lst, notesV_len]
    exact h1
  rw [s32_eq]
  refine fg_of (st' := st) (v := .bool (l.any oddP)) ?_ (Ks.refl st) rfl
  unfold f32
  have : decide (0 ≤ x) = l.any oddP := by
    rw [List.drop_zero] at h2
    cases hb : l.any oddP with
    | true => exact decide_eq_true (h2.2 hb)
    | false => exact decide_eq_false (fun g => by rw [h2.1 g] at hb; cases hb)
  simp only [er1_lst, er1_fn, h3, ret_ret, bin_geq, this, er1_bool]
end Go.Ab

/- sinew/journal: Begin. -/
namespace Go.Ab
open Go.Proofs Go.RowKit Go.Oct
set_option linter.unusedVariables false
set_option linter.unusedSimpArgs false
/-- All that was there is there. -/
structure Old (st st' : St) : Prop where
  tk : st'.tk = st.tk
  nt : st'.nt = st.nt
  n : st.n ≤ st'.n
  ob : ∀ i, i < st.n → st'.ob i = st.ob i
theorem Old.refl (st : St) : Old st st := ⟨rfl, rfl, Nat.le_refl _, fun _ _ => rfl⟩
theorem Old.trans {a b c : St} (h : Old a b) (k : Old b c) : Old a c :=
  ⟨k.tk.trans h.tk, k.nt.trans h.nt, Nat.le_trans h.n k.n, fun i hi => (k.ob i (Nat.lt_of_lt_of_le hi h.n)).trans (h.ob i hi)⟩
theorem Old.new (st : St) (o : Ob) : Old st (st.new o) := ⟨rfl, rfl, by simp, fun i hi => new_ne _ _ (by omega)⟩
theorem Old.newput (st : St) (o o' : Ob) : Old st ((st.new o).put st.n o') := ⟨rfl, rfl, by simp, fun i hi => by rw [put_ne _ _ (by omega), new_ne _ _ (by omega)]⟩
theorem BytesAt.old {st st' : St} {id : Nat} {bv : V} {s : List UInt8} (h : BytesAt st id bv s) (k : Old st st') : BytesAt st' id bv s := by
  rcases h with h | ⟨b, rest, h1, h2, h3, h4⟩
  · exact .inl h
  · exact .inr ⟨b, rest, h1, by rw [k.ob b h4]; exact h2, h3, Nat.lt_of_lt_of_le h4 k.n⟩
theorem JAt.old {st st' : St} {id room sure : Nat} {bv : V} {s : List UInt8} (h : JAt st id room bv s sure) (k : Old st st') : JAt st' id room bv s sure :=
  ⟨by rw [k.ob id h.lt]; exact h.ob, Nat.lt_of_lt_of_le h.lt k.n, h.b.old k, h.le, h.r1, h.r2, h.full⟩
theorem Old.fr {st st' : St} (k : Old st st') (id : Nat) (bv : V) : JFr st st' id bv bv := ⟨k.tk, k.nt, k.n, fun i hi _ _ => k.ob i hi, fun i h => .inl h⟩
/-- What lies behind a new journal's beginning. -/
theorem JFr.old {st0 st st' : St} {id : Nat} {bv : V} (h : JFr st st' id (.lst [] 1) bv) (h0 : st0.n ≤ id) (k : Old st0 st) : Old st0 st' :=
  ⟨h.tk.trans k.tk, h.nt.trans k.nt, Nat.le_trans k.n h.n, fun i hi => (h.ob i (Nat.lt_of_lt_of_le hi k.n) (by omega) (fun g => g)).trans (k.ob i hi)⟩
def jputs (room : Nat) : List Note → List UInt8 → Nat × List UInt8
  | [], s => (0, s)
  | n :: l, s => if (jwrite room s n).1 = 0 then jputs room l (jwrite room s n).2 else ((jwrite room s n).1, s)
def jbegin (room : Nat) (l : List Note) : Nat × List UInt8 := if l.any oddP = true then (1, []) else jputs room l []
theorem jload3 {st : St} {id room sure : Nat} {bv : V} (h : st.ob id = some (.cells (jC room bv sure))) (h1 : bv.one = true) (K : V → St → Res) : A.load true 3 (.ptr id 0) st K = K (.agg (jC room bv sure)) st := by
  rw [load_obA, h, obo_some]
  have : ones (jC room bv sure) = true := by simp [ones, jC, h1]
  rw [this]
  rfl
theorem jbegin_loop (l : List Note) (t : Nat) (hl : l.length ≤ 9223372036854775807) (hn : ∀ n ∈ l, NoteOK n) {st0 : St} {id nx room sure : Nat} {bv : V} {s0 : List UInt8} (h0 : JAt st0 id room bv s0 sure) (hnx : st0.n ≤ nx) :
    ∀ (f i : Nat) (st : St) (bx : V) (s : List UInt8), i ≤ l.length → l.length < f + i → Old st0 st → JAt st nx room bx s 0 → (∀ j, owns bx j → st0.n ≤ j) →
    ∃ st' bv' s' sure', g21b1111010 f (.ptr id 0) (.ptr nx 0) (.lst (notesV l) t) (.int .i64 (l.length : Nat)) (.int .i64 (i : Nat)) st = some (.ret (.int .i64 ((jputs room (l.drop i) s).1 : Nat)), st') ∧ JAt st' id room bv' s' sure' ∧ JFr st0 st' id bv bv' ∧
      ((jputs room (l.drop i) s).1 = 0 → s' = (jputs room (l.drop i) s).2 ∧ sure' = s'.length) ∧ ((jputs room (l.drop i) s).1 ≠ 0 → s' = s0 ∧ sure' = sure) := by
  intro f
  induction f with
  | zero => intro i st bx s hi hf; omega
  | succ f ih =>
    intro i st bx s hi hf ho hj hown
    unfold g21b1111010
    by_cases h : i < l.length
    · have e4 : ∀ K, A.bin .add (.int .i64 (i : Nat)) (.int .i64 1) K = K (.int .i64 ((i + 1 : Nat) : Int)) := fun K => bin_inc (by omega) K
      have hnv : ∀ n : Note, (V.agg (noteC n)).er1 = noteV n := fun n => rfl
      rw [List.drop_eq_getElem_cons h]
      have o1 := Old.newput st (.cells (nC 0 [] 1 [] 1 [] 1)) (.cells (noteC l[i]))
      have ob1 := put_at (st.new (.cells (nC 0 [] 1 [] 1 [] 1))) st.n (.cells (noteC l[i]))
      simp only [bin_lss, show ((i : Int) < (l.length : Int)) from by omega, decide_true, cond_true, iaddr_notes t h, load_note, box_zero, store_note (new_at st _)]
      generalize (st.new (.cells (nC 0 [] 1 [] 1 [] 1))).put st.n (.cells (noteC l[i])) = st1 at o1 ob1
      obtain ⟨st2, b2, r1, r2, r3⟩ := jwrite_s (hj.old o1) l[i] (hn _ (List.getElem_mem h))
      have o2 : Old st0 st2 := by
        have k := ho.trans o1
        refine ⟨r3.tk.trans k.tk, r3.nt.trans k.nt, Nat.le_trans k.n r3.n, fun j hj2 => ?_⟩
        rw [r3.ob j (Nat.lt_of_lt_of_le hj2 k.n) (by omega) (fun g => by have := hown j g; omega), k.ob j hj2]
      have hown2 : ∀ j, owns b2 j → st0.n ≤ j := fun j g => by
        rcases r3.own j g with q | q
        · exact hown j q
        · exact Nat.le_trans (ho.trans o1).n q
      simp only [load_noteb ob1, er1_ptr, hnv, r1, ret_ret, eql_int, if_true]
      unfold jputs
      by_cases hz : (jwrite room s l[i]).1 = 0
      · have e5 : (((jwrite room s l[i]).1 : Int) != 0) = false := by simp [hz]
        simp only [e5, cond_false, e4, if_pos hz]
        exact ih (i + 1) st2 b2 _ (by omega) (by omega) o2 r2 hown2
      · have e5 : (((jwrite room s l[i]).1 : Int) != 0) = true := by simp [hz]
        simp only [e5, cond_true, er1_int, if_neg hz]
        exact ⟨st2, bv, s0, sure, rfl, h0.old o2, o2.fr id bv, fun g => absurd g hz, fun _ => ⟨rfl, rfl⟩⟩
    · have : i = l.length := by omega
      subst this
      rw [List.drop_length]
      have hid : id ≠ nx := by have := h0.lt; omega
      have hone := hj.b.one
      have hobid : st.ob id = some (.cells (jC room bv sure)) := by rw [ho.ob id h0.lt]; exact h0.ob
      have ep : Go.Ab.putL (jC room bv sure) 0 (jC room bx 0) = jC room bx 0 := rfl
      have hb' : BytesAt (st.put id (.cells (jC room bx 0))) id bx s := by
        rcases hj.b with g | ⟨b, rest, g1, g2, g3, g4⟩
        · exact .inl g
        · have hb : b ≠ id := by have := hown b (by rw [g1]; exact rfl); have := h0.lt; omega
          exact .inr ⟨b, rest, g1, by rw [put_ne _ _ hb]; exact g2, hb, by rw [put_n]; exact g4⟩
      simp only [bin_lss, Int.lt_irrefl, decide_false, cond_false, nilc_ptr, jload3 hj.ob hone]
      rw [store_agg, hobid, obo_some, if_pos ⟨rfl, by simp [jC], by simp [jC, hone]⟩, ep]
      simp only [er1_ptr, jsure_w (put_at st id (.cells (jC room bx 0))) h0.r1 hb', ret_ret, er1_int, put_put]
      refine ⟨_, bx, s, s.length, rfl, ⟨put_at _ _ _, by rw [put_n]; exact Nat.lt_of_lt_of_le h0.lt ho.n, ?_, Nat.le_refl _, h0.r1, h0.r2, hj.full⟩, ⟨ho.tk, ho.nt, ho.n, fun j hj2 hd _ => by rw [put_ne _ _ hd, ho.ob j hj2], fun j g => .inr (hown j g)⟩, fun _ => ⟨rfl, rfl⟩, fun g => absurd rfl g⟩
      have := hb'.put (jC room bx s.length)
      rwa [put_put] at this
theorem jbegin_s {st : St} {id room sure : Nat} {bv : V} {s : List UInt8} (h : JAt st id room bv s sure) (l : List Note) (t : Nat) (hl : l.length ≤ 9223372036854775807) (hn : ∀ n ∈ l, NoteOK n) :
    ∃ st' bv' s' sure', s21 [.ptr id 0, .lst (notesV l) t] st = some (.ret (.int .i64 ((jbegin room l).1 : Nat)), st') ∧ JAt st' id room bv' s' sure' ∧ JFr st st' id bv bv' ∧
      ((jbegin room l).1 = 0 → s' = (jbegin room l).2 ∧ sure' = s'.length) ∧ ((jbegin room l).1 ≠ 0 → s' = s ∧ sure' = sure) := by
  rw [s21_eq]
  unfold f21
  simp only [er1_ptr, given_s h.ob h.r1, ret_ret, un_not, Bool.not_true, guard_ff, er1_lst, er1_fn, jany_s l t hl hn]
  unfold jbegin
  cases ha : l.any oddP with
  | true =>
    simp only [cond_true, er1_int, if_true]
    exact ⟨st, bv, s, sure, rfl, h, JFr.refl _ _ _, fun g => (by cases g), fun _ => ⟨rfl, rfl⟩⟩
  | false =>
    simp only [cond_false, Bool.false_eq_true, if_false]
    unfold g21b111
    obtain ⟨l0, l1, l2⟩ := jload h.ob
    have b : ∀ K, A.build [.int .i64 0, .lst [] 1, .int .i64 0] [(0, 1, .int .i64 (room : Nat))] K = K (.agg (jC room (.lst [] 1) 0)) := fun K => rfl
    have bx : ∀ K, A.box (.agg (jC room (.lst [] 1) 0)) st K = K (.ptr st.n 0) (st.new (.cells (jC room (.lst [] 1) 0))) := fun K => rfl
    simp only [nilc_ptr, faddr_ptr, Nat.zero_add, l0, b, bx, lenL_lst, notesV_len]
    have := jbegin_loop l t hl hn h (nx := st.n) (Nat.le_refl _) big 0 _ _ [] (by omega) (lt_big (by omega)) (Old.new st _) (new_at_j room h.r1 h.r2 st) (fun j g => g.elim)
    rwa [List.drop_zero] at this
/-! ### journals that nobody made -/
structure JNo (st : St) (v : V) : Prop where
  v : v = .ptr0 ∨ ∃ p, v = .ptr p 0 ∧ st.ob p = some (.cells (jC 0 (.lst [] 1) 0)) ∧ p < st.n
theorem JNo.old {st st' : St} {v : V} (h : JNo st v) (k : Old st st') : JNo st' v := by
  rcases h.v with g | ⟨p, g1, g2, g3⟩
  · exact ⟨.inl g⟩
  · exact ⟨.inr ⟨p, g1, by rw [k.ob p g3]; exact g2, Nat.lt_of_lt_of_le g3 k.n⟩⟩
theorem JNo.er1 {st : St} {v : V} (h : JNo st v) : v.er1 = v := by
  rcases h.v with g | ⟨p, g1, _, _⟩ <;> (first | rw [g] | rw [g1]) <;> rfl
end Go.Ab

/- sinewlaw04.JournalNobody, JournalRoom. -/
namespace Go.Ab
open Go.Proofs Go.RowKit Go.Oct
set_option linter.unusedVariables false
set_option linter.unusedSimpArgs false
set_option maxRecDepth 100000
/-! ### JournalRoom -/
/-- Notes that are packed, and few. -/
def GoodL (G : List Note) : Prop := ∀ n ∈ G, packOK n = true ∧ n.texts.length + lens n.rows ≤ 4096
theorem allN_full {G : List Note} (hG : GoodL G) : allN (packsB G) = (G, (packsB G).length) := by
  have := allN_cut hG (k := (packsB G).length) (j := G.length) (Nat.le_refl _) (Nat.le_refl _) (by rw [pl_all]; exact Nat.le_refl _) (.inl rfl)
  rw [List.take_length, List.take_length, pl_all] at this
  exact this
theorem GoodL.snoc {G : List Note} {n : Note} (h : GoodL G) (hp : packOK n = true) (hs : n.texts.length + lens n.rows ≤ 4096) : GoodL (G ++ [n]) := by
  intro m hm
  rcases List.mem_append.1 hm with g | g
  · exact h m g
  · rw [List.mem_singleton.1 g]; exact ⟨hp, hs⟩
def roomN (k : Nat) : Note := ⟨1, [], [List.replicate k 0], []⟩
end Go.Ab

/- sinewlaw04.JournalTwice. -/
namespace Go.Ab
open Go.Proofs Go.RowKit Go.Oct
set_option linter.unusedVariables false
set_option linter.unusedSimpArgs false
set_option maxRecDepth 100000
end Go.Ab

/- sinewlaw04.JournalSure, JournalAnew (where all is of so much bulk). -/
namespace Go.Ab
open Go.Proofs Go.RowKit Go.Oct
set_option linter.unusedVariables false
set_option linter.unusedSimpArgs false
set_option maxRecDepth 100000
theorem packsB_take (G : List Note) (j : Nat) : (packsB G).take (pl G j) = packsB (G.take j) := by
  have : packsB G = packsB (G.take j) ++ packsB (G.drop j) := by rw [← packsB_app, List.take_append_drop]
  unfold pl
  rw [this, List.take_left' rfl]
/-- The place where bytes are cut. -/
theorem pl_find (G : List Note) (k : Nat) : ∀ m, m ≤ G.length → ∃ j, j ≤ G.length ∧ pl G j ≤ k ∧ (j = G.length ∨ k < pl G (j + 1)) ∨ k < pl G m
  | m, hm => by
    by_cases h : pl G G.length ≤ k
    · exact ⟨G.length, .inl ⟨Nat.le_refl _, h, .inl rfl⟩⟩
    · -- downward
      have key : ∀ d m, m + d = G.length → k < pl G m ∨ ∃ j, j ≤ G.length ∧ pl G j ≤ k ∧ (j = G.length ∨ k < pl G (j + 1)) := by
        intro d
        induction d with
        | zero => intro m hm; left; have : m = G.length := by omega
                  subst this; omega
        | succ d ih =>
          intro m hm
          by_cases h2 : pl G m ≤ k
          · rcases ih (m + 1) (by omega) with g | g
            · exact .inr ⟨m, by omega, h2, .inr g⟩
            · exact .inr g
          · left; omega
      rcases key (G.length - m) m (by omega) with g | ⟨j, g⟩
      · exact ⟨0, .inr g⟩
      · exact ⟨j, .inl g⟩
theorem pl_cut (G : List Note) (k : Nat) : ∃ j, j ≤ G.length ∧ pl G j ≤ k ∧ (j = G.length ∨ k < pl G (j + 1)) := by
  obtain ⟨j, h | h⟩ := pl_find G k 0 (by omega)
  · exact ⟨j, h⟩
  · simp [pl, packsB] at h
theorem GoodL.take {G : List Note} (h : GoodL G) (j : Nat) : GoodL (G.take j) := fun n hn => h n (List.mem_of_mem_take hn)
theorem JAt.app {st : St} {id room sure : Nat} {bv : V} {s : List UInt8} (h : JAt st id room bv s sure) (t sz : Nat) : JAt (appSt st t sz) id room bv s sure := by
  refine ⟨by rw [appSt_ob]; exact h.ob, by rw [appSt_n]; exact h.lt, ?_, h.le, h.r1, h.r2, h.full⟩
  rcases h.b with g | ⟨b, rest, h1, h2, h3, h4⟩
  · exact .inl g
  · exact .inr ⟨b, rest, h1, by rw [appSt_ob]; exact h2, h3, by rw [appSt_n]; exact h4⟩
/-- The rights of a list, in whatever state. -/
def OwnA (st : St) (sz t : Nat) : Prop := t = 1 ∨ t = 2 ∨ ∃ k, t = k + 3 ∧ st.tk k = some sz
theorem OwnA.tok {st : St} {sz t : Nat} (h : OwnA st sz t) : Tok st sz t := h
theorem OwnA.new (st : St) (t sz : Nat) : OwnA (appSt st t sz) sz (st.nt + 3) := .inr (.inr ⟨st.nt, rfl, appSt_new st t sz⟩)
def nineN : Note := ⟨9, [], [], []⟩
structure LightL (G : List Note) : Prop where
  good : GoodL G
  len : ∀ n ∈ G, (packB n).length ≤ 77000
end Go.Ab

/- sinewlaw04.JournalAnew (where all is of so much bulk). -/
namespace Go.Ab
open Go.Proofs Go.RowKit Go.Oct
set_option linter.unusedVariables false
set_option linter.unusedSimpArgs false
set_option maxRecDepth 100000
theorem jputs_ok (room : Nat) : ∀ (l : List Note) (s : List UInt8), (∀ n ∈ l, packOK n = true) → ((jputs room l s).1 = 0 ∧ (jputs room l s).2 = s ++ packsB l) ∨ (jputs room l s).1 = 40
  | [], s, _ => .inl ⟨rfl, by simp [jputs, packsB]⟩
  | n :: l, s, h => by
    have hp := h n (by simp)
    unfold jputs
    by_cases hc : room < s.length + (packB n).length
    · have hw : jwrite room s n = (40, s) := by unfold jwrite; rw [if_pos hp, if_pos hc]
      rw [hw]
      exact .inr rfl
    · have hw : jwrite room s n = (0, s ++ packB n) := by unfold jwrite; rw [if_pos hp, if_neg hc]
      rw [hw]
      simp only [if_true]
      rcases jputs_ok room l (s ++ packB n) (fun m hm => h m (List.mem_cons_of_mem _ hm)) with ⟨g1, g2⟩ | g
      · exact .inl ⟨g1, by rw [g2]; simp [packsB]⟩
      · exact .inr g
theorem jbegin_ok (room : Nat) (l : List Note) : ((jbegin room l).1 = 0 ∧ (jbegin room l).2 = packsB l ∧ ∀ n ∈ l, packOK n = true) ∨ (jbegin room l).1 = 1 ∨ (jbegin room l).1 = 40 := by
  unfold jbegin
  cases ha : l.any oddP with
  | true => exact .inr (.inl rfl)
  | false =>
    simp only [Bool.false_eq_true, if_false]
    have hp : ∀ n ∈ l, packOK n = true := fun n hn => by
      have := List.any_eq_false.1 ha n hn
      simpa [oddP] using this
    rcases jputs_ok room l [] hp with ⟨g1, g2⟩ | g
    · exact .inl ⟨g1, by rw [g2]; rfl, hp⟩
    · exact .inr (.inr g)
end Go.Ab

/- sinewref04: what each function does. -/
namespace Go.Ab
open Go.Proofs Go.RowKit Go.Oct
set_option linter.unusedVariables false
set_option linter.unusedSimpArgs false
set_option maxRecDepth 100000
def ends (G : List Note) : List Int := (List.range G.length).map fun i => ((pl G (i + 1) : Nat) : Int)
@[simp] theorem ends_len (G : List Note) : (ends G).length = G.length := by simp [ends]
theorem ends_at {G : List Note} {i : Nat} (h : i < G.length) : (ends G)[i]? = some ((pl G (i + 1) : Nat) : Int) := by simp [ends, h]
theorem pl_app {G : List Note} {j : Nat} (h : j ≤ G.length) (L : List Note) : pl (G ++ L) j = pl G j := by unfold pl; rw [List.take_append_of_le_length h]
theorem ends_snoc (G : List Note) (n : Note) : ends (G ++ [n]) = ends G ++ [(((packsB G).length + (packB n).length : Nat) : Int)] := by
  apply List.ext_getElem?
  intro i
  rcases Nat.lt_trichotomy i G.length with h | h | h
  · rw [List.getElem?_append_left (by simpa using h), ends_at h, ends_at (by simp; omega), pl_app (by omega)]
  · subst h
    rw [ends_at (by simp), List.getElem?_append_right (by simp)]
    simp only [ends_len, Nat.sub_self, List.getElem?_cons_zero, Option.some.injEq]
    have : pl (G ++ [n]) (G.length + 1) = (packsB (G ++ [n])).length := by rw [← pl_all]; simp
    rw [this, packsB_snoc, List.length_append]
  · rw [List.getElem?_eq_none (by simp; omega), List.getElem?_eq_none (by simp; omega)]
theorem ends_take (G : List Note) (j : Nat) : (ends G).take j = ends (G.take j) := by
  apply List.ext_getElem?
  intro i
  rw [List.getElem?_take]
  split
  · rename_i h
    by_cases hi : i < G.length
    · rw [ends_at hi, ends_at (by simp; omega)]
      congr 2
      unfold pl
      rw [List.take_take, Nat.min_eq_left (by omega)]
    · rw [List.getElem?_eq_none (by simp; omega), List.getElem?_eq_none (by simp; omega)]
  · rename_i h
    rw [List.getElem?_eq_none (by simp; omega)]
def rjC (room sure : Nat) (G : List Note) (t u : Nat) : List V := [.int .i64 (room : Nat), .int .i64 (sure : Nat), .lst (notesV G) t, .lst (intsV (ends G)) u]
def rjV (room sure : Nat) (G : List Note) : V := .agg (rjC room sure G 0 0)
theorem rj_er (room sure : Nat) (G : List Note) (t u : Nat) : (V.agg (rjC room sure G t u)).er1 = rjV room sure G := rfl
theorem rj_load {st : St} {c room sure t u : Nat} {G : List Note} (h : st.ob c = some (.cells (rjC room sure G t u))) :
    (∀ K, A.load false 1 (.ptr c 0) st K = K (.int .i64 (room : Nat)) st) ∧ (∀ K, A.load false 1 (.ptr c 1) st K = K (.int .i64 (sure : Nat)) st) ∧ (∀ K, A.load false 1 (.ptr c 2) st K = K (.lst (notesV G) t) st) ∧
      (∀ K, A.load false 1 (.ptr c 3) st K = K (.lst (intsV (ends G)) u) st) ∧ ∀ K, A.load true 4 (.ptr c 0) st K = K (.agg (rjC room sure G t u)) st := by
  refine ⟨fun K => by rw [load_ob, h]; rfl, fun K => by rw [load_ob, h]; rfl, fun K => by rw [load_ob, h]; rfl, fun K => by rw [load_ob, h]; rfl, fun K => by rw [load_obA, h]; rfl⟩
theorem rj_box (st : St) (room sure : Nat) (G : List Note) (K : V → St → Res) : A.box (rjV room sure G) st K = K (.ptr st.n 0) (st.new (.cells (rjC room sure G 0 0))) := rfl
theorem rj_store {st : St} {c r s r' s' t u t' u' : Nat} {G G' : List Note} (h : st.ob c = some (.cells (rjC r s G t u))) (K : St → Res) : A.store 4 (.ptr c 0) (.agg (rjC r' s' G' t' u')) st K = K (st.put c (.cells (rjC r' s' G' t' u'))) := by
  rw [store_agg, h, obo_some, if_pos ⟨rfl, by simp [rjC], rfl⟩]; rfl
theorem rj_pu (room sure : Nat) (G : List Note) : (rjV room sure G).pu = true := by
  have a1 : V.puL (notesV G) = true := puL_of (by intro v hv; obtain ⟨n, _, rfl⟩ := List.mem_map.1 hv; exact pu_note n)
  simp [rjV, rjC, a1]
theorem ret_kid' (x : Res) : A.ret x kid = x := by
  match x with
  | none => rfl
  | some (.ret v, st) => rfl
  | some (.panic v, st) => rfl
theorem own_put' {st0 st : St} {sz u i : Nat} {o : Ob} (h : Own st0 st sz u) : Own st0 (st.put i o) sz u := h
theorem packOK_len {n : Note} (h : packOK n = true) : (packB n).length ≤ 1048584 := by
  simp only [packOK, Bool.and_eq_true, decide_eq_true_eq] at h
  rw [packB_len]; omega
/-- What the reference's Write does. -/
def rwrite (room : Nat) (G : List Note) (n : Note) : Nat × List Note := if packOK n = true then (if room < (packsB G).length + (packB n).length then (40, G) else (0, G ++ [n])) else (1, G)
theorem rj_zero (st : St) (K : V → St → Res) : A.box (.agg [.int .i64 0, .int .i64 0, .lst [] 1, .lst [] 1]) st K = K (.ptr st.n 0) (st.new (.cells (rjC 0 0 [] 1 1))) := rfl
theorem rbytes_s (room sure : Nat) (G : List Note) (h : G.length ≤ 67108864) (st : St) : s20 [rjV room sure G] st = some (.ret (.int .i64 ((packsB G).length : Nat)), st) := by
  rw [s20_eq]
  refine fg_of (st' := st.new (.cells (rjC room sure G 0 0))) (v := .int .i64 ((packsB G).length : Nat)) ?_ ((Ks.refl st).new _) rfl
  unfold f20
  rw [rj_box]
  obtain ⟨l0, l1, l2, l3, l4⟩ := rj_load (new_at st (.cells (rjC room sure G 0 0)))
  rw [faddr_ptr, Nat.zero_add, l3, lenL_lst, intsV_len, ends_len, bin_gtr]
  by_cases hg : 0 < G.length
  · rw [decide_eq_true (show ((0 : Int) < (G.length : Int)) by omega), cond_true, faddr_ptr, Nat.zero_add, l3]
    have e1 : ∀ K, A.bin .sub (.int .i64 (G.length : Nat)) (.int .i64 1) K = K (.int .i64 ((G.length - 1 : Nat) : Int)) := fun K => bin_subN G.length 1 K hg (by omega)
    have ia : ∀ K, A.iaddr 1 (.lst (intsV (ends G)) 0) (.int .i64 ((G.length - 1 : Nat) : Int)) K = K (.lptr [.int .i64 (pl G (G.length - 1 + 1) : Nat)]) := fun K => iaddr_lst (v := .int .i64 (pl G (G.length - 1 + 1) : Nat)) K (by
      unfold intsV
      rw [List.getElem?_map, ends_at (by omega)]; rfl) rfl
    rw [e1, ia, load_l1', er1_int, show G.length - 1 + 1 = G.length by omega, pl_all]
  · have : G = [] := List.eq_nil_of_length_eq_zero (by omega)
    subst this
    rfl
theorem rsure_s (room sure : Nat) (G : List Note) (h : G.length ≤ 67108864) (st : St) : s27 [rjV room sure G] st = some (.ret (rjV room (packsB G).length G), st) := by
  rw [s27_eq]
  have key : ∃ (v : V) (st' : St), f27 (rjV room sure G) st = some (.ret v, st') ∧ Ks st st' ∧ v.era = rjV room (packsB G).length G := by
    unfold f27
    rw [rj_box, rj_zero]
    have k2 : Ks st ((st.new (.cells (rjC room sure G 0 0))).new (.cells (rjC 0 0 [] 1 1))) := ((Ks.refl st).new _).new _
    have o1 : ((st.new (.cells (rjC room sure G 0 0))).new (.cells (rjC 0 0 [] 1 1))).ob st.n = some (.cells (rjC room sure G 0 0)) := by rw [new_ne _ _ (by simp)]; exact new_at _ _
    have o2 := new_at (st.new (.cells (rjC room sure G 0 0))) (.cells (rjC 0 0 [] 1 1))
    rw [new_n] at o2 ⊢
    generalize (st.new (.cells (rjC room sure G 0 0))).new (.cells (rjC 0 0 [] 1 1)) = s2 at k2 o1 o2 ⊢
    obtain ⟨l0, l1, l2, l3, l4⟩ := rj_load o1
    have e1 : (rjC room sure G 0 0).set 1 (.int .i64 ((packsB G).length : Nat)) = rjC room (packsB G).length G 0 0 := rfl
    rw [l4, rj_er, rbytes_s _ _ _ h, ret_ret, faddr_ptr, Nat.zero_add, store_int, o1, obo_some, if_pos (show 1 < (rjC room sure G 0 0).length by simp [rjC]), e1]
    have o3 := put_at s2 st.n (.cells (rjC room (packsB G).length G 0 0))
    obtain ⟨_, _, _, _, m4⟩ := rj_load o3
    have o4 : (s2.put st.n (.cells (rjC room (packsB G).length G 0 0))).ob (st.n + 1) = some (.cells (rjC 0 0 [] 1 1)) := by rw [put_ne _ _ (by omega)]; exact o2
    rw [m4, rj_store o4]
    have o5 := put_at (s2.put st.n (.cells (rjC room (packsB G).length G 0 0))) (st.n + 1) (.cells (rjC room (packsB G).length G 0 0))
    obtain ⟨_, _, _, _, m5⟩ := rj_load o5
    rw [m5, kid_eq, rcell_some, res_one]
    exact ⟨_, _, rfl, (k2.put (by omega) _).put (by omega) _, rfl⟩
  obtain ⟨v, st', q1, q2, q3⟩ := key
  rw [fg_of q1 q2 (by rw [q3]; exact rj_pu _ _ _), q3]
/-- A result out of its cells. -/
theorem rj_res {st0 st : St} {q r s t u r' s' t' u' : Nat} {G G' : List Note} (k : Ks st0 st) (hq : st0.n ≤ q) (h : st.ob q = some (.cells (rjC r s G t u))) (e : Nat) :
    ∃ (v : V) (st' : St), (A.store 4 (.ptr q 0) (.agg (rjC r' s' G' t' u')) st fun z => A.res (rcell (A.load true 4 (.ptr q 0) z kid) (rtmp (.int .i64 (e : Nat)) (some []))) z) = some (.ret v, st') ∧ Ks st0 st' ∧ v.era = .tup [rjV r' s' G', .int .i64 (e : Nat)] := by
  rw [rj_store h]
  obtain ⟨_, _, _, _, m5⟩ := rj_load (put_at st q (.cells (rjC r' s' G' t' u')))
  rw [m5, kid_eq, rtmp_some, rcell_some, res_two]
  exact ⟨_, _, rfl, k.put hq _, rfl⟩
theorem rwrite_s (room sure : Nat) (G : List Note) (h : G.length ≤ 67108864) (hb : (packsB G).length ≤ room) (hr : room ≤ 67108864) (n : Note) (hn : NoteOK n) (hu : Upto n) (st : St) :
    s26 [rjV room sure G, noteV n] st = some (.ret (.tup [rjV room sure (rwrite room G n).2, .int .i64 ((rwrite room G n).1 : Nat)]), st) := by
  rw [s26_eq]
  have key : ∃ (v : V) (st' : St), f26 (rjV room sure G) (noteV n) st = some (.ret v, st') ∧ Ks st st' ∧ v.era = .tup [rjV room sure (rwrite room G n).2, .int .i64 ((rwrite room G n).1 : Nat)] := by
    unfold f26
    rw [rj_box]
    have bx : ∀ (s : St) K, A.box (noteV n) s K = K (.ptr s.n 0) (s.new (.cells (noteC n))) := fun s K => rfl
    rw [bx, rj_zero]
    have k3 : Ks st (((st.new (.cells (rjC room sure G 0 0))).new (.cells (noteC n))).new (.cells (rjC 0 0 [] 1 1))) := (((Ks.refl st).new _).new _).new _
    have o1 : (((st.new (.cells (rjC room sure G 0 0))).new (.cells (noteC n))).new (.cells (rjC 0 0 [] 1 1))).ob st.n = some (.cells (rjC room sure G 0 0)) := by
      rw [new_ne _ _ (by simp; omega), new_ne _ _ (by simp)]; exact new_at _ _
    have o2 : (((st.new (.cells (rjC room sure G 0 0))).new (.cells (noteC n))).new (.cells (rjC 0 0 [] 1 1))).ob (st.n + 1) = some (.cells (noteC n)) := by
      rw [new_ne _ _ (by simp)]; exact new_at (st.new (.cells (rjC room sure G 0 0))) _
    have o3 := new_at ((st.new (.cells (rjC room sure G 0 0))).new (.cells (noteC n))) (.cells (rjC 0 0 [] 1 1))
    have n3 : (((st.new (.cells (rjC room sure G 0 0))).new (.cells (noteC n))).new (.cells (rjC 0 0 [] 1 1))).n = st.n + 3 := by simp
    simp only [new_n] at o3 ⊢
    generalize (((st.new (.cells (rjC room sure G 0 0))).new (.cells (noteC n))).new (.cells (rjC 0 0 [] 1 1))) = s3 at k3 o1 o2 o3 n3 ⊢
    obtain ⟨l0, l1, l2, l3, l4⟩ := rj_load o1
    have hnv : (V.agg (noteC n)).er1 = noteV n := rfl
    rw [load_noteb o2, hnv, rpack_s n hn hu, ret_ret]
    unfold rwrite
    cases hok : packOK n with
    | false =>
      simp only [Bool.false_eq_true, if_false, P2]
      rw [ext_0, ext_1]
      unfold g26b11
      rw [eql_int, if_pos rfl, show (((1 : Nat) : Int) != 0) = true from rfl, cond_true, l4]
      exact rj_res k3 (by omega) o3 1
    | true =>
      simp only [if_true, P2]
      rw [ext_0, ext_1]
      have hpb := packOK_len hok
      unfold g26b11
      have e1 : ∀ K, A.bin .sub (.int .i64 (room : Nat)) (.int .i64 ((packsB G).length : Nat)) K = K (.int .i64 ((room - (packsB G).length : Nat) : Int)) := fun K => bin_subN _ _ K hb (by omega)
      have ld0 : ldv false 1 (.ptr st.n 0) s3 = some (.int .i64 (room : Nat)) := by unfold ldv; rw [l0]; rfl
      rw [eql_int, if_pos rfl, show (((0 : Nat) : Int) != 0) = false from rfl, cond_false, lenS_str, faddr_ptr, Nat.zero_add, l0, l4, rj_er, rbytes_s _ _ _ h, ret_kid', ret_ret, ld0, chk_same, e1, bin_gtr]
      by_cases hf : room < (packsB G).length + (packB n).length
      · rw [decide_eq_true (show ((room - (packsB G).length : Nat) : Int) < ((packB n).length : Int) by omega), cond_true, l4, if_pos hf]
        exact rj_res k3 (by omega) o3 40
      · rw [decide_eq_false (show ¬ ((room - (packsB G).length : Nat) : Int) < ((packB n).length : Int) by omega), cond_false, if_neg hf]
        unfold g26b1111
        have e2 : ∀ K, A.bin .add (.int .i64 ((packsB G).length : Nat)) (.int .i64 ((packB n).length : Nat)) K = K (.int .i64 (((packsB G).length + (packB n).length : Nat) : Int)) := fun K => bin_addN _ _ K (by omega)
        have en : ∀ (s : St) (t : Nat) (L : List Note), elemsOf 5 4 (.lst (notesV L) t) s = some (notesV L) := fun s t L => elemsOf_lst 4 _ t s (szok_notes L)
        rw [l4, rj_er, rbytes_s _ _ _ h, ret_ret, lenS_str, e2, faddr_ptr, Nat.zero_add, l2, en, app_own _ (Own.nil st s3 4) (by simp; omega) rfl]
        obtain ⟨k4, w4⟩ := (Own.nil st s3 4).app k3
        have a1 : (appSt s3 1 4).ob = s3.ob := appSt_ob _ _ _
        unfold g26b11111111
        obtain ⟨_, _, _, m3, m4⟩ := rj_load (show (appSt s3 1 4).ob st.n = _ by rw [a1]; exact o1)
        rw [faddr_ptr, Nat.zero_add, m3, elemsOf_ints, app_own _ (Own.nil st _ 1) (by simp; omega) rfl]
        obtain ⟨k5, w5⟩ := (Own.nil st (appSt s3 1 4) 1).app k4
        have w4' : Own st (appSt (appSt s3 1 4) 1 1) 4 (s3.nt + 3) := Own.keep (by decide) (Own.nil st _ 1) w4
        have a2 : (appSt (appSt s3 1 4) 1 1).ob = s3.ob := (appSt_ob _ _ _).trans a1
        rw [load_noteb (show (appSt (appSt s3 1 4) 1 1).ob (st.n + 1) = _ by rw [a2]; exact o2), bslice_note, en, app_own _ w4' (by simp; omega) (by rw [List.nil_append]; exact szok_notes G)]
        obtain ⟨k6, w6⟩ := w4'.app k5
        generalize hs6 : appSt (appSt (appSt s3 1 4) 1 1) (s3.nt + 3) 4 = s6 at k6 w6 ⊢
        have w5' : Own st s6 1 ((appSt s3 1 4).nt + 3) := by rw [← hs6]; exact Own.keep (by decide) w4' w5
        have a3 : s6.ob = s3.ob := by rw [← hs6]; exact (appSt_ob _ _ _).trans a2
        have q1 : s6.ob st.n = some (.cells (rjC room sure G 0 0)) := by rw [a3]; exact o1
        have q3 : s6.ob (st.n + 2) = some (.cells (rjC 0 0 [] 1 1)) := by rw [a3]; exact o3
        have en2 : [] ++ notesV G ++ notesV [n] = notesV (G ++ [n]) := by simp [notesV]
        have ee : [] ++ intsV (ends G) ++ intsV [(((packsB G).length + (packB n).length : Nat) : Int)] = intsV (ends (G ++ [n])) := by rw [ends_snoc]; simp [intsV]
        rw [en2, faddr_ptr, Nat.zero_add, store_lst, q1, obo_some, if_pos (show 2 < (rjC room sure G 0 0).length by simp [rjC])]
        unfold g26b1111111111
        have w5p := own_put' (st0 := st) (i := st.n) (o := .cells ((rjC room sure G 0 0).set 2 (.lst (notesV (G ++ [n])) ((appSt (appSt s3 1 4) 1 1).nt + 3)))) w5'
        have k7 := k6.put (Nat.le_refl st.n) (.cells ((rjC room sure G 0 0).set 2 (.lst (notesV (G ++ [n])) ((appSt (appSt s3 1 4) 1 1).nt + 3))))
        have q4 := put_at s6 st.n (.cells ((rjC room sure G 0 0).set 2 (.lst (notesV (G ++ [n])) ((appSt (appSt s3 1 4) 1 1).nt + 3))))
        have q5 : (s6.put st.n (.cells ((rjC room sure G 0 0).set 2 (.lst (notesV (G ++ [n])) ((appSt (appSt s3 1 4) 1 1).nt + 3))))).ob (st.n + 2) = some (.cells (rjC 0 0 [] 1 1)) := by rw [put_ne _ _ (by omega)]; exact q3
        generalize s6.put st.n (.cells ((rjC room sure G 0 0).set 2 (.lst (notesV (G ++ [n])) ((appSt (appSt s3 1 4) 1 1).nt + 3)))) = s7 at w5p k7 q4 q5 ⊢
        rw [bslice_int1, elemsOf_ints, app_own _ w5p (by simp; omega) (by rw [List.nil_append]; exact szok_ints _), ee]
        obtain ⟨k8, w8⟩ := w5p.app k7
        have a4 : (appSt s7 ((appSt s3 1 4).nt + 3) 1).ob = s7.ob := appSt_ob _ _ _
        have e4 : ((rjC room sure G 0 0).set 2 (.lst (notesV (G ++ [n])) ((appSt (appSt s3 1 4) 1 1).nt + 3))).set 3 (.lst (intsV (ends (G ++ [n]))) (s7.nt + 3)) = rjC room sure (G ++ [n]) ((appSt (appSt s3 1 4) 1 1).nt + 3) (s7.nt + 3) := rfl
        rw [faddr_ptr, Nat.zero_add, store_lst, a4, q4, obo_some, if_pos (by simp [rjC]), e4]
        obtain ⟨_, _, _, _, z4⟩ := rj_load (put_at (appSt s7 ((appSt s3 1 4).nt + 3) 1) st.n (.cells (rjC room sure (G ++ [n]) ((appSt (appSt s3 1 4) 1 1).nt + 3) (s7.nt + 3))))
        rw [z4]
        exact rj_res (k8.put (Nat.le_refl _) _) (by omega) (show _ = some (Ob.cells (rjC 0 0 [] 1 1)) by rw [put_ne _ _ (by omega), a4]; exact q5) 0
  obtain ⟨v, st', q1, q2, q3⟩ := key
  have hp : (V.tup [rjV room sure (rwrite room G n).2, .int .i64 ((rwrite room G n).1 : Nat)]).pu = true := by
    have := rj_pu room sure (rwrite room G n).2
    simp [this]
  rw [fg_of q1 q2 (by rw [q3]; exact hp), q3]
end Go.Ab

/- sinewref04: Fail; Write, for Begin. -/
namespace Go.Ab
open Go.Proofs Go.RowKit Go.Oct
set_option linter.unusedVariables false
set_option linter.unusedSimpArgs false
set_option maxRecDepth 100000
theorem slice_cap (l : List V) (t sz i : Nat) (K : V → Res) (h : i ≤ l.length) (hs : szok sz l = true) : A.slice sz (.lst l t) none (some (.int .i64 (i : Nat))) (some (.int .i64 (i : Nat))) K = K (.lst (l.take i) 2) := by
  simp [A.slice, bnd, h, hs]
theorem rfail_loop {G : List Note} {k j c q room sure : Nat} {keep : V} {st0 : St} (hG : G.length ≤ 67108864) (hj : j ≤ G.length) (h1 : pl G j ≤ k) (h2 : j = G.length ∨ k < pl G (j + 1)) (hc : st0.n ≤ c) (hq : st0.n ≤ q) (hcq : c ≠ q)
    {st : St} (hk : Ks st0 st) (oc : st.ob c = some (.cells (rjC room sure G 0 0))) {r' s' t' u' : Nat} {G' : List Note} (oq : st.ob q = some (.cells (rjC r' s' G' t' u'))) :
    ∀ (f i : Nat), i ≤ j → j < f + i → ∃ (v : V) (st' : St), g28b1111100 f (.ptr c 0) (.ptr q 0) (.int .i64 (k : Nat)) (.int .i64 (i : Nat)) st = some (.ret v, st') ∧ Ks st0 st' ∧ v.era = rjV room (pl G j) (G.take j) := by
  obtain ⟨l0, l1, l2, l3, l4⟩ := rj_load oc
  -- behind the loop
  have tail : ∃ (v : V) (st' : St), (A.faddr 2 (.ptr c 0) fun a14 => A.load false 1 a14 st fun a15 z16 => A.slice 4 a15 none (some (.int .i64 (j : Nat))) (some (.int .i64 (j : Nat))) fun a17 => A.faddr 2 (.ptr c 0) fun a18 => A.store 1 a18 a17 z16 fun z19 => A.faddr 3 (.ptr c 0) fun a20 => A.load false 1 a20 z19 fun a21 z22 => A.slice 1 a21 none (some (.int .i64 (j : Nat))) (some (.int .i64 (j : Nat))) fun a23 => A.faddr 3 (.ptr c 0) fun a24 => A.store 1 a24 a23 z22 fun z25 => A.load true 4 (.ptr c 0) z25 fun a26 z27 => A.ret (s27 [a26.er1] z27) fun a28 z29 => A.store 4 (.ptr q 0) a28 z29 fun z30 => A.res (rcell (A.load true 4 (.ptr q 0) z30 kid) (some [])) z30) = some (.ret v, st') ∧ Ks st0 st' ∧ v.era = rjV room (pl G j) (G.take j) := by
    have sl1 : ∀ K, A.slice 4 (.lst (notesV G) 0) none (some (.int .i64 (j : Nat))) (some (.int .i64 (j : Nat))) K = K (.lst (notesV (G.take j)) 2) := fun K => by
      rw [slice_cap _ _ _ _ _ (by simpa using hj) (szok_notes G)]; simp [notesV, List.map_take]
    have sl2 : ∀ K, A.slice 1 (.lst (intsV (ends G)) 0) none (some (.int .i64 (j : Nat))) (some (.int .i64 (j : Nat))) K = K (.lst (intsV (ends (G.take j))) 2) := fun K => by
      rw [← ends_take, slice_cap _ _ _ _ _ (by simpa using hj) (szok_ints _)]; simp [intsV, List.map_take]
    rw [faddr_ptr, Nat.zero_add, l2, sl1, faddr_ptr, Nat.zero_add, store_lst, oc, obo_some, if_pos (show 2 < (rjC room sure G 0 0).length by simp [rjC])]
    have p1 := put_at st c (.cells ((rjC room sure G 0 0).set 2 (.lst (notesV (G.take j)) 2)))
    have p2 : (st.put c (.cells ((rjC room sure G 0 0).set 2 (.lst (notesV (G.take j)) 2)))).ob q = some (.cells (rjC r' s' G' t' u')) := by rw [put_ne _ _ (Ne.symm hcq)]; exact oq
    have p3 := hk.put hc (.cells ((rjC room sure G 0 0).set 2 (.lst (notesV (G.take j)) 2)))
    generalize st.put c (.cells ((rjC room sure G 0 0).set 2 (.lst (notesV (G.take j)) 2))) = s2 at p1 p2 p3 ⊢
    have m3 : ∀ K : V → St → Res, A.load false 1 (.ptr c 3) s2 K = K (.lst (intsV (ends G)) 0) s2 := fun K => by rw [load_ob, p1]; rfl
    have e4 : ((rjC room sure G 0 0).set 2 (.lst (notesV (G.take j)) 2)).set 3 (.lst (intsV (ends (G.take j))) 2) = rjC room sure (G.take j) 2 2 := rfl
    rw [faddr_ptr, Nat.zero_add, m3, sl2, faddr_ptr, Nat.zero_add, store_lst, p1, obo_some, if_pos (by simp [rjC]), e4]
    have r1 := put_at s2 c (.cells (rjC room sure (G.take j) 2 2))
    have r2 : (s2.put c (.cells (rjC room sure (G.take j) 2 2))).ob q = some (.cells (rjC r' s' G' t' u')) := by rw [put_ne _ _ (Ne.symm hcq)]; exact p2
    have r3 := p3.put hc (.cells (rjC room sure (G.take j) 2 2))
    generalize s2.put c (.cells (rjC room sure (G.take j) 2 2)) = s3 at r1 r2 r3 ⊢
    obtain ⟨_, _, _, _, z4⟩ := rj_load r1
    rw [z4, rj_er, rsure_s _ _ _ (by simp; omega), ret_ret]
    show ∃ v st', A.store 4 (.ptr q 0) (.agg (rjC room (packsB (G.take j)).length (G.take j) 0 0)) s3 _ = _ ∧ _
    rw [rj_store r2]
    obtain ⟨_, _, _, _, y4⟩ := rj_load (put_at s3 q (.cells (rjC room (packsB (G.take j)).length (G.take j) 0 0)))
    rw [y4, kid_eq, rcell_some, res_one]
    exact ⟨_, _, rfl, r3.put hq _, rfl⟩
  intro f
  induction f with
  | zero => intro i hi hf; omega
  | succ f ih =>
    intro i hi hf
    rw [g28b1111100]
    rw [faddr_ptr, Nat.zero_add, l3, lenL_lst, intsV_len, ends_len, bin_lss]
    have ia : ∀ (h : i < G.length) K, A.iaddr 1 (.lst (intsV (ends G)) 0) (.int .i64 (i : Nat)) K = K (.lptr [.int .i64 ((pl G (i + 1) : Nat) : Int)]) := fun h K => iaddr_lst (v := .int .i64 ((pl G (i + 1) : Nat) : Int)) K (by
      unfold intsV
      rw [List.getElem?_map, ends_at h]; rfl) rfl
    by_cases hij : i < j
    · have e4 : ∀ K, A.bin .add (.int .i64 (i : Nat)) (.int .i64 1) K = K (.int .i64 ((i + 1 : Nat) : Int)) := fun K => bin_inc (by omega) K
      have := pl_mono G (show i + 1 ≤ j from hij)
      rw [decide_eq_true (show ((i : Int) < (G.length : Int)) by omega), guard_tt, faddr_ptr, Nat.zero_add, l3, ia (by omega), load_l1', bin_leq, decide_eq_true (show ((pl G (i + 1) : Nat) : Int) ≤ (k : Int) by omega), cond_true, e4]
      exact ih (i + 1) (by omega) (by omega)
    · have : i = j := by omega
      subst this
      rcases h2 with g | g
      · rw [decide_eq_false (show ¬ ((i : Int) < (G.length : Int)) by omega), guard_ft]
        exact tail
      · by_cases hl : i < G.length
        · rw [decide_eq_true (show ((i : Int) < (G.length : Int)) by omega), guard_tt, faddr_ptr, Nat.zero_add, l3, ia hl, load_l1', bin_leq, decide_eq_false (show ¬ ((pl G (i + 1) : Nat) : Int) ≤ (k : Int) by omega), cond_false]
          exact tail
        · rw [decide_eq_false (show ¬ ((i : Int) < (G.length : Int)) by omega), guard_ft]
          exact tail
theorem rfail_s (room sure : Nat) (G : List Note) (h : G.length ≤ 67108864) (hb : (packsB G).length ≤ 67108864) (hs : sure ≤ (packsB G).length) (keep : Int) (hkp : keep ≤ 9223372036854775807) {j : Nat} (hj : j ≤ G.length) (h1 : pl G j ≤ jkeep (packsB G) sure keep) (h2 : j = G.length ∨ jkeep (packsB G) sure keep < pl G (j + 1)) (st : St) :
    s28 [rjV room sure G, .int .i64 keep] st = some (.ret (rjV room (pl G j) (G.take j)), st) := by
  rw [s28_eq]
  have key : ∃ (v : V) (st' : St), f28 (rjV room sure G) (.int .i64 keep) st = some (.ret v, st') ∧ Ks st st' ∧ v.era = rjV room (pl G j) (G.take j) := by
    unfold f28
    rw [rj_box, rj_zero]
    have k2 : Ks st ((st.new (.cells (rjC room sure G 0 0))).new (.cells (rjC 0 0 [] 1 1))) := ((Ks.refl st).new _).new _
    have o1 : ((st.new (.cells (rjC room sure G 0 0))).new (.cells (rjC 0 0 [] 1 1))).ob st.n = some (.cells (rjC room sure G 0 0)) := by rw [new_ne _ _ (by simp)]; exact new_at _ _
    have o2 := new_at (st.new (.cells (rjC room sure G 0 0))) (.cells (rjC 0 0 [] 1 1))
    rw [new_n] at o2 ⊢
    generalize (st.new (.cells (rjC room sure G 0 0))).new (.cells (rjC 0 0 [] 1 1)) = s2 at k2 o1 o2 ⊢
    obtain ⟨l0, l1, l2, l3, l4⟩ := rj_load o1
    have ld1 : ldv false 1 (.ptr st.n 1) s2 = some (.int .i64 (sure : Nat)) := by unfold ldv; rw [l1]; rfl
    have e1 : ∀ K, A.bin .sub (.int .i64 ((packsB G).length : Nat)) (.int .i64 (sure : Nat)) K = K (.int .i64 (((packsB G).length - sure : Nat) : Int)) := fun K => bin_subN _ _ K hs (by omega)
    rw [l4, rj_er, rbytes_s _ _ _ h, ret_kid', noP_ret, faddr_ptr, Nat.zero_add, l1, ld1, chk_same, e1, faddr_ptr, Nat.zero_add, l1]
    unfold g28b111 g28b1111
    rw [bin_gtr]
    have hloop := rfail_loop (keep := .int .i64 keep) h hj h1 h2 (Nat.le_refl st.n) (Nat.le_succ st.n) (by omega) k2 o1 o2 big 0 (by omega) (lt_big (by omega))
    by_cases hp : 0 < keep
    · have e2 : ∀ K, A.bin .add (.int .i64 (((packsB G).length - sure : Nat) : Int)) (.int .i64 1) K = K (.int .i64 (((packsB G).length - sure + 1 : Nat) : Int)) := fun K => bin_inc (by omega) K
      have e3 : ∀ K, A.bin .rem (.int .i64 keep) (.int .i64 (((packsB G).length - sure + 1 : Nat) : Int)) K = K (.int .i64 ((keep.toNat % ((packsB G).length - sure + 1) : Nat) : Int)) := fun K => by
        have := bin_remN keep.toNat ((packsB G).length - sure + 1) K (by omega)
        rw [show ((keep.toNat : Nat) : Int) = keep by omega] at this
        exact this
      have hm := Nat.mod_lt keep.toNat (show 0 < (packsB G).length - sure + 1 by omega)
      have e5 : ∀ K, A.bin .add (.int .i64 (sure : Nat)) (.int .i64 (keep.toNat % ((packsB G).length - sure + 1) : Nat)) K = K (.int .i64 (jkeep (packsB G) sure keep : Nat)) := fun K => bin_addN _ _ K (by omega)
      rw [decide_eq_true hp, cond_true, faddr_ptr, Nat.zero_add, l1, e2, e3, e5]
      exact hloop
    · rw [decide_eq_false hp, cond_false]
      have : jkeep (packsB G) sure keep = sure := by unfold jkeep; rw [show keep.toNat = 0 by omega]; simp
      rw [this] at hloop
      exact hloop
  obtain ⟨v, st', q1, q2, q3⟩ := key
  rw [fg_of q1 q2 (by rw [q3]; exact rj_pu _ _ _), q3]
/-! Write, for what leaves the world alone -/
def WArgs (args : List V) : Prop := ∃ room sure G n, args = [rjV room sure G, noteV n] ∧ G.length ≤ 67108864 ∧ (packsB G).length ≤ room ∧ room ≤ 67108864 ∧ NoteOK n ∧ Upto n
open Classical in
noncomputable def w26 : Fn := fun args st => if WArgs args then s26 args st else none
theorem simw26 : Sim Try.prog 26 w26 := ⟨sim26.ok, fun W0 B e args cargs out st' h => sim26.run W0 B e args cargs out st' (by
  unfold w26 at h
  split at h
  · exact h
  · cases h)⟩
theorem w26_eq {args : List V} (h : WArgs args) (st : St) : w26 args st = s26 args st := if_pos h
theorem obliv26 : Obliv w26 := by
  intro args st r h
  unfold w26 at h
  split at h
  · rename_i hw
    obtain ⟨room, sure, G, n, rfl, a1, a2, a3, a4, a5⟩ := hw
    rw [rwrite_s room sure G a1 a2 a3 n a4 a5] at h
    refine ⟨_, (Option.some.inj h).symm, fun z => ?_⟩
    rw [w26_eq ⟨room, sure, G, n, rfl, a1, a2, a3, a4, a5⟩, rwrite_s room sure G a1 a2 a3 n a4 a5]
  · cases h
end Go.Ab
