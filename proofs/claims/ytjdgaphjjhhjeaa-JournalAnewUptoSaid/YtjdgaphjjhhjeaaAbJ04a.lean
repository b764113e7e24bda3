import Derived.Test.YtjdgaphjjhhjeaaAbX04d
import Derived.Test.YtjdgaphjjhhjeaaAbX04b
/- sinew/journal: what each function does. -/
namespace Go.Ab
open Go.Proofs Go.RowKit Go.Oct
set_option linter.unusedVariables false
set_option linter.unusedSimpArgs false
/-- Which object a value of bytes is. -/
def owns : V → Nat → Prop
  | .sl b _ _ _, i => i = b
  | _, _ => False
def jC (room : Nat) (bv : V) (sure : Nat) : List V := [.int .i64 (room : Nat), bv, .int .i64 (sure : Nat)]
/-- A journal's bytes. -/
def BytesAt (st : St) (id : Nat) (bv : V) (s : List UInt8) : Prop := (s = [] ∧ bv = .lst [] 1) ∨ ∃ b rest, bv = .sl b 0 s.length 1 ∧ st.ob b = some (.cells (bytV (s ++ rest))) ∧ b ≠ id ∧ b < st.n
structure JAt (st : St) (id room : Nat) (bv : V) (s : List UInt8) (sure : Nat) : Prop where
  ob : st.ob id = some (.cells (jC room bv sure))
  lt : id < st.n
  b : BytesAt st id bv s
  le : sure ≤ s.length
  r1 : 1 ≤ room
  r2 : room ≤ 67108864
  full : s.length ≤ room
/-- What else there was is there. -/
structure JFr (st st' : St) (id : Nat) (bv bv' : V) : Prop where
  tk : st'.tk = st.tk
  nt : st'.nt = st.nt
  n : st.n ≤ st'.n
  ob : ∀ i, i < st.n → i ≠ id → ¬ owns bv i → st'.ob i = st.ob i
  own : ∀ i, owns bv' i → owns bv i ∨ st.n ≤ i
theorem JFr.refl (st : St) (id : Nat) (bv : V) : JFr st st id bv bv := ⟨rfl, rfl, Nat.le_refl _, fun _ _ _ _ => rfl, fun _ h => .inl h⟩
theorem JFr.trans {a b c : St} {id : Nat} {u v w : V} (h : JFr a b id u v) (k : JFr b c id v w) : JFr a c id u w := by
  refine ⟨k.tk.trans h.tk, k.nt.trans h.nt, Nat.le_trans h.n k.n, fun i hi hd ho => ?_, fun i hi => ?_⟩
  · rw [k.ob i (Nat.lt_of_lt_of_le hi h.n) hd (fun g => ?_), h.ob i hi hd ho]
    rcases h.own i g with q | q
    · exact ho q
    · omega
  · rcases k.own i hi with q | q
    · exact h.own i q
    · exact .inr (Nat.le_trans h.n q)
theorem BytesAt.len {st : St} {id : Nat} {bv : V} {s : List UInt8} (h : BytesAt st id bv s) (K : V → Res) : A.lenL bv K = K (.int .i64 (s.length : Nat)) := by
  rcases h with ⟨rfl, rfl⟩ | ⟨b, rest, rfl, _, _, _⟩ <;> rfl
theorem BytesAt.one {st : St} {id : Nat} {bv : V} {s : List UInt8} (h : BytesAt st id bv s) : bv.one = true := by
  rcases h with ⟨rfl, rfl⟩ | ⟨b, rest, rfl, _, _, _⟩ <;> rfl
theorem BytesAt.slice {st : St} {id : Nat} {bv : V} {s : List UInt8} (h : BytesAt st id bv s) {k : Nat} (hk : k ≤ s.length) :
    ∃ bv', (∀ K, A.slice 1 bv none (some (.int .i64 (k : Nat))) none K = K bv') ∧ BytesAt st id bv' (s.take k) ∧ (∀ i, owns bv' i → owns bv i) := by
  rcases h with ⟨rfl, rfl⟩ | ⟨b, rest, rfl, h1, h2, h3⟩
  · have : k = 0 := by simpa using hk
    subst this
    exact ⟨.lst [] 1, fun K => rfl, .inl ⟨rfl, rfl⟩, fun i h => h⟩
  · refine ⟨.sl b 0 k 1, fun K => by simp [A.slice, bnd, hk], .inr ⟨b, s.drop k ++ rest, by rw [List.length_take, Nat.min_eq_left hk], ?_, h2, h3⟩, fun i h => h⟩
    rw [← List.append_assoc, List.take_append_drop]; exact h1
theorem BytesAt.str {st : St} {id : Nat} {bv : V} {s : List UInt8} (h : BytesAt st id bv s) (K : V → Res) : A.toStr bv st K = K (.str s) := by
  rcases h with ⟨rfl, rfl⟩ | ⟨b, rest, rfl, h1, h2, h3⟩
  · rfl
  · have h4 : (1 = 1 ∧ 0 + s.length ≤ (bytV (s ++ rest)).length) := ⟨rfl, by rw [bytV_len, List.length_append]; omega⟩
    have h5 : ((bytV (s ++ rest)).drop 0).take s.length = bytV s := by
      rw [List.drop_zero, bytV_append, List.take_left' (by rw [bytV_len])]
    simp only [A.toStr, h1, h4, and_self, if_true, h5, byteL_bytV]
theorem JAt.str {st : St} {id room sure : Nat} {bv : V} {s : List UInt8} (h : JAt st id room bv s sure) : s.length ≤ 67108864 := Nat.le_trans h.full h.r2
theorem jload {st : St} {id room sure : Nat} {bv : V} (h : st.ob id = some (.cells (jC room bv sure))) : (∀ K, A.load false 1 (.ptr id 0) st K = K (.int .i64 (room : Nat)) st) ∧ (∀ K, A.load false 1 (.ptr id 1) st K = K bv st) ∧ (∀ K, A.load false 1 (.ptr id 2) st K = K (.int .i64 (sure : Nat)) st) := by
  refine ⟨fun K => ?_, fun K => ?_, fun K => ?_⟩ <;> simp [h, jC]
theorem given_s {st : St} {id room sure : Nat} {bv : V} (h : st.ob id = some (.cells (jC room bv sure))) (hr : 1 ≤ room) : s23 [.ptr id 0] st = some (.ret (.bool true), st) := by
  rw [s23_eq]
  unfold f23
  obtain ⟨l0, l1, l2⟩ := jload h
  simp only [eql_ptr, guard_tt, nilc_ptr, faddr_ptr, Nat.zero_add, l0, bin_gtr, show ((0 : Int) < (room : Int)) from by omega, decide_true, er1_bool]
theorem new_s (r : Nat) (h1 : 1 ≤ r) (h2 : r ≤ 67108864) (st : St) : s9 [.int .i64 (r : Nat)] st = some (.ret (.tup [.ptr st.n 0, .int .i64 0]), st.new (.cells (jC r (.lst [] 1) 0))) := by
  rw [s9_eq]
  unfold f9
  simp only [bin_lss, show ¬ ((r : Int) < 1) from by omega, decide_false, guard_ff, bin_gtr, show ¬ ((67108864 : Int) < (r : Int)) from by omega, cond_false]
  unfold g9b11
  have b : ∀ K, A.build [.int .i64 0, .lst [] 1, .int .i64 0] [(0, 1, .int .i64 (r : Nat))] K = K (.agg (jC r (.lst [] 1) 0)) := fun K => rfl
  have bx : ∀ K, A.box (.agg (jC r (.lst [] 1) 0)) st K = K (.ptr st.n 0) (st.new (.cells (jC r (.lst [] 1) 0))) := fun K => rfl
  simp only [b, bx, er1_ptr, er1_int]
theorem new_at_j (r : Nat) (h1 : 1 ≤ r) (h2 : r ≤ 67108864) (st : St) : JAt (st.new (.cells (jC r (.lst [] 1) 0))) st.n r (.lst [] 1) [] 0 :=
  ⟨by simp, by simp, .inl ⟨rfl, rfl⟩, by simp, h1, h2, by simp⟩
theorem jsize_s {st : St} {id room sure : Nat} {bv : V} {s : List UInt8} (h : JAt st id room bv s sure) : s17 [.ptr id 0] st = some (.ret (.tup [.int .i64 (s.length : Nat), .int .i64 (sure : Nat)]), st) := by
  rw [s17_eq]
  unfold f17
  obtain ⟨l0, l1, l2⟩ := jload h.ob
  simp only [er1_ptr, given_s h.ob h.r1, ret_ret, un_not, Bool.not_true, cond_false, nilc_ptr, faddr_ptr, Nat.zero_add, l1, h.b.len, l2, er1_int]
theorem jnotes_s {st : St} {id room sure : Nat} {bv : V} {s : List UInt8} (h : JAt st id room bv s sure) : s15 [.ptr id 0] st = some (.ret (.lst (notesV (allN s).1) 0), st) := by
  rw [s15_eq]
  unfold f15
  obtain ⟨l0, l1, l2⟩ := jload h.ob
  obtain ⟨a1, _⟩ := all_s s (by have := h.str; omega) st
  simp only [er1_ptr, given_s h.ob h.r1, ret_ret, un_not, Bool.not_true, cond_false, nilc_ptr, faddr_ptr, Nat.zero_add, l1, h.b.str, er1_str, a1, A2, ext_0, ext_1, er1_lst]
theorem jsure_s {st : St} {id room sure : Nat} {bv : V} {s : List UInt8} (h : JAt st id room bv s sure) : s13 [.ptr id 0] st = some (.ret (.int .i64 0), st.put id (.cells (jC room bv s.length))) := by
  rw [s13_eq]
  unfold f13
  obtain ⟨l0, l1, l2⟩ := jload h.ob
  have e : (jC room bv sure).set 2 (.int .i64 (s.length : Nat)) = jC room bv s.length := rfl
  simp only [er1_ptr, given_s h.ob h.r1, ret_ret, un_not, Bool.not_true, cond_false, nilc_ptr, faddr_ptr, Nat.zero_add, l1, h.b.len, store_int, h.ob, obo_some, show 2 < (jC room bv sure).length from by simp [jC], if_true, e, er1_int]
theorem BytesAt.put {st : St} {id : Nat} {bv : V} {s : List UInt8} (h : BytesAt st id bv s) (cs : List V) : BytesAt (st.put id (.cells cs)) id bv s := by
  rcases h with h | ⟨b, rest, h1, h2, h3, h4⟩
  · exact .inl h
  · exact .inr ⟨b, rest, h1, by rw [put_ne _ _ h3]; exact h2, h3, h4⟩
theorem JAt.sure {st : St} {id room sure : Nat} {bv : V} {s : List UInt8} (h : JAt st id room bv s sure) : JAt (st.put id (.cells (jC room bv s.length))) id room bv s s.length ∧ JFr st (st.put id (.cells (jC room bv s.length))) id bv bv :=
  ⟨⟨put_at _ _ _, h.lt, h.b.put _, Nat.le_refl _, h.r1, h.r2, h.full⟩, ⟨rfl, rfl, Nat.le_refl _, fun i _ hd _ => put_ne _ _ hd, fun i h => .inl h⟩⟩
/-- What Write does. -/
def jwrite (room : Nat) (s : List UInt8) (n : Note) : Nat × List UInt8 := if packOK n = true then (if room < s.length + (packB n).length then (40, s) else (0, s ++ packB n)) else (1, s)
theorem BytesAt.new {st : St} {id : Nat} {bv : V} {s : List UInt8} (h : BytesAt st id bv s) (o : Ob) : BytesAt (st.new o) id bv s := by
  rcases h with h | ⟨b, rest, h1, h2, h3, h4⟩
  · exact .inl h
  · exact .inr ⟨b, rest, h1, by rw [new_ne _ _ (by omega)]; exact h2, h3, by rw [new_n]; omega⟩
theorem JAt.new {st : St} {id room sure : Nat} {bv : V} {s : List UInt8} (h : JAt st id room bv s sure) (o : Ob) : JAt (st.new o) id room bv s sure ∧ JFr st (st.new o) id bv bv := by
  have := h.lt
  exact ⟨⟨by rw [new_ne _ _ (by omega)]; exact h.ob, by rw [new_n]; omega, h.b.new o, h.le, h.r1, h.r2, h.full⟩, ⟨rfl, rfl, by simp, fun i hi _ _ => new_ne _ _ (by omega), fun i h => .inl h⟩⟩
theorem all_bytV (s : List UInt8) : (bytV s).all V.one = true := List.all_eq_true.2 (bytV_one s)
theorem flat_bytV (s : List UInt8) : flat (bytV s) = bytV s := by
  induction s with
  | nil => rfl
  | cons b s ih => simp only [bytV, flat, List.map_cons, List.flatMap_cons, cells_int] at ih ⊢; rw [ih]; rfl
/-- Bytes are appended. -/
theorem jappend {st : St} {id room sure : Nat} {bv : V} {s x : List UInt8} (h : JAt st id room bv s sure) (hx : x ≠ []) (hf : s.length + x.length ≤ room) : ∃ bv' st', (∀ K, A.appM 1 bv (some (bytV x)) st K = K bv' st') ∧ st'.ob id = some (.cells (jC room bv sure)) ∧ id < st'.n ∧ BytesAt st' id bv' (s ++ x) ∧
    st'.tk = st.tk ∧ st'.nt = st.nt ∧ st.n ≤ st'.n ∧ (∀ i, i < st.n → i ≠ id → ¬ owns bv i → st'.ob i = st.ob i) ∧ (∀ i, owns bv' i → owns bv i ∨ st.n ≤ i) := by
  have hr2 := h.r2
  have hlt := h.lt
  have hxn : bytV x ≠ [] := by cases x with | nil => exact absurd rfl hx | cons _ _ => simp [bytV]
  rcases h.b with ⟨rfl, rfl⟩ | ⟨b, rest, rfl, h1, h2, h3⟩
  · refine ⟨.sl st.n 0 x.length 1, st.new (.cells (bytV x)), fun K => ?_, by rw [new_ne _ _ (by omega)]; exact h.ob, by rw [new_n]; omega, .inr ⟨st.n, [], by simp, by simp, by omega, by simp⟩, rfl, rfl, by simp, fun i hi _ _ => new_ne _ _ (by omega), fun i hi => .inr (by cases hi; exact Nat.le_refl _)⟩
    simp only [List.length_nil, Nat.zero_add] at hf
    have c : ([] : List V).length + (bytV x).length ≤ 1073741824 ∧ szok 1 [] = true ∧ (1 = 1 ∨ 1 = 2) ∧ bytV x ≠ [] := ⟨by simp; omega, rfl, .inl rfl, hxn⟩
    have e : flat [] ++ flat (bytV x) = bytV x := by rw [flat_bytV]; rfl
    simp only [A.appM, c, and_self, if_true, e, List.length_nil, Nat.zero_add, bytV_len]
    rw [if_pos (by simpa using c)]
  · have hne : st.n ≠ id := by omega
    refine ⟨.sl st.n 0 (s ++ x).length 1, (st.del b).new (.cells (bytV (s ++ x))), fun K => ?_, ?_, by rw [new_n, del_n]; omega, .inr ⟨st.n, [], rfl, by rw [List.append_nil]; show (if st.n = (st.del b).n then _ else _) = _; rw [del_n, if_pos rfl], hne, by rw [new_n, del_n]; omega⟩, rfl, rfl, by rw [new_n, del_n]; omega, fun i hi hd ho => ?_, fun i hi => .inr (by cases hi; exact Nat.le_refl _)⟩
    · have e1 : (bytV (s ++ rest)).take (s.length * 1) = bytV s := by
        rw [Nat.mul_one, bytV_append, List.take_left' (by rw [bytV_len])]
      have c : s.length + (bytV x).length ≤ 1073741824 ∧ True ∧ True ∧ s.length * 1 ≤ (bytV (s ++ rest)).length ∧ (0 < s.length ∨ bytV x ≠ []) ∧ ((bytV (s ++ rest)).take (s.length * 1)).all V.one = true :=
        ⟨by rw [bytV_len]; omega, trivial, trivial, by rw [bytV_len, List.length_append]; omega, .inr hxn, by rw [e1]; exact all_bytV s⟩
      simp only [A.appM, h1]
      rw [if_pos c, e1, flat_bytV, bytV_len, ← bytV_append, List.length_append]
    · show (if id = (st.del b).n then _ else (st.del b).ob id) = _
      rw [del_n, if_neg (by omega), del_ob, if_neg (Ne.symm h2)]; exact h.ob
    · show (if i = (st.del b).n then _ else (st.del b).ob i) = _
      rw [del_n, if_neg (by omega), del_ob, if_neg (fun g => ho (by rw [g]; exact rfl))]
theorem jwrite_s {st : St} {id room sure : Nat} {bv : V} {s : List UInt8} (h : JAt st id room bv s sure) (n : Note) (hn : NoteOK n) :
    ∃ st' bv', s12 [.ptr id 0, noteV n] st = some (.ret (.int .i64 ((jwrite room s n).1 : Nat)), st') ∧ JAt st' id room bv' (jwrite room s n).2 sure ∧ JFr st st' id bv bv' := by
  rw [s12_eq]
  unfold f12
  have bx : ∀ K, A.box (noteV n) st K = K (.ptr st.n 0) (st.new (.cells (noteC n))) := fun K => rfl
  have hob := new_at st (.cells (noteC n))
  have hnv : (V.agg (noteC n)).er1 = noteV n := rfl
  obtain ⟨h1, fr⟩ := h.new (.cells (noteC n))
  simp only [bx, load_noteb hob, hnv, pack_s n hn, ret_ret, er1_ptr, given_s h1.ob h1.r1, un_not, Bool.not_true, guard_ff]
  generalize st.new (.cells (noteC n)) = st1 at h1 fr
  obtain ⟨l0, l1, l2⟩ := jload h1.ob
  unfold jwrite
  have hstr := h.str
  have hr2 := h.r2
  cases hp : packOK n with
  | false =>
    simp only [Bool.false_eq_true, if_false, P2, ext_0, ext_1, eql_int, if_true, show (((1 : Nat) : Int) != 0) = true from rfl]
    unfold g12b11001
    simp only [cond_true, er1_int]
    exact ⟨st1, bv, rfl, h1, fr⟩
  | true =>
    have hpl := packB_le hp
    have hpn : packB n ≠ [] := fun g => by have := packB_len n; rw [g] at this; simp at this; omega
    simp only [if_true, P2, ext_0, ext_1, eql_int, show (((0 : Nat) : Int) != 0) = false from rfl]
    unfold g12b11001
    have ea : ∀ K, A.bin .add (.int .i64 (s.length : Nat)) (.int .i64 ((packB n).length : Nat)) K = K (.int .i64 ((s.length + (packB n).length : Nat) : Int)) := fun K => bin_addN _ _ K (by omega)
    simp only [cond_false, nilc_ptr, faddr_ptr, Nat.zero_add, l1, h1.b.len, lenS_str, ea, l0, bin_gtr]
    by_cases hc : room < s.length + (packB n).length
    · simp only [show ((room : Int) < ((s.length + (packB n).length : Nat) : Int)) from by omega, decide_true, cond_true, er1_int, if_pos hc]
      exact ⟨st1, bv, rfl, h1, fr⟩
    · simp only [show ¬ ((room : Int) < ((s.length + (packB n).length : Nat) : Int)) from by omega, decide_false, cond_false, if_neg hc]
      unfold g12b111
      obtain ⟨bv', st2, q1, q2, q3, q4, q5, q6, q7, q8, q9⟩ := jappend h1 hpn (by omega)
      have hone := q4.one
      have e : (jC room bv sure).set 1 bv' = jC room bv' sure := rfl
      simp only [nilc_ptr, faddr_ptr, Nat.zero_add, l1, elemsOf_str, q1]
      rw [store_ob _ _ _ _ _ hone, q2, obo_some, if_pos (show 1 < (jC room bv sure).length by simp [jC]), e]
      have le := h.le
      refine ⟨_, bv', rfl, ⟨put_at _ _ _, q3, q4.put _, by rw [List.length_append]; omega, h.r1, h.r2, by rw [List.length_append]; omega⟩, ?_⟩
      refine fr.trans ⟨by rw [put_tk]; exact q5, by rw [put_nt]; exact q6, by rw [put_n]; exact q7, fun i hi hd ho => ?_, q9⟩
      rw [put_ne _ _ hd]; exact q8 i hi hd ho
end Go.Ab
