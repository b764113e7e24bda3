import Derived.Test.YtimicmlpaaohoaaAbX15d
import Derived.Test.YtimicmlpaaohoaaAbX15e
/- sinew/link: packets. -/
namespace Go.Ab
open Go.Proofs Go.RowKit Go.Oct
set_option linter.unusedVariables false
set_option linter.unusedSimpArgs false
set_option maxRecDepth 100000
/-- A note as bytes, none if it may not be. -/
def pkt (n : Note) : List UInt8 := if packOK n = true then packB n else []
theorem pkt_s (n : Note) (hn : NoteOK n) (st : St) : s44 [noteV n] st = some (.ret (.str (pkt n)), st) := by
  rw [s44_eq]
  refine fg_of (st' := st.new (.cells (noteC n))) (v := .str (pkt n)) ?_ ((Ks.refl st).new _) rfl
  unfold f44
  have bx : ∀ K, A.box (noteV n) st K = K (.ptr st.n 0) (st.new (.cells (noteC n))) := fun K => rfl
  have hnv : (V.agg (noteC n)).er1 = noteV n := rfl
  simp only [bx, load_noteb (new_at st _), hnv, pack_s n hn, ret_ret]
  unfold pkt
  cases packOK n <;> simp [P2]
structure Lk where
  epoch : Nat
  other : Nat
  first : Nat
  want : Nat
  q : List (List UInt8)
def lkC (l : Lk) (t : Nat) : List V := [.int .i64 (l.epoch : Nat), .int .i64 (l.other : Nat), .int .i64 (l.first : Nat), .int .i64 (l.want : Nat), .lst (strsV l.q) t]
/-- Its numbers are few enough. -/
structure LkOK (l : Lk) : Prop where
  e1 : 1 ≤ l.epoch
  e2 : l.epoch ≤ 1099511627776
  o : l.other ≤ 4611686018427387903
  f : l.first ≤ 1000000000000
  w : l.want ≤ 1000000000000
  q : l.q.length ≤ 4096
def pk1 (l : Lk) (k : Nat) : Note := ⟨1, [(l.epoch : Int), (l.other : Int), ((l.first + k : Nat) : Int), (l.want : Int)], [l.q.getD k []], []⟩
def pk2 (l : Lk) : Note := ⟨2, [(l.epoch : Int), (l.other : Int), (l.want : Int)], [], []⟩
theorem pk1_ok (l : Lk) (k : Nat) : NoteOK (pk1 l k) := ⟨by simp [pk1], by simp [pk1], by simp [pk1], by simp [pk1]⟩
theorem pk2_ok (l : Lk) : NoteOK (pk2 l) := ⟨by simp [pk2], by simp [pk2], by simp [pk2], by simp [pk2]⟩
theorem lload {st : St} {id t : Nat} {l : Lk} (h : st.ob id = some (.cells (lkC l t))) : (∀ K, A.load false 1 (.ptr id 0) st K = K (.int .i64 (l.epoch : Nat)) st) ∧ (∀ K, A.load false 1 (.ptr id 1) st K = K (.int .i64 (l.other : Nat)) st) ∧ (∀ K, A.load false 1 (.ptr id 2) st K = K (.int .i64 (l.first : Nat)) st) ∧ (∀ K, A.load false 1 (.ptr id 3) st K = K (.int .i64 (l.want : Nat)) st) ∧ (∀ K, A.load false 1 (.ptr id 4) st K = K (.lst (strsV l.q) t) st) := by
  refine ⟨fun K => ?_, fun K => ?_, fun K => ?_, fun K => ?_, fun K => ?_⟩ <;> simp [h, lkC]
theorem lat_s {st : St} {id t : Nat} {l : Lk} (h : st.ob id = some (.cells (lkC l t))) (hl : LkOK l) (k : Nat) (hk : k < l.q.length) : s32 [.ptr id 0, .int .i64 (k : Nat)] st = some (.ret (.str (pkt (pk1 l k))), st) := by
  rw [s32_eq]
  refine fg_of (st' := st) (v := .str (pkt (pk1 l k))) ?_ (Ks.refl st) rfl
  unfold f32
  obtain ⟨l0, l1, l2, l3, l4⟩ := lload h
  have hq := hl.q
  have hf := hl.f
  have ea : ∀ K, A.bin .add (.int .i64 (l.first : Nat)) (.int .i64 (k : Nat)) K = K (.int .i64 ((l.first + k : Nat) : Int)) := fun K => bin_addN _ _ K (by omega)
  have b4 : ∀ (a b c d : Int) K, A.bslice 1 (.int .i64 0) 4 [(0, .int .i64 a), (1, .int .i64 b), (2, .int .i64 c), (3, .int .i64 d)] K = K (.lst (intsV [a, b, c, d]) 2) := fun a b c d K => rfl
  have b1 : ∀ (s : List UInt8) K, A.bslice 1 (.str []) 1 [(0, .str s)] K = K (.lst (strsV [s]) 2) := fun s K => rfl
  have bu : ∀ (xs : List Int) (ss : List (List UInt8)) K, A.build [.int .i64 0, .lst [] 1, .lst [] 1, .lst [] 1] [(0, 1, .int .i64 1), (1, 1, .lst (intsV xs) 2), (2, 1, .lst (strsV ss) 2)] K = K (.agg (nC 1 xs 2 ss 2 [] 1)) := fun xs ss K => rfl
  have er : (V.agg (nC 1 [(l.epoch : Int), (l.other : Int), ((l.first + k : Nat) : Int), (l.want : Int)] 2 [l.q[k]] 2 [] 1)).er1 = noteV (pk1 l k) := by
    show noteV ⟨1, [(l.epoch : Int), (l.other : Int), ((l.first + k : Nat) : Int), (l.want : Int)], [l.q[k]], []⟩ = _
    unfold pk1
    rw [List.getD_eq_getElem?_getD, List.getElem?_eq_getElem hk]; rfl
  simp only [nilc_ptr, faddr_ptr, Nat.zero_add, l0, l1, l2, ea, l3, b4, l4, iaddr_strs t hk, load_l1', b1, bu, er, pkt_s _ (pk1_ok l k), ret_ret, kid_eq, noP_ret, er1_str]
theorem lstands_s {st : St} {id t : Nat} {l : Lk} (h : st.ob id = some (.cells (lkC l t))) : s36 [.ptr id 0] st = some (.ret (.lst (strsV [pkt (pk2 l)]) 0), st) := by
  rw [s36_eq]
  refine fg_of (st' := st) (v := .lst (strsV [pkt (pk2 l)]) 2) ?_ (Ks.refl st) (by simp)
  unfold f36
  obtain ⟨l0, l1, l2, l3, l4⟩ := lload h
  have b3 : ∀ (a b c : Int) K, A.bslice 1 (.int .i64 0) 3 [(0, .int .i64 a), (1, .int .i64 b), (2, .int .i64 c)] K = K (.lst (intsV [a, b, c]) 2) := fun a b c K => rfl
  have b1 : ∀ (s : List UInt8) K, A.bslice 1 (.str []) 1 [(0, .str s)] K = K (.lst (strsV [s]) 2) := fun s K => rfl
  have bu : ∀ (xs : List Int) K, A.build [.int .i64 0, .lst [] 1, .lst [] 1, .lst [] 1] [(0, 1, .int .i64 2), (1, 1, .lst (intsV xs) 2)] K = K (.agg (nC 2 xs 2 [] 1 [] 1)) := fun xs K => rfl
  have er : (V.agg (nC 2 [(l.epoch : Int), (l.other : Int), (l.want : Int)] 2 [] 1 [] 1)).er1 = noteV (pk2 l) := rfl
  simp only [nilc_ptr, faddr_ptr, Nat.zero_add, l0, l1, l3, b3, bu, er, pkt_s _ (pk2_ok l), ret_ret, kid_eq, noP_ret, b1, er1_lst]
/-- The only note of bytes. -/
def oneO (s : List UInt8) : Bool := decide ((unpL s).2.2 = 0) && decide ((unpL s).2.1 = s.length)
def oneN (s : List UInt8) : Note := (unpL s).1
theorem one_small (s : List UInt8) (hs : s.length ≤ 9223372036854775807) : NoteSmall (oneN s) := (unp_s s hs St0).2
theorem one_s (s : List UInt8) (hs : s.length ≤ 9223372036854775807) (st : St) : s48 [.str s] st = some (.ret (.tup [noteV (oneN s), .bool (oneO s)]), st) := by
  rw [s48_eq]
  have key : ∃ st', f48 (.str s) st = some (.ret (.tup [noteV (oneN s), .bool (oneO s)]), st') ∧ Ks st st' := by
    unfold f48
    simp only [box_zero, er1_str, (unp_s s hs _).1, ret_ret, U3, ext_0, ext_1, ext_2, store_note (new_at _ _)]
    unfold g48b11
    have k0 := (Ks.refl st).new (.cells (nC 0 [] 1 [] 1 [] 1))
    have o0 := new_at st (.cells (nC 0 [] 1 [] 1 [] 1))
    have n0 : st.n < (st.new (.cells (nC 0 [] 1 [] 1 [] 1))).n := by simp
    generalize st.new (.cells (nC 0 [] 1 [] 1 [] 1)) = st1 at k0 o0 n0
    have k1 := k0.new (.cells (nC 0 [] 1 [] 1 [] 1))
    have hle := k0.n
    have k2 := k1.put hle (.cells (noteC (oneN s)))
    have o1 : ((st1.new (.cells (nC 0 [] 1 [] 1 [] 1))).put st1.n (.cells (noteC (oneN s)))).ob st.n = some (.cells (nC 0 [] 1 [] 1 [] 1)) := by
      rw [put_ne _ _ (by omega), new_ne _ _ (by omega)]; exact o0
    have o2 := put_at (st1.new (.cells (nC 0 [] 1 [] 1 [] 1))) st1.n (.cells (noteC (oneN s)))
    show ∃ st', (A.load true 4 (.ptr st1.n 0) ((st1.new (.cells (nC 0 [] 1 [] 1 [] 1))).put st1.n (.cells (noteC (oneN s)))) _) = _ ∧ _
    generalize (st1.new (.cells (nC 0 [] 1 [] 1 [] 1))).put st1.n (.cells (noteC (oneN s))) = st2 at k2 o1 o2
    have sn : ∀ K, A.store 4 (.ptr st.n 0) (.agg (noteC (oneN s))) st2 K = K (st2.put st.n (.cells (noteC (oneN s)))) := fun K => store_note o1 _ K
    have ld : ∀ K, A.load true 4 (.ptr st.n 0) (st2.put st.n (.cells (noteC (oneN s)))) K = K (.agg (noteC (oneN s))) (st2.put st.n (.cells (noteC (oneN s)))) := fun K => load_noteb (put_at _ _ _) K
    have her : (V.agg (noteC (oneN s))).er1 = noteV (oneN s) := rfl
    have e1 : oneO s = (decide ((unpL s).2.2 = 0) && decide ((unpL s).2.1 = s.length)) := rfl
    refine ⟨st2.put st.n (.cells (noteC (oneN s))), ?_, k2.put (Nat.le_refl _) _⟩
    by_cases h0 : (unpL s).2.2 = 0
    · have e2 : decide ((((unpL s).2.1 : Nat) : Int) = (s.length : Int)) = decide ((unpL s).2.1 = s.length) := by apply decide_eq_decide.2; omega
      have e3 : ((((unpL s).2.1 : Nat) : Int) == (s.length : Int)) = decide ((unpL s).2.1 = s.length) := by rw [← e2]; rfl
      simp only [load_noteb o2, eql_int, Bool.false_eq_true, if_false, h0, show (((0 : Nat) : Int) == 0) = true from rfl, guard_tt, lenS_str, sn, ld, kid_eq, rtmp_some, rcell_some, res_two, her, er1_bool, e3, e1, decide_true, Bool.true_and]
    · have e3 : (((((unpL s).2.2 : Nat) : Int)) == 0) = false := by
        rw [beq_eq_false_iff_ne]; omega
      simp only [load_noteb o2, eql_int, Bool.false_eq_true, if_false, e3, guard_ft, lenS_str, sn, ld, kid_eq, rtmp_some, rcell_some, res_two, her, er1_bool, e1, h0, decide_false, Bool.false_and]
  obtain ⟨st', h1, h2⟩ := key
  have hp := pu_note (oneN s)
  have := fg_of h1 h2 (by
    show V.pu (V.tup [noteV (oneN s), .bool (oneO s)]).era = true
    have e : (V.tup [noteV (oneN s), .bool (oneO s)]).era = .tup [noteV (oneN s), .bool (oneO s)] := rfl
    rw [e]; simp [hp])
  exact this
end Go.Ab
