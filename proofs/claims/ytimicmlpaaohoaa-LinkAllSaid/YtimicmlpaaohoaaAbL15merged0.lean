import Derived.Test.YtimicmlpaaohoaaAbX15d
import Derived.Test.YtimicmlpaaohoaaAbX15e
/- sinew/link: packets. -/
namespace Go.Ab
open Go.Proofs Go.RowKit Go.Oct
set_option linter.unusedVariables false
set_option linter.unusedSimpArgs false
set_option maxRecDepth 100000
/-- A note as bytes, none if it may not be. -/
def pkt (n : Note) : List UInt8 := if packOK n = true then packB n else []
theorem pkt_s (n : Note) (hn : NoteOK n) (st : St) : s44 [noteV n] st = some (.ret (.str (pkt n)), st) := by
  rw [s44_eq]
  refine fg_of (st' := st.new (.cells (noteC n))) (v := .str (pkt n)) ?_ ((Ks.refl st).new _) rfl
  unfold f44
  have bx : ∀ K, A.box (noteV n) st K = K (.ptr st.n 0) (st.new (.cells (noteC n))) := fun K => rfl
  have hnv : (V.agg (noteC n)).er1 = noteV n := rfl
  simp only [bx, load_noteb (new_at st _), hnv, pack_s n hn, ret_ret]
  unfold pkt
  cases packOK n <;> simp [P2]
structure Lk where
  epoch : Nat
  other : Nat
  first : Nat
  want : Nat
  q : List (List UInt8)
def lkC (l : Lk) (t : Nat) : List V := [.int .i64 (l.epoch : Nat), .int .i64 (l.other : Nat), .int .i64 (l.first : Nat), .int .i64 (l.want : Nat), .lst (strsV l.q) t]
/-- Its numbers are few enough. -/
structure LkOK (l : Lk) : Prop where
  e1 : 1 ≤ l.epoch
  e2 : l.epoch ≤ 1099511627776
  o : l.other ≤ 4611686018427387903
  f : l.first ≤ 1000000000000
  w : l.want ≤ 1000000000000
  q : l.q.length ≤ 4096
def pk1 (l : Lk) (k : Nat) : Note := ⟨1, [(l.epoch : Int), (l.other : Int), ((l.first + k : Nat) : Int), (l.want : Int)], [l.q.getD k []], []⟩
def pk2 (l : Lk) : Note := ⟨2, [(l.epoch : Int), (l.other : Int), (l.want : Int)], [], []⟩
theorem pk1_ok (l : Lk) (k : Nat) : NoteOK (pk1 l k) := ⟨by simp [pk1], by simp [pk1], by simp [pk1], by simp [pk1]⟩
theorem pk2_ok (l : Lk) : NoteOK (pk2 l) := ⟨by simp [pk2], by simp [pk2], by simp [pk2], by simp [pk2]⟩
theorem lload {st : St} {id t : Nat} {l : Lk} (h : st.ob id = some (.cells (lkC l t))) : (∀ K, A.load false 1 (.ptr id 0) st K = K (.int .i64 (l.epoch : Nat)) st) ∧ (∀ K, A.load false 1 (.ptr id 1) st K = K (.int .i64 (l.other : Nat)) st) ∧ (∀ K, A.load false 1 (.ptr id 2) st K = K (.int .i64 (l.first : Nat)) st) ∧ (∀ K, A.load false 1 (.ptr id 3) st K = K (.int .i64 (l.want : Nat)) st) ∧ (∀ K, A.load false 1 (.ptr id 4) st K = K (.lst (strsV l.q) t) st) := by
  refine ⟨fun K => ?_, fun K => ?_, fun K => ?_, fun K => ?_, fun K => ?_⟩ <;> simp [h, lkC]
theorem lat_s {st : St} {id t : Nat} {l : Lk} (h : st.ob id = some (.cells (lkC l t))) (hl : LkOK l) (k : Nat) (hk : k < l.q.length) : s32 [.ptr id 0, .int .i64 (k : Nat)] st = some (.ret (.str (pkt (pk1 l k))), st) := by
  rw [s32_eq]
  refine fg_of (st' := st) (v := .str (pkt (pk1 l k))) ?_ (Ks.refl st) rfl
  unfold f32
  obtain ⟨l0, l1, l2, l3, l4⟩ := lload h
  have hq := hl.q
  have hf := hl.f
  have ea : ∀ K, A.bin .add (.int .i64 (l.first : Nat)) (.int .i64 (k : Nat)) K = K (.int .i64 ((l.first + k : Nat) : Int)) := fun K => bin_addN _ _ K (by omega)
  have b4 : ∀ (a b c d : Int) K, A.bslice 1 (.int .i64 0) 4 [(0, .int .i64 a), (1, .int .i64 b), (2, .int .i64 c), (3, .int .i64 d)] K = K (.lst (intsV [a, b, c, d]) 2) := fun a b c d K => rfl
  have b1 : ∀ (s : List UInt8) K, A.bslice 1 (.str []) 1 [(0, .str s)] K = K (.lst (strsV [s]) 2) := fun s K => rfl
  have bu : ∀ (xs : List Int) (ss : List (List UInt8)) K, A.build [.int .i64 0, .lst [] 1, .lst [] 1, .lst [] 1] [(0, 1, .int .i64 1), (1, 1, .lst (intsV xs) 2), (2, 1, .lst (strsV ss) 2)] K = K (.agg (nC 1 xs 2 ss 2 [] 1)) := fun xs ss K => rfl
  have er : (V.agg (nC 1 [(l.epoch : Int), (l.other : Int), ((l.first + k : Nat) : Int), (l.want : Int)] 2 [l.q[k]] 2 [] 1)).er1 = noteV (pk1 l k) := by
    show noteV ⟨1, [(l.epoch : Int), (l.other : Int), ((l.first + k : Nat) : Int), (l.want : Int)], [l.q[k]], []⟩ = _
    unfold pk1
    rw [List.getD_eq_getElem?_getD, List.getElem?_eq_getElem hk]; rfl
  simp only [nilc_ptr, faddr_ptr, Nat.zero_add, l0, l1, l2, ea, l3, b4, l4, iaddr_strs t hk, load_l1', b1, bu, er, pkt_s _ (pk1_ok l k), ret_ret, kid_eq, noP_ret, er1_str]
theorem lstands_s {st : St} {id t : Nat} {l : Lk} (h : st.ob id = some (.cells (lkC l t))) : s36 [.ptr id 0] st = some (.ret (.lst (strsV [pkt (pk2 l)]) 0), st) := by
  rw [s36_eq]
  refine fg_of (st' := st) (v := .lst (strsV [pkt (pk2 l)]) 2) ?_ (Ks.refl st) (by simp)
  unfold f36
  obtain ⟨l0, l1, l2, l3, l4⟩ := lload h
  have b3 : ∀ (a b c : Int) K, A.bslice 1 (.int .i64 0) 3 [(0, .int .i64 a), (1, .int .i64 b), (2, .int .i64 c)] K = K (.lst (intsV [a, b, c]) 2) := fun a b c K => rfl
  have b1 : ∀ (s : List UInt8) K, A.bslice 1 (.str []) 1 [(0, .str s)] K = K (.lst (strsV [s]) 2) := fun s K => rfl
  have bu : ∀ (xs : List Int) K, A.build [.int .i64 0, .lst [] 1, .lst [] 1, .lst [] 1] [(0, 1, .int .i64 2), (1, 1, .lst (intsV xs) 2)] K = K (.agg (nC 2 xs 2 [] 1 [] 1)) := fun xs K => rfl
  have er : (V.agg (nC 2 [(l.epoch : Int), (l.other : Int), (l.want : Int)] 2 [] 1 [] 1)).er1 = noteV (pk2 l) := rfl
  simp only [nilc_ptr, faddr_ptr, Nat.zero_add, l0, l1, l3, b3, bu, er, pkt_s _ (pk2_ok l), ret_ret, kid_eq, noP_ret, b1, er1_lst]
/-- The only note of bytes. -/
def oneO (s : List UInt8) : Bool := decide ((unpL s).2.2 = 0) && decide ((unpL s).2.1 = s.length)
def oneN (s : List UInt8) : Note := (unpL s).1
theorem one_small (s : List UInt8) (hs : s.length ≤ 9223372036854775807) : NoteSmall (oneN s) := (unp_s s hs St0).2
theorem one_s (s : List UInt8) (hs : s.length ≤ 9223372036854775807) (st : St) : s48 [.str s] st = some (.ret (.tup [noteV (oneN s), .bool (oneO s)]), st) := by
  rw [s48_eq]
  have key : ∃ st', f48 (.str s) st = some (.ret (.tup [noteV (oneN s), .bool (oneO s)]), st') ∧ Ks st st' := by
    unfold f48
    simp only [box_zero, er1_str, (unp_s s hs _).1, ret_ret, U3, ext_0, ext_1, ext_2, store_note (new_at _ _)]
    unfold g48b11
    have k0 := (Ks.refl st).new (.cells (nC 0 [] 1 [] 1 [] 1))
    have o0 := new_at st (.cells (nC 0 [] 1 [] 1 [] 1))
    have n0 : st.n < (st.new (.cells (nC 0 [] 1 [] 1 [] 1))).n := by simp
    generalize st.new (.cells (nC 0 [] 1 [] 1 [] 1)) = st1 at k0 o0 n0
    have k1 := k0.new (.cells (nC 0 [] 1 [] 1 [] 1))
    have hle := k0.n
    have k2 := k1.put hle (.cells (noteC (oneN s)))
    have o1 : ((st1.new (.cells (nC 0 [] 1 [] 1 [] 1))).put st1.n (.cells (noteC (oneN s)))).ob st.n = some (.cells (nC 0 [] 1 [] 1 [] 1)) := by
      rw [put_ne _ _ (by omega), new_ne _ _ (by omega)]; exact o0
    have o2 := put_at (st1.new (.cells (nC 0 [] 1 [] 1 [] 1))) st1.n (.cells (noteC (oneN s)))
    show ∃ st', (A.load true 4 (.ptr st1.n 0) ((st1.new (.cells (nC 0 [] 1 [] 1 [] 1))).put st1.n (.cells (noteC (oneN s)))) _) = _ ∧ _
    generalize (st1.new (.cells (nC 0 [] 1 [] 1 [] 1))).put st1.n (.cells (noteC (oneN s))) = st2 at k2 o1 o2
    have sn : ∀ K, A.store 4 (.ptr st.n 0) (.agg (noteC (oneN s))) st2 K = K (st2.put st.n (.cells (noteC (oneN s)))) := fun K => store_note o1 _ K
    have ld : ∀ K, A.load true 4 (.ptr st.n 0) (st2.put st.n (.cells (noteC (oneN s)))) K = K (.agg (noteC (oneN s))) (st2.put st.n (.cells (noteC (oneN s)))) := fun K => load_noteb (put_at _ _ _) K
    have her : (V.agg (noteC (oneN s))).er1 = noteV (oneN s) := rfl
    have e1 : oneO s = (decide ((unpL s).2.2 = 0) && decide ((unpL s).2.1 = s.length)) := rfl
    refine ⟨st2.put st.n (.cells (noteC (oneN s))), ?_, k2.put (Nat.le_refl _) _⟩
    by_cases h0 : (unpL s).2.2 = 0
    · have e2 : decide ((((unpL s).2.1 : Nat) : Int) = (s.length : Int)) = decide ((unpL s).2.1 = s.length) := by apply decide_eq_decide.2; omega
      have e3 : ((((unpL s).2.1 : Nat) : Int) == (s.length : Int)) = decide ((unpL s).2.1 = s.length) := by rw [← e2]; rfl
      simp only [load_noteb o2, eql_int, Bool.false_eq_true, if_false, h0, show (((0 : Nat) : Int) == 0) = true from rfl, guard_tt, lenS_str, sn, ld, kid_eq, rtmp_some, rcell_some, res_two, her, er1_bool, e3, e1, decide_true, Bool.true_and]
    · have e3 : (((((unpL s).2.2 : Nat) : Int)) == 0) = false := by
        rw [beq_eq_false_iff_ne]; omega
      simp only [load_noteb o2, eql_int, Bool.false_eq_true, if_false, e3, guard_ft, lenS_str, sn, ld, kid_eq, rtmp_some, rcell_some, res_two, her, er1_bool, e1, h0, decide_false, Bool.false_and]
  obtain ⟨st', h1, h2⟩ := key
  have hp := pu_note (oneN s)
  have := fg_of h1 h2 (by
    show V.pu (V.tup [noteV (oneN s), .bool (oneO s)]).era = true
    have e : (V.tup [noteV (oneN s), .bool (oneO s)]).era = .tup [noteV (oneN s), .bool (oneO s)] := rfl
    rw [e]; simp [hp])
  exact this
end Go.Ab

/- sinew/link: what each function does. -/
namespace Go.Ab
open Go.Proofs Go.RowKit Go.Oct
set_option linter.unusedVariables false
set_option linter.unusedSimpArgs false
set_option maxRecDepth 100000
/-- A packet, its payload, whether it is one. -/
def rdN (s : List UInt8) : Note × Bool :=
  if oneO s = true ∧ (oneN s).rows.length = 0 then
    (if (oneN s).kind = 2 ∧ (oneN s).nums.length = 3 ∧ (oneN s).texts.length = 0 then (emptyN, true)
     else if (oneN s).kind = 1 ∧ (oneN s).nums.length = 4 ∧ (oneN s).texts.length = 1 then (oneN ((oneN s).texts.getD 0 []), oneO ((oneN s).texts.getD 0 []))
     else (emptyN, false))
  else (emptyN, false)
theorem eq_nat (a b : Nat) : ((a : Int) == (b : Int)) = decide (a = b) := by
  rw [show ((a : Int) == (b : Int)) = decide ((a : Int) = (b : Int)) from rfl]
  apply decide_eq_decide.2; omega
theorem eq_int (a b : Int) : (a == b) = decide (a = b) := rfl
theorem ldv_note {st : St} {p : Nat} {n : Note} (h : st.ob p = some (.cells (noteC n))) : ldv true 4 (.ptr p 0) st = some (noteV n) := by
  unfold ldv
  rw [load_noteb h]; rfl
theorem unp_len (s : List UInt8) : ∀ t ∈ (unpL s).1.texts, t.length ≤ 65536 := by
  by_cases h : (unpL s).2.2 = 0
  · have := (unp_back h).2
    simp only [packOK, Bool.and_eq_true] at this
    have hf := this.1
    unfold fitsW at hf
    simp only [Bool.and_eq_true, Bool.not_eq_true', decide_eq_false_iff_not, Int.not_lt, Nat.not_lt, decide_eq_true_eq] at hf
    obtain ⟨k1, k2, k3, k4, k5, k6, k7, k8⟩ := hf
    exact longT_iff k7
  · unfold unpL at h ⊢
    split
    · simp [emptyN]
    · split
      · simp [emptyN]
      · split
        · simp [emptyN]
        · split
          · simp [emptyN]
          · rename_i c1 c2 c3 c4
            rw [if_neg c1, if_neg c2, if_neg c3, if_neg c4] at h
            cases hp : parseO ((s.drop 8).take (of4 s)) with
            | none => simp [emptyN]
            | some n => rw [hp] at h; simp at h
theorem lread_s (s : List UInt8) (hs : s.length ≤ 9223372036854775807) (st : St) : s35 [.str s] st = some (.ret (.tup [noteV (oneN s), noteV (rdN s).1, .bool (rdN s).2]), st) := by
  rw [s35_eq]
  have key : ∃ st', f35 (.str s) st = some (.ret (.tup [noteV (oneN s), noteV (rdN s).1, .bool (rdN s).2]), st') ∧ Ks st st' := by
    unfold f35
    have oa : ((st.new (.cells (nC 0 [] 1 [] 1 [] 1))).new (.cells (nC 0 [] 1 [] 1 [] 1))).ob st.n = some (.cells (nC 0 [] 1 [] 1 [] 1)) := by simp [new_ob]
    have ob : ((st.new (.cells (nC 0 [] 1 [] 1 [] 1))).new (.cells (nC 0 [] 1 [] 1 [] 1))).ob (st.n + 1) = some (.cells (nC 0 [] 1 [] 1 [] 1)) := by simp [new_ob]
    have k0 := ((Ks.refl st).new (.cells (nC 0 [] 1 [] 1 [] 1))).new (.cells (nC 0 [] 1 [] 1 [] 1))
    simp only [box_zero, new_n]
    generalize (st.new (.cells (nC 0 [] 1 [] 1 [] 1))).new (.cells (nC 0 [] 1 [] 1 [] 1)) = st1 at oa ob k0
    have hpq : st.n + 1 ≠ st.n := by omega
    have kp : st.n ≤ st.n := Nat.le_refl _
    have kq : st.n ≤ st.n + 1 := by omega
    generalize st.n + 1 = q at ob hpq kq
    generalize hpn : st.n = p at oa hpq kp kq
    simp only [er1_str, one_s s hs, ret_ret, ext_0, ext_1, store_note oa]
    have oa1 := put_at st1 p (.cells (noteC (oneN s)))
    have ob1 : (st1.put p (.cells (noteC (oneN s)))).ob q = some (.cells (nC 0 [] 1 [] 1 [] 1)) := by rw [put_ne _ _ hpq]; exact ob
    have k1 := k0.put (i := p) (by omega) (.cells (noteC (oneN s)))
    generalize st1.put p (.cells (noteC (oneN s))) = st2 at oa1 ob1 k1
    -- the end
    have fin1 : ∀ (n : Note) (b : Bool) (st3 : St), st3.ob p = some (.cells (noteC (oneN s))) → st3.ob q = some (.cells (noteC n)) → Ks st st3 → ∃ st', (A.load true 4 (.ptr p 0) st3 fun a1 _ => A.load true 4 (.ptr q 0) st3 fun a2 _ => A.noP (A.store 4 (.ptr p 0) a1 st3 fun s => kid (.tup []) s) fun a3 z4 => A.chk (ldv true 4 (.ptr q 0) z4) a2 (A.noP (A.store 4 (.ptr q 0) a2 z4 fun s => kid (.tup []) s) fun a5 z6 => A.res (rcell (A.load true 4 (.ptr p 0) z6 kid) (rcell (A.load true 4 (.ptr q 0) z6 kid) (rtmp (.bool b) (some [])))) z6)) = some (.ret (.tup [noteV (oneN s), noteV n, .bool b]), st') ∧ Ks st st' := by
      intro n b st3 h1 h2 k3
      have sg : ∀ {st : St} {p : Nat} {m : Note} (h : st.ob p = some (.cells (noteC m))) (n : Note) (K : St → Res), A.store 4 (.ptr p 0) (.agg (noteC n)) st K = K (st.put p (.cells (noteC n))) := fun {st p m} h n K => by
        rw [store_agg, h, obo_some]; simp [noteC, Go.Ab.putL]
      have h3 : (st3.put p (.cells (noteC (oneN s)))).ob q = some (.cells (noteC n)) := by rw [put_ne _ _ hpq]; exact h2
      have h4 := put_at st3 p (.cells (noteC (oneN s)))
      have h5 : ((st3.put p (.cells (noteC (oneN s)))).put q (.cells (noteC n))).ob p = some (.cells (noteC (oneN s))) := by rw [put_ne _ _ (Ne.symm hpq)]; exact h4
      have h6 := put_at (st3.put p (.cells (noteC (oneN s)))) q (.cells (noteC n))
      have c : ∀ k : Res, A.chk (ldv true 4 (.ptr q 0) (st3.put p (.cells (noteC (oneN s))))) (.agg (noteC n)) k = k := fun k => by rw [ldv_note h3]; exact chk_same _ _
      have hnv : ∀ n : Note, (V.agg (noteC n)).er1 = noteV n := fun n => rfl
      simp only [load_noteb h1, load_noteb h2, sg h1, kid_eq, noP_ret, c, sg h3, load_noteb h5, load_noteb h6, rtmp_some, rcell_some, res_two, hnv, er1_bool]
      exact ⟨_, rfl, (k3.put (by omega) _).put (by omega) _⟩
    have hem : (nC 0 [] 1 [] 1 [] 1) = nC 0 [] 1 [] 1 [] 1 := rfl
    -- where the second cell is still the empty note (its lists are nil)
    have fin0 : ∀ (b : Bool), ∃ st', (A.load true 4 (.ptr p 0) st2 fun a1 _ => A.load true 4 (.ptr q 0) st2 fun a2 _ => A.noP (A.store 4 (.ptr p 0) a1 st2 fun s => kid (.tup []) s) fun a3 z4 => A.chk (ldv true 4 (.ptr q 0) z4) a2 (A.noP (A.store 4 (.ptr q 0) a2 z4 fun s => kid (.tup []) s) fun a5 z6 => A.res (rcell (A.load true 4 (.ptr p 0) z6 kid) (rcell (A.load true 4 (.ptr q 0) z6 kid) (rtmp (.bool b) (some [])))) z6)) = some (.ret (.tup [noteV (oneN s), noteV emptyN, .bool b]), st') ∧ Ks st st' := by
      intro b
      have lz : ∀ {st : St} (h : st.ob q = some (.cells (nC 0 [] 1 [] 1 [] 1))) (K : V → St → Res), A.load true 4 (.ptr q 0) st K = K (.agg (nC 0 [] 1 [] 1 [] 1)) st := fun {st} h K => by
        rw [load_obA, h, obo_some]; rfl
      have sg : ∀ {st : St} {p : Nat} {m : Note} (h : st.ob p = some (.cells (noteC m))) (n : Note) (K : St → Res), A.store 4 (.ptr p 0) (.agg (noteC n)) st K = K (st.put p (.cells (noteC n))) := fun {st p m} h n K => by
        rw [store_agg, h, obo_some]; simp [noteC, Go.Ab.putL]
      have sz : ∀ {st : St} (h : st.ob q = some (.cells (nC 0 [] 1 [] 1 [] 1))) (K : St → Res), A.store 4 (.ptr q 0) (.agg (nC 0 [] 1 [] 1 [] 1)) st K = K (st.put q (.cells (nC 0 [] 1 [] 1 [] 1))) := fun {st} h K => by
        rw [store_agg, h, obo_some]; simp [nC, Go.Ab.putL]
      have h3 : (st2.put p (.cells (noteC (oneN s)))).ob q = some (.cells (nC 0 [] 1 [] 1 [] 1)) := by rw [put_ne _ _ hpq]; exact ob1
      have h4 := put_at st2 p (.cells (noteC (oneN s)))
      have h5 : ((st2.put p (.cells (noteC (oneN s)))).put q (.cells (nC 0 [] 1 [] 1 [] 1))).ob p = some (.cells (noteC (oneN s))) := by rw [put_ne _ _ (Ne.symm hpq)]; exact h4
      have h6 := put_at (st2.put p (.cells (noteC (oneN s)))) q (.cells (nC 0 [] 1 [] 1 [] 1))
      have c : ∀ k : Res, A.chk (ldv true 4 (.ptr q 0) (st2.put p (.cells (noteC (oneN s))))) (.agg (nC 0 [] 1 [] 1 [] 1)) k = k := fun k => by
        have : ldv true 4 (.ptr q 0) (st2.put p (.cells (noteC (oneN s)))) = some (.agg (nC 0 [] 1 [] 1 [] 1)) := by unfold ldv; rw [lz h3]; rfl
        rw [this]; exact chk_same _ _
      have hnv : ∀ n : Note, (V.agg (noteC n)).er1 = noteV n := fun n => rfl
      have hne : (V.agg (nC 0 [] 1 [] 1 [] 1)).er1 = noteV emptyN := rfl
      simp only [load_noteb oa1, lz ob1, sg oa1, kid_eq, noP_ret, c, sz h3, load_noteb h5, lz h6, rtmp_some, rcell_some, res_two, hnv, hne, er1_bool]
      exact ⟨_, rfl, (k1.put (by omega) _).put (by omega) _⟩
    have l0 : ∀ K, A.load false 1 (.ptr p 0) st2 K = K (.int .i64 (oneN s).kind) st2 := fun K => by simp [oa1, noteC]
    have l1 : ∀ K, A.load false 1 (.ptr p 1) st2 K = K (.lst (intsV (oneN s).nums) 0) st2 := fun K => by simp [oa1, noteC]
    have l2 : ∀ K, A.load false 1 (.ptr p 2) st2 K = K (.lst (strsV (oneN s).texts) 0) st2 := fun K => by simp [oa1, noteC]
    have l3 : ∀ K, A.load false 1 (.ptr p 3) st2 K = K (.lst (rowsV (oneN s).rows) 0) st2 := fun K => by simp [oa1, noteC]
    unfold rdN
    cases ho : oneO s with
    | false =>
      simp only [un_not, Bool.not_false, guard_tf, Bool.false_eq_true, false_and, if_false]
      unfold g35b1101
      simp only [cond_true]
      exact fin0 false
    | true =>
      simp only [un_not, Bool.not_true, guard_ff, faddr_ptr, Nat.zero_add, l3, lenL_lst, rowsV_len, bin_gtr, true_and]
      unfold g35b1101
      by_cases hr : (oneN s).rows.length = 0
      · simp only [hr, Int.natCast_zero, Int.lt_irrefl, decide_false, cond_false, if_true]
        unfold g35b111
        simp only [faddr_ptr, Nat.zero_add, l0, l1, l2, eql_int, Bool.false_eq_true, if_false, eq_int, lenL_lst, intsV_len, strsV_len]
        -- bare
        have e3 : decide (((oneN s).nums.length : Int) = 3) = decide ((oneN s).nums.length = 3) := by apply decide_eq_decide.2; omega
        have e0 : decide (((oneN s).texts.length : Int) = 0) = decide ((oneN s).texts.length = 0) := by apply decide_eq_decide.2; omega
        have e4 : decide (((oneN s).nums.length : Int) = 4) = decide ((oneN s).nums.length = 4) := by apply decide_eq_decide.2; omega
        have e1 : decide (((oneN s).texts.length : Int) = 1) = decide ((oneN s).texts.length = 1) := by apply decide_eq_decide.2; omega
        have full : ∃ st', g35bz3d (.ptr p 0) (.ptr q 0) (.bool true) (.bool false) st2 = some (.ret (.tup [noteV (oneN s), noteV (if (oneN s).kind = 1 ∧ (oneN s).nums.length = 4 ∧ (oneN s).texts.length = 1 then (oneN ((oneN s).texts.getD 0 []), oneO ((oneN s).texts.getD 0 [])) else (emptyN, false)).1, .bool (if (oneN s).kind = 1 ∧ (oneN s).nums.length = 4 ∧ (oneN s).texts.length = 1 then (oneN ((oneN s).texts.getD 0 []), oneO ((oneN s).texts.getD 0 [])) else (emptyN, false)).2]), st') ∧ Ks st st' := by
          unfold g35bz3d
          simp only [cond_false, faddr_ptr, Nat.zero_add, l0, l1, l2, eql_int, Bool.false_eq_true, if_false, eq_int, lenL_lst, intsV_len, strsV_len]
          by_cases hk : (oneN s).kind = 1
          · simp only [hk, decide_true, guard_tt, true_and, e4]
            unfold g35bzdi_10
            by_cases h4 : (oneN s).nums.length = 4
            · simp only [h4, decide_true, guard_tt, true_and, faddr_ptr, Nat.zero_add, l2, lenL_lst, strsV_len, eql_int, Bool.false_eq_true, if_false, eq_int, e1]
              unfold g35bzdj
              by_cases h1 : (oneN s).texts.length = 1
              · have hlt : 0 < (oneN s).texts.length := by omega
                have hg : (oneN s).texts.getD 0 [] = (oneN s).texts[0] := by rw [List.getD_eq_getElem?_getD, List.getElem?_eq_getElem hlt]; rfl
                have hlen := unp_len s _ (List.getElem_mem hlt)
                have ia : ∀ K, A.iaddr 1 (.lst (strsV (oneN s).texts) 0) (.int .i64 0) K = K (.lptr [.str (oneN s).texts[0]]) := fun K => iaddr_strs 0 hlt K
                simp only [h1, decide_true, cond_true, faddr_ptr, Nat.zero_add, l2, ia, load_l1', er1_str, one_s _ (show ((oneN s).texts[0]).length ≤ 9223372036854775807 by have : ((oneN s).texts[0]).length ≤ 65536 := hlen; omega), ret_ret, ext_0, ext_1, store_note ob1, if_true, hg]
                unfold g35b1111
                exact fin1 _ _ _ (by rw [put_ne _ _ (Ne.symm hpq)]; exact oa1) (put_at _ _ _) (k1.put (by omega) _)
              · simp only [h1, decide_false, cond_false, if_false]
                unfold g35b1111
                exact fin0 false
            · simp only [h4, decide_false, guard_ft, false_and, if_false]
              unfold g35bzdj
              simp only [cond_false]
              unfold g35b1111
              exact fin0 false
          · simp only [hk, decide_false, guard_ft, false_and, if_false]
            unfold g35bzdi_10
            simp only [guard_ft]
            unfold g35bzdj
            simp only [cond_false]
            unfold g35b1111
            exact fin0 false
        have bare : g35bz3d (.ptr p 0) (.ptr q 0) (.bool true) (.bool true) st2 = g35b1111 (.ptr p 0) (.ptr q 0) (.bool true) st2 := by
          unfold g35bz3d; simp only [cond_true]
        by_cases hk : (oneN s).kind = 2
        · simp only [hk, decide_true, guard_tt, true_and, e3]
          unfold g35bz3c_10
          by_cases h3 : (oneN s).nums.length = 3
          · simp only [h3, decide_true, guard_tt, true_and, faddr_ptr, Nat.zero_add, l2, lenL_lst, strsV_len, eql_int, Bool.false_eq_true, if_false, eq_int, e0]
            by_cases h0 : (oneN s).texts.length = 0
            · simp only [h0, decide_true, if_true, bare]
              unfold g35b1111
              exact fin0 true
            · simp only [h0, decide_false, if_false]
              simpa [hk, h3] using full
          · simp only [h3, decide_false, guard_ft, false_and, if_false]
            simpa [hk, h3] using full
        · simp only [hk, decide_false, guard_ft, false_and, if_false]
          unfold g35bz3c_10
          simp only [guard_ft]
          exact full
      · have : (0 : Int) < ((oneN s).rows.length : Int) := by omega
        simp only [this, decide_true, cond_true, hr, if_false]
        exact fin0 false
  obtain ⟨st', h1, h2⟩ := key
  have hp := pu_note (oneN s)
  have hp2 := pu_note (rdN s).1
  have := fg_of h1 h2 (by
    have e : (V.tup [noteV (oneN s), noteV (rdN s).1, .bool (rdN s).2]).era = .tup [noteV (oneN s), noteV (rdN s).1, .bool (rdN s).2] := rfl
    rw [e]; simp [hp, hp2])
  exact this
end Go.Ab

/- sinew/link: Take. -/
namespace Go.Ab
open Go.Proofs Go.RowKit Go.Oct
set_option linter.unusedVariables false
set_option linter.unusedSimpArgs false
set_option maxRecDepth 100000
def OwnN (st : St) (sz t : Nat) : Prop := t = 1 ∨ t = 2 ∨ ∃ k, t = k + 3 ∧ k < st.nt ∧ st.tk k = some sz
structure LAt (st : St) (id t : Nat) (l : Lk) : Prop where
  ob : st.ob id = some (.cells (lkC l t))
  lt : id < st.n
  own : OwnN st 1 t
/-- One object is other, no right is. -/
structure TFr (st st' : St) (id : Nat) : Prop where
  tk : st'.tk = st.tk
  nt : st'.nt = st.nt
  n : st.n ≤ st'.n
  ob : ∀ i, i < st.n → i ≠ id → st'.ob i = st.ob i
theorem TFr.refl (st : St) (id : Nat) : TFr st st id := ⟨rfl, rfl, Nat.le_refl _, fun _ _ _ => rfl⟩
theorem TFr.new {a b : St} {id : Nat} (h : TFr a b id) (o : Ob) : TFr a (b.new o) id := ⟨h.tk, h.nt, by rw [new_n]; have := h.n; omega, fun i hi hd => by have := h.n; rw [new_ne _ _ (by omega)]; exact h.ob i hi hd⟩
theorem TFr.put {a b : St} {id j : Nat} (h : TFr a b id) (hj : j = id ∨ a.n ≤ j) (o : Ob) : TFr a (b.put j o) id := ⟨h.tk, h.nt, h.n, fun i hi hd => by rw [put_ne _ _ (by rcases hj with g | g <;> omega)]; exact h.ob i hi hd⟩
theorem TFr.own {st st' : St} {id sz t : Nat} (h : TFr st st' id) (ho : OwnN st sz t) : OwnN st' sz t := by
  rcases ho with g | g | ⟨k, g1, g2, g3⟩
  · exact .inl g
  · exact .inr (.inl g)
  · exact .inr (.inr ⟨k, g1, by rw [h.nt]; exact g2, by rw [h.tk]; exact g3⟩)
def nth (n : Note) (i : Nat) : Nat := (n.nums.getD i 0).toNat
/-- What a packet is. -/
structure Pkt (n : Note) : Prop where
  nums : ∀ x ∈ n.nums, 0 ≤ x ∧ x ≤ 4611686018427387903
  kind : (n.kind = 2 ∧ n.nums.length = 3) ∨ (n.kind = 1 ∧ n.nums.length = 4)
theorem one_nums {s : List UInt8} (h : oneO s = true) : ∀ x ∈ (oneN s).nums, 0 ≤ x ∧ x ≤ 4611686018427387903 := by
  unfold oneO at h
  simp only [Bool.and_eq_true, decide_eq_true_eq] at h
  have := (unp_back h.1).2
  simp only [packOK, Bool.and_eq_true] at this
  have hf := this.1
  unfold fitsW at hf
  simp only [Bool.and_eq_true, Bool.not_eq_true', decide_eq_false_iff_not, Int.not_lt, Nat.not_lt, decide_eq_true_eq] at hf
  obtain ⟨k1, k2, k3, k4, k5, k6, k7, k8⟩ := hf
  intro x hx
  have := List.any_eq_false.1 k5 x hx
  simp only [oddN, Bool.or_eq_true, decide_eq_true_eq, not_or, Int.not_lt] at this
  exact this
theorem rd_pkt {s : List UInt8} (h : (rdN s).2 = true) : Pkt (oneN s) := by
  unfold rdN at h
  split at h
  · rename_i h0
    refine ⟨one_nums h0.1, ?_⟩
    split at h
    · rename_i h1; exact .inl ⟨h1.1, h1.2.1⟩
    · split at h
      · rename_i h1; exact .inr ⟨h1.1, h1.2.1⟩
      · cases h
  · cases h
theorem Pkt.at {n : Note} (h : Pkt n) {i : Nat} (hi : i < n.nums.length) : n.nums[i] = ((nth n i : Nat) : Int) ∧ nth n i ≤ 4611686018427387903 := by
  obtain ⟨a, b⟩ := h.nums _ (List.getElem_mem hi)
  have e : nth n i = n.nums[i].toNat := by unfold nth; rw [List.getD_eq_getElem?_getD, List.getElem?_eq_getElem hi]; rfl
  exact ⟨by omega, by omega⟩
def freshP (l : Lk) (o : Nat) : Lk := if l.other < o then (if 0 < l.other then ⟨l.epoch, o, 1, 1, []⟩ else ⟨l.epoch, o, l.first, 1, l.q⟩) else l
def ackP (l : Lk) (w : Nat) : Lk := ⟨l.epoch, l.other, l.first + min (w - l.first) l.q.length, l.want, l.q.drop (min (w - l.first) l.q.length)⟩
def nextP (l : Lk) : Lk := ⟨l.epoch, l.other, l.first, l.want + 1, l.q⟩
/-- What Take does: the end, payloads, packets, whether the other one is new. -/
def takeP (l : Lk) (s : List UInt8) : Lk × List Note × List (List UInt8) × Bool :=
  if (rdN s).2 = false ∨ nth (oneN s) 0 < max l.other 1 then (l, [], [], false)
  else if nth (oneN s) 1 ≠ l.epoch then (freshP l (nth (oneN s) 0), [], [pkt (pk2 (freshP l (nth (oneN s) 0)))], decide (l.other < nth (oneN s) 0) && decide (0 < l.other))
  else if (oneN s).kind = 1 then
    (if nth (oneN s) 2 = (freshP l (nth (oneN s) 0)).want then (nextP (ackP (freshP l (nth (oneN s) 0)) (nth (oneN s) ((oneN s).nums.length - 1))), [(rdN s).1], [pkt (pk2 (nextP (ackP (freshP l (nth (oneN s) 0)) (nth (oneN s) ((oneN s).nums.length - 1)))))], decide (l.other < nth (oneN s) 0) && decide (0 < l.other))
     else (ackP (freshP l (nth (oneN s) 0)) (nth (oneN s) ((oneN s).nums.length - 1)), [], [pkt (pk2 (ackP (freshP l (nth (oneN s) 0)) (nth (oneN s) ((oneN s).nums.length - 1))))], decide (l.other < nth (oneN s) 0) && decide (0 < l.other)))
  else (ackP (freshP l (nth (oneN s) 0)) (nth (oneN s) ((oneN s).nums.length - 1)), [], [], decide (l.other < nth (oneN s) 0) && decide (0 < l.other))
/-- What a packet brought. -/
def cameV (ps : List Note) (ks : List (List UInt8)) (a : Bool) : V := .agg [.lst (notesV ps) 0, .lst (strsV ks) 0, .bool a]
def cC (ps : List Note) (u : Nat) (ks : List (List UInt8)) (w : Nat) (a : Bool) : List V := [.lst (notesV ps) u, .lst (strsV ks) w, .bool a]
theorem took {st : St} {c : Nat} {ps : List Note} {u : Nat} {ks : List (List UInt8)} {w : Nat} {a : Bool} (h : st.ob c = some (.cells (cC ps u ks w a))) :
    (A.load true 3 (.ptr c 0) st fun a z => A.store 3 (.ptr c 0) a z fun z' => A.res (rcell (A.load true 3 (.ptr c 0) z' kid) (some [])) z') = some (.ret (cameV ps ks a), st.put c (.cells (cC ps u ks w a))) := by
  have l1 : ∀ {st : St} (h : st.ob c = some (.cells (cC ps u ks w a))) (K : V → St → Res), A.load true 3 (.ptr c 0) st K = K (.agg (cC ps u ks w a)) st := fun {st} h K => by
    rw [load_obA, h, obo_some]; rfl
  have s1 : ∀ K, A.store 3 (.ptr c 0) (.agg (cC ps u ks w a)) st K = K (st.put c (.cells (cC ps u ks w a))) := fun K => by
    rw [store_agg, h, obo_some]; simp [cC, Go.Ab.putL]
  have her : (V.agg (cC ps u ks w a)).er1 = cameV ps ks a := rfl
  simp only [l1 h, s1, l1 (put_at st c _), kid_eq, rcell_some, res_one, her]
/-- Behind what a packet tells to have come. -/
theorem take_tail {st0 st : St} {id t c nn pp : Nat} {l : Lk} {n p : Note} {a : Bool} (h : st.ob id = some (.cells (lkC l t))) (hl : LkOK l) (hp : Pkt n) (hc : st.ob c = some (.cells (cC [] 1 [] 1 a))) (hn : st.ob nn = some (.cells (noteC n))) (hpp : st.ob pp = some (.cells (noteC p)))
    (hid : id < st0.n) (hc0 : st0.n ≤ c) (hn0 : st0.n ≤ nn) (hp0 : st0.n ≤ pp) (hcn : c ≠ nn) (hcp : c ≠ pp) (fr : TFr st0 st id) (hw : nth n 1 = l.epoch) :
    ∃ st', g19b11111 (.ptr id 0) (.ptr c 0) (.ptr nn 0) (.ptr pp 0) st = some (.ret (if n.kind = 1 then (if nth n 2 = l.want then cameV [p] [pkt (pk2 (nextP (ackP l (nth n (n.nums.length - 1)))))] a else cameV [] [pkt (pk2 (ackP l (nth n (n.nums.length - 1))))] a) else cameV [] [] a), st') ∧
      st'.ob id = some (.cells (lkC (if n.kind = 1 then (if nth n 2 = l.want then nextP (ackP l (nth n (n.nums.length - 1))) else ackP l (nth n (n.nums.length - 1))) else ackP l (nth n (n.nums.length - 1))) t)) ∧ TFr st0 st' id := by
  unfold g19b11111
  have hlen : 3 ≤ n.nums.length ∧ n.nums.length ≤ 4 := by rcases hp.kind with ⟨_, g⟩ | ⟨_, g⟩ <;> omega
  have m1 : ∀ {st : St} (h : st.ob nn = some (.cells (noteC n))) K, A.load false 1 (.ptr nn 1) st K = K (.lst (intsV n.nums) 0) st := fun {st} h K => by simp [h, noteC]
  have m0 : ∀ {st : St} (h : st.ob nn = some (.cells (noteC n))) K, A.load false 1 (.ptr nn 0) st K = K (.int .i64 n.kind) st := fun {st} h K => by simp [h, noteC]
  obtain ⟨l0, l1, l2, l3, l4⟩ := lload h
  have hlast : n.nums.length - 1 < n.nums.length := by omega
  obtain ⟨x1, x2⟩ := hp.at hlast
  have es : ∀ K, A.bin .sub (.int .i64 (n.nums.length : Nat)) (.int .i64 1) K = K (.int .i64 ((n.nums.length - 1 : Nat) : Int)) := fun K => bin_subN n.nums.length 1 K (by omega) (by omega)
  have hf := hl.f
  have hq := hl.q
  have ed : ∀ K, A.bin .sub (.int .i64 (nth n (n.nums.length - 1) : Nat)) (.int .i64 (l.first : Nat)) K = K (.int .i64 ((nth n (n.nums.length - 1) : Int) - (l.first : Int))) := fun K => bin_sub K (by omega) (by omega)
  have em : ∀ K, (A.min (.int .i64 ((nth n (n.nums.length - 1) : Int) - (l.first : Int))) (.int .i64 (l.q.length : Nat)) fun a17 => A.max (.int .i64 0) a17 K) = K (.int .i64 ((min (nth n (n.nums.length - 1) - l.first) l.q.length : Nat) : Int)) := fun K => by
    show K (.int .i64 (if (if (l.q.length : Int) < (nth n (n.nums.length - 1) : Int) - (l.first : Int) then (l.q.length : Int) else (nth n (n.nums.length - 1) : Int) - (l.first : Int)) > 0 then (if (l.q.length : Int) < (nth n (n.nums.length - 1) : Int) - (l.first : Int) then (l.q.length : Int) else (nth n (n.nums.length - 1) : Int) - (l.first : Int)) else 0)) = _
    congr 2
    split <;> split <;> omega
  simp only [faddr_ptr, Nat.zero_add, m1 hn, lenL_lst, intsV_len, es, iaddr_ints 0 hlast, x1, load_l1', nilc_ptr, l2, ed, l4, strsV_len, em]
  unfold g19bz3j
  generalize hk : min (nth n (n.nums.length - 1) - l.first) l.q.length = k
  have hkl : k ≤ l.q.length := by omega
  have hsl : ∀ K, A.slice 1 (.lst (strsV l.q) t) (some (.int .i64 (k : Nat))) none none K = K (.lst (strsV (l.q.drop k)) t) := fun K => by
    rw [slice_from (strsV l.q) t 1 k K (by simpa using hkl) (szok_strs _)]
    simp [strsV, List.map_drop]
  have hack : ackP l (nth n (n.nums.length - 1)) = ⟨l.epoch, l.other, l.first + k, l.want, l.q.drop k⟩ := by unfold ackP; rw [hk]
  have sq : ∀ K, A.store 1 (.ptr id 4) (.lst (strsV (l.q.drop k)) t) st K = K (st.put id (.cells (lkC ⟨l.epoch, l.other, l.first, l.want, l.q.drop k⟩ t))) := fun K => by
    simp [h, lkC]
  have o1 := put_at st id (.cells (lkC ⟨l.epoch, l.other, l.first, l.want, l.q.drop k⟩ t))
  obtain ⟨k0, k1, k2, k3, k4⟩ := lload o1
  have ef : ∀ K, A.bin .add (.int .i64 (l.first : Nat)) (.int .i64 (k : Nat)) K = K (.int .i64 ((l.first + k : Nat) : Int)) := fun K => bin_addN _ _ K (by omega)
  have sf : ∀ K, A.store 1 (.ptr id 2) (.int .i64 (l.first + k : Nat)) (st.put id (.cells (lkC ⟨l.epoch, l.other, l.first, l.want, l.q.drop k⟩ t))) K = K (st.put id (.cells (lkC (ackP l (nth n (n.nums.length - 1))) t))) := fun K => by
    rw [hack]; simp [lkC]
  simp only [nilc_ptr, faddr_ptr, Nat.zero_add, l4, hsl, sq, k2, ef, sf]
  have fr1 := fr.put (.inl rfl) (.cells (lkC (ackP l (nth n (n.nums.length - 1))) t))
  have oi := put_at st id (.cells (lkC (ackP l (nth n (n.nums.length - 1))) t))
  have oc : (st.put id (.cells (lkC (ackP l (nth n (n.nums.length - 1))) t))).ob c = some (.cells (cC [] 1 [] 1 a)) := by rw [put_ne _ _ (by omega)]; exact hc
  have on : (st.put id (.cells (lkC (ackP l (nth n (n.nums.length - 1))) t))).ob nn = some (.cells (noteC n)) := by rw [put_ne _ _ (by omega)]; exact hn
  have op : (st.put id (.cells (lkC (ackP l (nth n (n.nums.length - 1))) t))).ob pp = some (.cells (noteC p)) := by rw [put_ne _ _ (by omega)]; exact hpp
  have hwant : (ackP l (nth n (n.nums.length - 1))).want = l.want := rfl
  have hwl := hl.w
  generalize st.put id (.cells (lkC (ackP l (nth n (n.nums.length - 1))) t)) = st1 at fr1 oi oc on op
  generalize ackP l (nth n (n.nums.length - 1)) = l2' at oi hwant
  unfold g19bze7
  obtain ⟨j0, j1, j2, j3, j4⟩ := lload oi
  simp only [faddr_ptr, Nat.zero_add, m0 on, eql_int, Bool.false_eq_true, if_false, eq_int]
  have sc : ∀ {st : St} (ps : List Note) (u : Nat) (ho : st.ob c = some (.cells (cC ps u [] 1 a))) (ks : List (List UInt8)) K, A.store 1 (.ptr c 1) (.lst (strsV ks) 0) st K = K (st.put c (.cells (cC ps u ks 0 a))) := fun {st} ps u ho ks K => by
    simp [ho, cC]
  by_cases h1 : n.kind = 1
  · have h4 : 2 < n.nums.length := by omega
    obtain ⟨y1, y2⟩ := hp.at h4
    simp only [h1, decide_true, cond_true, m1 on, iaddr_ints 0 h4, y1, load_l1', nilc_ptr, faddr_ptr, Nat.zero_add, j3, hwant, eql_int, Bool.false_eq_true, if_false, eq_nat, if_true]
    have ia2 : ∀ K, A.iaddr 1 (.lst (intsV n.nums) 0) (.int .i64 2) K = K (.lptr [.int .i64 n.nums[2]]) := fun K => iaddr_ints 0 h4 K
    simp only [ia2, y1, load_l1', nilc_ptr, faddr_ptr, Nat.zero_add, j3, hwant, eql_int, Bool.false_eq_true, if_false, eq_nat]
    unfold g19bzcmh
    by_cases h2 : nth n 2 = l.want
    · have bs : ∀ K, A.bslice 4 (.agg [.int .i64 0, .lst [] 1, .lst [] 1, .lst [] 1]) 1 [(0, .agg (noteC p))] K = K (.lst (notesV [p]) 2) := fun K => bslice_note p K
      have sp : ∀ K, A.store 1 (.ptr c 0) (.lst (notesV [p]) 2) st1 K = K (st1.put c (.cells (cC [p] 2 [] 1 a))) := fun K => by simp [oc, cC]
      have oi2 : (st1.put c (.cells (cC [p] 2 [] 1 a))).ob id = some (.cells (lkC l2' t)) := by rw [put_ne _ _ (by omega)]; exact oi
      obtain ⟨i0, i1, i2, i3, i4⟩ := lload oi2
      have ew : ∀ K, A.bin .add (.int .i64 (l.want : Nat)) (.int .i64 1) K = K (.int .i64 ((l.want + 1 : Nat) : Int)) := fun K => bin_inc (by omega) K
      have sw : ∀ K, A.store 1 (.ptr id 3) (.int .i64 (l.want + 1 : Nat)) (st1.put c (.cells (cC [p] 2 [] 1 a))) K = K ((st1.put c (.cells (cC [p] 2 [] 1 a))).put id (.cells (lkC (nextP l2') t))) := fun K => by
        rw [show (l.want + 1 : Nat) = l2'.want + 1 by rw [hwant]]
        simp [oi2, lkC, nextP]
      have oi3 := put_at (st1.put c (.cells (cC [p] 2 [] 1 a))) id (.cells (lkC (nextP l2') t))
      have oc3 : ((st1.put c (.cells (cC [p] 2 [] 1 a))).put id (.cells (lkC (nextP l2') t))).ob c = some (.cells (cC [p] 2 [] 1 a)) := by rw [put_ne _ _ (by omega)]; exact put_at _ _ _
      have fr3 := (fr1.put (.inr hc0) (.cells (cC [p] 2 [] 1 a))).put (.inl rfl) (.cells (lkC (nextP l2') t))
      simp only [h2, decide_true, cond_true, load_noteb op, bs, faddr_ptr, Nat.zero_add, sp, nilc_ptr, i3, hwant, ew, sw, er1_ptr, if_true]
      generalize (st1.put c (.cells (cC [p] 2 [] 1 a))).put id (.cells (lkC (nextP l2') t)) = st3 at oi3 oc3 fr3
      simp only [lstands_s oi3, ret_ret, faddr_ptr, Nat.zero_add, sc [p] 2 oc3, took (put_at _ _ _)]
      exact ⟨_, rfl, by rw [put_ne _ _ (by omega), put_ne _ _ (by omega)]; exact oi3, (fr3.put (.inr hc0) _).put (.inr hc0) _⟩
    · simp only [h2, decide_false, cond_false, er1_ptr, lstands_s oi, ret_ret, faddr_ptr, Nat.zero_add, sc [] 1 oc, took (put_at _ _ _), if_false]
      exact ⟨_, rfl, by rw [put_ne _ _ (by omega), put_ne _ _ (by omega)]; exact oi, (fr1.put (.inr hc0) _).put (.inr hc0) _⟩
  · simp only [h1, decide_false, cond_false, took oc, if_false]
    exact ⟨_, rfl, by rw [put_ne _ _ (by omega)]; exact oi, fr1.put (.inr hc0) _⟩
end Go.Ab

/- sinew/link: Take, the whole. -/
namespace Go.Ab
open Go.Proofs Go.RowKit Go.Oct
set_option linter.unusedVariables false
set_option linter.unusedSimpArgs false
set_option maxRecDepth 100000
theorem lgiven_s {st : St} {id t : Nat} {l : Lk} (h : st.ob id = some (.cells (lkC l t))) (hl : 1 ≤ l.epoch) : s31 [.ptr id 0] st = some (.ret (.bool true), st) := by
  rw [s31_eq]
  unfold f31
  obtain ⟨l0, _⟩ := lload h
  simp only [eql_ptr, guard_tt, nilc_ptr, faddr_ptr, Nat.zero_add, l0, bin_gtr, show ((0 : Int) < (l.epoch : Int)) from by omega, decide_true, er1_bool]
/-- Behind the epochs. -/
theorem take_mid {st0 st : St} {id t c nn pp : Nat} {l : Lk} {n p : Note} {a : Bool} (h : st.ob id = some (.cells (lkC l t))) (hl : LkOK l) (hp : Pkt n) (hc : st.ob c = some (.cells (cC [] 1 [] 1 a))) (hn : st.ob nn = some (.cells (noteC n))) (hpp : st.ob pp = some (.cells (noteC p)))
    (hid : id < st0.n) (hc0 : st0.n ≤ c) (hn0 : st0.n ≤ nn) (hp0 : st0.n ≤ pp) (hcn : c ≠ nn) (hcp : c ≠ pp) (fr : TFr st0 st id) :
    ∃ st', g19b1111 (.ptr id 0) (.ptr c 0) (.ptr nn 0) (.ptr pp 0) st = some (.ret (if nth n 1 ≠ l.epoch then cameV [] [pkt (pk2 l)] a else if n.kind = 1 then (if nth n 2 = l.want then cameV [p] [pkt (pk2 (nextP (ackP l (nth n (n.nums.length - 1)))))] a else cameV [] [pkt (pk2 (ackP l (nth n (n.nums.length - 1))))] a) else cameV [] [] a), st') ∧
      st'.ob id = some (.cells (lkC (if nth n 1 ≠ l.epoch then l else if n.kind = 1 then (if nth n 2 = l.want then nextP (ackP l (nth n (n.nums.length - 1))) else ackP l (nth n (n.nums.length - 1))) else ackP l (nth n (n.nums.length - 1))) t)) ∧ TFr st0 st' id := by
  unfold g19b1111
  have hlen : 3 ≤ n.nums.length ∧ n.nums.length ≤ 4 := by rcases hp.kind with ⟨_, g⟩ | ⟨_, g⟩ <;> omega
  have m1 : ∀ K, A.load false 1 (.ptr nn 1) st K = K (.lst (intsV n.nums) 0) st := fun K => by simp [hn, noteC]
  obtain ⟨l0, l1, l2, l3, l4⟩ := lload h
  have h1 : 1 < n.nums.length := by omega
  obtain ⟨y1, y2⟩ := hp.at h1
  have ia : ∀ K, A.iaddr 1 (.lst (intsV n.nums) 0) (.int .i64 1) K = K (.lptr [.int .i64 n.nums[1]]) := fun K => iaddr_ints 0 h1 K
  have e : ((((nth n 1 : Nat) : Int)) != (l.epoch : Int)) = decide (nth n 1 ≠ l.epoch) := by
    rw [bne, eq_nat]
    by_cases g : nth n 1 = l.epoch <;> simp [g]
  simp only [faddr_ptr, Nat.zero_add, m1, ia, y1, load_l1', nilc_ptr, l0, eql_int, if_true, e]
  by_cases hw : nth n 1 = l.epoch
  · simp only [hw, ne_eq, not_true_eq_false, decide_false, cond_false, if_false]
    exact take_tail h hl hp hc hn hpp hid hc0 hn0 hp0 hcn hcp fr hw
  · have sc : ∀ (ks : List (List UInt8)) K, A.store 1 (.ptr c 1) (.lst (strsV ks) 0) st K = K (st.put c (.cells (cC [] 1 ks 0 a))) := fun ks K => by
      simp [hc, cC]
    simp only [hw, ne_eq, not_false_eq_true, decide_true, cond_true, if_true, er1_ptr, lstands_s h, ret_ret, faddr_ptr, Nat.zero_add, sc, took (put_at _ _ _)]
    exact ⟨_, rfl, by rw [put_ne _ _ (by omega), put_ne _ _ (by omega)]; exact h, (fr.put (.inr hc0) _).put (.inr hc0) _⟩
theorem take_s {st : St} {id t : Nat} {l : Lk} (h : LAt st id t l) (hl : LkOK l) (s : List UInt8) (hs : s.length ≤ 9223372036854775807) :
    ∃ st' t', s19 [.ptr id 0, .str s] st = some (.ret (cameV (takeP l s).2.1 (takeP l s).2.2.1 (takeP l s).2.2.2), st') ∧ LAt st' id t' (takeP l s).1 ∧ TFr st st' id ∧ (t' = t ∨ t' = 1) := by
  rw [s19_eq]
  unfold f19
  have hid := h.lt
  have bx : ∀ K, A.box (.agg [.lst [] 1, .lst [] 1, .bool false]) st K = K (.ptr st.n 0) (st.new (.cells (cC [] 1 [] 1 false))) := fun K => rfl
  have f0 := (TFr.refl st id).new (.cells (cC [] 1 [] 1 false))
  have c0 := new_at st (.cells (cC [] 1 [] 1 false))
  have n0 : (st.new (.cells (cC [] 1 [] 1 false))).n = st.n + 1 := by simp
  have i0 : (st.new (.cells (cC [] 1 [] 1 false))).ob id = some (.cells (lkC l t)) := by rw [new_ne _ _ (by omega)]; exact h.ob
  simp only [bx]
  generalize st.new (.cells (cC [] 1 [] 1 false)) = st1 at f0 c0 n0 i0
  simp only [er1_str, lread_s s hs, ret_ret, ext_0, ext_1, ext_2, box_zero, new_n, n0]
  have f1 := (f0.new (.cells (nC 0 [] 1 [] 1 [] 1))).new (.cells (nC 0 [] 1 [] 1 [] 1))
  have c1 : ((st1.new (.cells (nC 0 [] 1 [] 1 [] 1))).new (.cells (nC 0 [] 1 [] 1 [] 1))).ob st.n = some (.cells (cC [] 1 [] 1 false)) := by rw [new_ne _ _ (by simp; omega), new_ne _ _ (by omega)]; exact c0
  have i1 : ((st1.new (.cells (nC 0 [] 1 [] 1 [] 1))).new (.cells (nC 0 [] 1 [] 1 [] 1))).ob id = some (.cells (lkC l t)) := by rw [new_ne _ _ (by simp; omega), new_ne _ _ (by omega)]; exact i0
  have a1 : ((st1.new (.cells (nC 0 [] 1 [] 1 [] 1))).new (.cells (nC 0 [] 1 [] 1 [] 1))).ob (st.n + 1) = some (.cells (nC 0 [] 1 [] 1 [] 1)) := by rw [new_ne _ _ (by simp; omega), ← n0]; exact new_at _ _
  have b1 : ((st1.new (.cells (nC 0 [] 1 [] 1 [] 1))).new (.cells (nC 0 [] 1 [] 1 [] 1))).ob (st.n + 1 + 1) = some (.cells (nC 0 [] 1 [] 1 [] 1)) := by
    have : st.n + 1 + 1 = (st1.new (.cells (nC 0 [] 1 [] 1 [] 1))).n := by simp [n0]
    rw [this]; exact new_at _ _
  generalize (st1.new (.cells (nC 0 [] 1 [] 1 [] 1))).new (.cells (nC 0 [] 1 [] 1 [] 1)) = st2 at f1 c1 a1 b1 i1
  have b2 : (st2.put (st.n + 1) (.cells (noteC (oneN s)))).ob (st.n + 1 + 1) = some (.cells (nC 0 [] 1 [] 1 [] 1)) := by rw [put_ne _ _ (by omega)]; exact b1
  simp only [store_note a1, store_note b2]
  have f3 := (f1.put (j := st.n + 1) (.inr (by omega)) (.cells (noteC (oneN s)))).put (j := st.n + 1 + 1) (.inr (by omega)) (.cells (noteC (rdN s).1))
  have c3 : ((st2.put (st.n + 1) (.cells (noteC (oneN s)))).put (st.n + 1 + 1) (.cells (noteC (rdN s).1))).ob st.n = some (.cells (cC [] 1 [] 1 false)) := by rw [put_ne _ _ (by omega), put_ne _ _ (by omega)]; exact c1
  have a3 : ((st2.put (st.n + 1) (.cells (noteC (oneN s)))).put (st.n + 1 + 1) (.cells (noteC (rdN s).1))).ob (st.n + 1) = some (.cells (noteC (oneN s))) := by rw [put_ne _ _ (by omega)]; exact put_at _ _ _
  have b3 := put_at (st2.put (st.n + 1) (.cells (noteC (oneN s)))) (st.n + 1 + 1) (.cells (noteC (rdN s).1))
  have i3 : ((st2.put (st.n + 1) (.cells (noteC (oneN s)))).put (st.n + 1 + 1) (.cells (noteC (rdN s).1))).ob id = some (.cells (lkC l t)) := by rw [put_ne _ _ (by omega), put_ne _ _ (by omega)]; exact i1
  generalize (st2.put (st.n + 1) (.cells (noteC (oneN s)))).put (st.n + 1 + 1) (.cells (noteC (rdN s).1)) = st3 at f3 c3 a3 b3 i3
  unfold g19b11
  simp only [er1_ptr, lgiven_s i3 hl.e1, ret_ret, kid_eq, noP_ret, un_not, Bool.not_true, guard_ff]
  have ow := fun st' (f : TFr st st' id) => f.own h.own
  have nothing : ∀ (hq : (rdN s).2 = false ∨ nth (oneN s) 0 < max l.other 1), ∃ st' t', (A.build [.lst [] 1, .lst [] 1, .bool false] [] fun a13 => A.store 3 (.ptr st.n 0) a13 st3 fun z14 => A.res (rcell (A.load true 3 (.ptr st.n 0) z14 kid) (some [])) z14) = some (.ret (cameV (takeP l s).2.1 (takeP l s).2.2.1 (takeP l s).2.2.2), st') ∧ LAt st' id t' (takeP l s).1 ∧ TFr st st' id ∧ (t' = t ∨ t' = 1) := by
    intro hq
    have hT : takeP l s = (l, [], [], false) := by unfold takeP; rw [if_pos hq]
    have b : ∀ K, A.build [.lst [] 1, .lst [] 1, .bool false] [] K = K (.agg (cC [] 1 [] 1 false)) := fun K => rfl
    have s1 : ∀ K, A.store 3 (.ptr st.n 0) (.agg (cC [] 1 [] 1 false)) st3 K = K (st3.put st.n (.cells (cC [] 1 [] 1 false))) := fun K => by
      rw [store_agg, c3, obo_some]; simp [cC, Go.Ab.putL]
    have l1 : ∀ K, A.load true 3 (.ptr st.n 0) (st3.put st.n (.cells (cC [] 1 [] 1 false))) K = K (.agg (cC [] 1 [] 1 false)) (st3.put st.n (.cells (cC [] 1 [] 1 false))) := fun K => by
      rw [load_obA, put_at, obo_some]; rfl
    have her : (V.agg (cC [] 1 [] 1 false)).er1 = cameV [] [] false := rfl
    have ff := f3.put (j := st.n) (.inr (Nat.le_refl _)) (.cells (cC [] 1 [] 1 false))
    simp only [b, s1, l1, kid_eq, rcell_some, res_one, her, hT]
    exact ⟨_, t, rfl, ⟨by rw [put_ne _ _ (by omega)]; exact i3, by have := ff.n; omega, ow _ ff⟩, ff, .inl rfl⟩
  cases hr : (rdN s).2 with
  | false =>
    simp only [Bool.not_false]
    unfold g19b1100_8
    simp only [guard_tf]
    exact nothing (.inl hr)
  | true =>
    have hp := rd_pkt hr
    simp only [Bool.not_true]
    unfold g19b1100_8
    have hlen : 3 ≤ (oneN s).nums.length := by rcases hp.kind with ⟨_, g⟩ | ⟨_, g⟩ <;> omega
    have h0 : 0 < (oneN s).nums.length := by omega
    obtain ⟨y1, y2⟩ := hp.at h0
    have ia : ∀ K, A.iaddr 1 (.lst (intsV (oneN s).nums) 0) (.int .i64 0) K = K (.lptr [.int .i64 (oneN s).nums[0]]) := fun K => iaddr_ints 0 h0 K
    have m1 : ∀ K, A.load false 1 (.ptr (st.n + 1) 1) st3 K = K (.lst (intsV (oneN s).nums) 0) st3 := fun K => by simp [a3, noteC]
    obtain ⟨l0, l1, l2, l3, l4⟩ := lload i3
    have em : ∀ K, A.max (.int .i64 (l.other : Nat)) (.int .i64 1) K = K (.int .i64 ((max l.other 1 : Nat) : Int)) := fun K => by
      show K (.int .i64 (if (1 : Int) > (l.other : Int) then 1 else (l.other : Int))) = _
      congr 2
      split <;> omega
    have ec : decide (((nth (oneN s) 0 : Nat) : Int) < ((max l.other 1 : Nat) : Int)) = decide (nth (oneN s) 0 < max l.other 1) := by apply decide_eq_decide.2; omega
    simp only [guard_ff, faddr_ptr, Nat.zero_add, m1, ia, y1, load_l1', nilc_ptr, l1, em, bin_lss, ec]
    by_cases hq : nth (oneN s) 0 < max l.other 1
    · simp only [hq, decide_true, cond_true]
      exact nothing (.inr hq)
    · simp only [hq, decide_false, cond_false]
      unfold g19b111
      have eg : decide ((l.other : Int) < ((nth (oneN s) 0 : Nat) : Int)) = decide (l.other < nth (oneN s) 0) := by apply decide_eq_decide.2; omega
      simp only [faddr_ptr, Nat.zero_add, m1, ia, y1, load_l1', nilc_ptr, l1, bin_gtr, eg]
      -- the rest, of the end that is known now
      have rest : ∀ (l' : Lk) (t' : Nat) (a : Bool) (st4 : St), l' = freshP l (nth (oneN s) 0) → a = (decide (l.other < nth (oneN s) 0) && decide (0 < l.other)) → LkOK l' → (t' = t ∨ t' = 1) → st4.ob id = some (.cells (lkC l' t')) → st4.ob st.n = some (.cells (cC [] 1 [] 1 a)) → st4.ob (st.n + 1) = some (.cells (noteC (oneN s))) → st4.ob (st.n + 1 + 1) = some (.cells (noteC (rdN s).1)) → TFr st st4 id →
          ∃ st' t', g19b1111 (.ptr id 0) (.ptr st.n 0) (.ptr (st.n + 1) 0) (.ptr (st.n + 1 + 1) 0) st4 = some (.ret (cameV (takeP l s).2.1 (takeP l s).2.2.1 (takeP l s).2.2.2), st') ∧ LAt st' id t' (takeP l s).1 ∧ TFr st st' id ∧ (t' = t ∨ t' = 1) := by
        intro l' t' a st4 e1 e2 hl' ht' q1 q2 q3 q4 q5
        obtain ⟨st', r1, r2, r3⟩ := take_mid q1 hl' hp q2 q3 q4 hid (Nat.le_refl _) (by omega) (by omega) (by omega) (by omega) q5
        have hep : l'.epoch = l.epoch := by rw [e1]; unfold freshP; split <;> (try split) <;> rfl
        have hnot : ¬ ((rdN s).2 = false ∨ nth (oneN s) 0 < max l.other 1) := by
          rw [hr]; intro g; rcases g with g | g
          · cases g
          · exact hq g
        have ho' : OwnN st' 1 t' := by
          rcases ht' with g | g
          · rw [g]; exact ow _ r3
          · exact .inl g
        refine ⟨st', t', ?_, ⟨?_, by have := r3.n; omega, ho'⟩, r3, ht'⟩
        · rw [r1]
          unfold takeP
          rw [if_neg hnot, ← e1, ← e2, hep]
          split
          · rfl
          · split
            · split <;> rfl
            · rfl
        · rw [r2]
          unfold takeP
          rw [if_neg hnot, ← e1, ← e2, hep]
          split
          · rfl
          · split
            · split <;> rfl
            · rfl
      by_cases hg : l.other < nth (oneN s) 0
      · have sa : ∀ (a : Bool) K, A.store 1 (.ptr st.n 2) (.bool a) st3 K = K (st3.put st.n (.cells (cC [] 1 [] 1 a))) := fun a K => by simp [c3, cC]
        have eo : decide ((0 : Int) < (l.other : Int)) = decide (0 < l.other) := by apply decide_eq_decide.2; omega
        simp only [hg, decide_true, cond_true, nilc_ptr, faddr_ptr, Nat.zero_add, l1, bin_gtr, eo, sa]
        have f4 := f3.put (j := st.n) (.inr (Nat.le_refl _)) (.cells (cC [] 1 [] 1 (decide (0 < l.other))))
        have c4 := put_at st3 st.n (.cells (cC [] 1 [] 1 (decide (0 < l.other))))
        have a4 : (st3.put st.n (.cells (cC [] 1 [] 1 (decide (0 < l.other))))).ob (st.n + 1) = some (.cells (noteC (oneN s))) := by rw [put_ne _ _ (by omega)]; exact a3
        have b4 : (st3.put st.n (.cells (cC [] 1 [] 1 (decide (0 < l.other))))).ob (st.n + 1 + 1) = some (.cells (noteC (rdN s).1)) := by rw [put_ne _ _ (by omega)]; exact b3
        have i4 : (st3.put st.n (.cells (cC [] 1 [] 1 (decide (0 < l.other))))).ob id = some (.cells (lkC l t)) := by rw [put_ne _ _ (by omega)]; exact i3
        generalize st3.put st.n (.cells (cC [] 1 [] 1 (decide (0 < l.other)))) = st4 at f4 c4 a4 b4 i4
        unfold g19bzdl
        have lc : ∀ K, A.load false 1 (.ptr st.n 2) st4 K = K (.bool (decide (0 < l.other))) st4 := fun K => by simp [c4, cC]
        have m4 : ∀ {st5 : St} (hh : st5.ob (st.n + 1) = some (.cells (noteC (oneN s)))) K, A.load false 1 (.ptr (st.n + 1) 1) st5 K = K (.lst (intsV (oneN s).nums) 0) st5 := fun {st5} hh K => by simp [hh, noteC]
        simp only [faddr_ptr, Nat.zero_add, lc]
        by_cases hz : 0 < l.other
        · have sq : ∀ K, A.store 1 (.ptr id 4) (.lst [] 1) st4 K = K (st4.put id (.cells (lkC ⟨l.epoch, l.other, l.first, l.want, []⟩ 1))) := fun K => by simp [i4, lkC]
          have sf : ∀ K, A.store 1 (.ptr id 2) (.int .i64 1) (st4.put id (.cells (lkC ⟨l.epoch, l.other, l.first, l.want, []⟩ 1))) K = K (st4.put id (.cells (lkC ⟨l.epoch, l.other, 1, l.want, []⟩ 1))) := fun K => by simp [lkC]
          simp only [hz, decide_true, cond_true, nilc_ptr, faddr_ptr, Nat.zero_add, sq, sf]
          unfold g19bz6t
          have a5 : (st4.put id (.cells (lkC ⟨l.epoch, l.other, 1, l.want, []⟩ 1))).ob (st.n + 1) = some (.cells (noteC (oneN s))) := by rw [put_ne _ _ (by omega)]; exact a4
          have so : ∀ K, A.store 1 (.ptr id 1) (.int .i64 (nth (oneN s) 0 : Nat)) (st4.put id (.cells (lkC ⟨l.epoch, l.other, 1, l.want, []⟩ 1))) K = K (st4.put id (.cells (lkC ⟨l.epoch, nth (oneN s) 0, 1, l.want, []⟩ 1))) := fun K => by simp [lkC]
          have sw : ∀ K, A.store 1 (.ptr id 3) (.int .i64 1) (st4.put id (.cells (lkC ⟨l.epoch, nth (oneN s) 0, 1, l.want, []⟩ 1))) K = K (st4.put id (.cells (lkC ⟨l.epoch, nth (oneN s) 0, 1, 1, []⟩ 1))) := fun K => by simp [lkC]
          simp only [faddr_ptr, Nat.zero_add, m4 a5, ia, y1, load_l1', nilc_ptr, so, sw]
          refine rest ⟨l.epoch, nth (oneN s) 0, 1, 1, []⟩ 1 true _ (by unfold freshP; rw [if_pos hg, if_pos hz]) (by simp [hg, hz]) ⟨hl.e1, hl.e2, y2, by show 1 ≤ 1000000000000; omega, by show 1 ≤ 1000000000000; omega, by simp⟩ (.inr rfl) (put_at _ _ _) ?_ ?_ ?_ (f4.put (.inl rfl) _)
          · rw [put_ne _ _ (by omega), c4]; simp [hz]
          · rw [put_ne _ _ (by omega)]; exact a4
          · rw [put_ne _ _ (by omega)]; exact b4
        · simp only [hz, decide_false, cond_false]
          unfold g19bz6t
          have so : ∀ K, A.store 1 (.ptr id 1) (.int .i64 (nth (oneN s) 0 : Nat)) st4 K = K (st4.put id (.cells (lkC ⟨l.epoch, nth (oneN s) 0, l.first, l.want, l.q⟩ t))) := fun K => by simp [i4, lkC]
          have sw : ∀ K, A.store 1 (.ptr id 3) (.int .i64 1) (st4.put id (.cells (lkC ⟨l.epoch, nth (oneN s) 0, l.first, l.want, l.q⟩ t))) K = K (st4.put id (.cells (lkC ⟨l.epoch, nth (oneN s) 0, l.first, 1, l.q⟩ t))) := fun K => by simp [lkC]
          simp only [faddr_ptr, Nat.zero_add, m4 a4, ia, y1, load_l1', nilc_ptr, so, sw]
          refine rest ⟨l.epoch, nth (oneN s) 0, l.first, 1, l.q⟩ t false _ (by unfold freshP; rw [if_pos hg, if_neg hz]) (by simp [hg, hz]) ⟨hl.e1, hl.e2, y2, hl.f, by show 1 ≤ 1000000000000; omega, hl.q⟩ (.inl rfl) (put_at _ _ _) ?_ ?_ ?_ (f4.put (.inl rfl) _)
          · rw [put_ne _ _ (by omega), c4]; simp [hz]
          · rw [put_ne _ _ (by omega)]; exact a4
          · rw [put_ne _ _ (by omega)]; exact b4
      · simp only [hg, decide_false, cond_false]
        exact rest l t false st3 (by unfold freshP; rw [if_neg hg]) (by simp [hg]) hl (.inl rfl) i3 c3 a3 b3 f3
end Go.Ab

/- sinew/link: New, Put, Tick, Waits, Other; ends that nobody made. -/
namespace Go.Ab
open Go.Proofs Go.RowKit Go.Oct
set_option linter.unusedVariables false
set_option linter.unusedSimpArgs false
set_option maxRecDepth 100000
def newP (e : Nat) : Lk := ⟨e, 0, 1, 1, []⟩
theorem newP_ok {e : Nat} (h1 : 1 ≤ e) (h2 : e ≤ 1099511627776) : LkOK (newP e) := ⟨h1, h2, by simp [newP], by simp [newP], by simp [newP], by simp [newP]⟩
theorem lnew_s (e : Nat) (h1 : 1 ≤ e) (h2 : e ≤ 1099511627776) (st : St) : s9 [.int .i64 (e : Nat)] st = some (.ret (.tup [.ptr st.n 0, .int .i64 0]), st.new (.cells (lkC (newP e) 1))) := by
  rw [s9_eq]
  unfold f9
  simp only [bin_lss, show ¬ ((e : Int) < 1) from by omega, decide_false, guard_ff, bin_gtr, show ¬ ((1099511627776 : Int) < (e : Int)) from by omega, cond_false]
  unfold g9b11
  have b : ∀ K, A.build [.int .i64 0, .int .i64 0, .int .i64 0, .int .i64 0, .lst [] 1] [(0, 1, .int .i64 (e : Nat)), (2, 1, .int .i64 1), (3, 1, .int .i64 1)] K = K (.agg (lkC (newP e) 1)) := fun K => rfl
  have bx : ∀ K, A.box (.agg (lkC (newP e) 1)) st K = K (.ptr st.n 0) (st.new (.cells (lkC (newP e) 1))) := fun K => rfl
  simp only [b, bx, er1_ptr, er1_int]
theorem lnew_bad (e : Int) (h : e < 1 ∨ 1099511627776 < e) (st : St) : s9 [.int .i64 e] st = some (.ret (.tup [.ptr0, .int .i64 1]), st) := by
  rw [s9_eq]
  unfold f9
  by_cases h1 : e < 1
  · simp only [bin_lss, h1, decide_true, guard_tf, er1_ptr0, er1_int]
  · simp only [bin_lss, h1, decide_false, guard_ff, bin_gtr, h.resolve_left h1, decide_true, cond_true, er1_ptr0, er1_int]
theorem lnew_at (e : Nat) (st : St) : LAt (st.new (.cells (lkC (newP e) 1))) st.n 1 (newP e) := ⟨new_at _ _, by simp, .inl rfl⟩
theorem lwaits_s {st : St} {id t : Nat} {l : Lk} (h : LAt st id t l) (hl : 1 ≤ l.epoch) : s22 [.ptr id 0] st = some (.ret (.int .i64 (l.q.length : Nat)), st) := by
  rw [s22_eq]
  unfold f22
  obtain ⟨l0, l1, l2, l3, l4⟩ := lload h.ob
  simp only [er1_ptr, lgiven_s h.ob hl, ret_ret, un_not, Bool.not_true, cond_false, nilc_ptr, faddr_ptr, Nat.zero_add, l4, lenL_lst, strsV_len, er1_int]
theorem lother_s {st : St} {id t : Nat} {l : Lk} (h : LAt st id t l) (hl : 1 ≤ l.epoch) : s23 [.ptr id 0] st = some (.ret (.int .i64 (l.other : Nat)), st) := by
  rw [s23_eq]
  unfold f23
  obtain ⟨l0, l1, l2, l3, l4⟩ := lload h.ob
  simp only [er1_ptr, lgiven_s h.ob hl, ret_ret, un_not, Bool.not_true, cond_false, nilc_ptr, faddr_ptr, Nat.zero_add, l1, er1_int]
def tickP (l : Lk) : List (List UInt8) := (List.range (min l.q.length 64)).map fun k => pkt (pk1 l k)
theorem tick_loop {st0 : St} {id t : Nat} {l : Lk} (hob : st0.ob id = some (.cells (lkC l t))) (hid : id < st0.n) (hl : LkOK l) (m : Nat) (hm : m ≤ l.q.length) : ∀ (f k u : Nat) (st : St), k ≤ m → m < f + k → Ks st0 st → Own st0 st 1 u →
    ∃ st' u', g16bz3e f (.ptr id 0) (.lst (strsV ((List.range k).map fun k => pkt (pk1 l k))) u) (.int .i64 (m : Nat)) (.int .i64 (k : Nat)) st = some (.ret (.lst (strsV ((List.range m).map fun k => pkt (pk1 l k))) u'), st') ∧ Ks st0 st' := by
  intro f
  induction f with
  | zero => intro k u st hk hf; omega
  | succ f ih =>
    intro k u st hk hf ks ho
    have hq := hl.q
    unfold g16bz3e
    by_cases h : k < m
    · have e4 : ∀ K, A.bin .add (.int .i64 (k : Nat)) (.int .i64 1) K = K (.int .i64 ((k + 1 : Nat) : Int)) := fun K => bin_inc (by omega) K
      have ob : st.ob id = some (.cells (lkC l t)) := by rw [ks.ob id hid]; exact hob
      have b1 : ∀ (s : List UInt8) K, A.bslice 1 (.str []) 1 [(0, .str s)] K = K (.lst (strsV [s]) 2) := fun s K => rfl
      simp only [bin_lss, show ((k : Int) < (m : Int)) from by omega, decide_true, cond_true, er1_ptr, er1_int, lat_s ob hl k (by omega), ret_ret, b1, elemsOf_strs]
      rw [app_own _ ho (by simp; omega) (szok_strs _), ← strsV_app]
      obtain ⟨k2, o2⟩ := ho.app ks
      simp only [e4]
      have e : ((List.range k).map fun k => pkt (pk1 l k)) ++ [pkt (pk1 l k)] = (List.range (k + 1)).map fun k => pkt (pk1 l k) := by
        rw [List.range_succ, List.map_append]; rfl
      rw [e]
      exact ih (k + 1) _ _ (by omega) (by omega) k2 o2
    · have : k = m := by omega
      subst this
      simp only [bin_lss, Int.lt_irrefl, decide_false, cond_false, er1_lst]
      exact ⟨st, u, rfl, ks⟩
theorem ltick_s {st : St} {id t : Nat} {l : Lk} (h : LAt st id t l) (hl : LkOK l) : s16 [.ptr id 0] st = some (.ret (.lst (strsV (tickP l)) 0), st) := by
  rw [s16_eq]
  have key : ∃ st' u', f16 (.ptr id 0) st = some (.ret (.lst (strsV (tickP l)) u'), st') ∧ Ks st st' := by
    unfold f16
    have hq := hl.q
    obtain ⟨l0, l1, l2, l3, l4⟩ := lload h.ob
    have em : ∀ K, A.min (.int .i64 (l.q.length : Nat)) (.int .i64 64) K = K (.int .i64 ((min l.q.length 64 : Nat) : Int)) := fun K => by
      show K (.int .i64 (if (64 : Int) < (l.q.length : Int) then 64 else (l.q.length : Int))) = _
      congr 2
      split <;> omega
    have hsl : ∀ K, A.slice 1 (.lst (strsV l.q) t) none (some (.int .i64 (min l.q.length 64 : Nat))) (some (.int .i64 (l.q.length : Nat))) K = K (.lst (strsV (l.q.take (min l.q.length 64))) (if min l.q.length 64 = l.q.length then 2 else 0)) := fun K => by
      have e : ((strsV l.q).take (min l.q.length 64)).drop 0 = strsV (l.q.take (min l.q.length 64)) := by rw [List.drop_zero, strsV_take]
      have c : 0 ≤ min l.q.length 64 ∧ min l.q.length 64 ≤ l.q.length ∧ l.q.length ≤ (strsV l.q).length ∧ szok 1 (strsV l.q) = true ∧ (some (V.int .i64 ((min l.q.length 64 : Nat) : Int))).isSome = true := ⟨Nat.zero_le _, Nat.min_le_left _ _, by simp, szok_strs _, rfl⟩
      unfold A.slice
      simp only [bnd, Int.toNat_natCast, show ((0 : Int) ≤ ((min l.q.length 64 : Nat) : Int)) from by omega, show ((0 : Int) ≤ (l.q.length : Int)) from by omega, if_true]
      rw [if_pos c, e]
    have hlen : (l.q.take (min l.q.length 64)).length = min l.q.length 64 := by rw [List.length_take]; omega
    simp only [er1_ptr, lgiven_s h.ob hl.e1, ret_ret, un_not, Bool.not_true, cond_false, nilc_ptr, faddr_ptr, Nat.zero_add, l4, lenL_lst, strsV_len, em, hsl, hlen]
    unfold g16b11101
    obtain ⟨st', u', q1, q2⟩ := tick_loop h.ob h.lt hl (min l.q.length 64) (by omega) big 0 1 st (by omega) (lt_big (by omega)) (Ks.refl st) (.nil _ _ _)
    exact ⟨st', u', q1, q2⟩
  obtain ⟨st', u', h1, h2⟩ := key
  exact fg_of h1 h2 (by simp)
/-- Where Put leaves the others. -/
structure PFr (st st' : St) (id t t' : Nat) : Prop where
  n : st.n ≤ st'.n
  nt : st.nt ≤ st'.nt
  ob : ∀ i, i < st.n → i ≠ id → st'.ob i = st.ob i
  tk : ∀ k, k < st.nt → t ≠ k + 3 → st'.tk k = st.tk k
  tt : t' = t ∨ t' ≤ 2 ∨ st.nt + 3 ≤ t'
theorem TFr.pfr {st st' : St} {id t t' : Nat} (h : TFr st st' id) (ht : t' = t ∨ t' ≤ 2) : PFr st st' id t t' := ⟨h.n, by rw [h.nt]; exact Nat.le_refl _, h.ob, fun k _ _ => by rw [h.tk], ht.elim .inl (fun g => .inr (.inl g))⟩
theorem PFr.own {st st' : St} {id sz t t' u : Nat} (h : PFr st st' id t t') (hu : OwnN st sz u) (hne : u ≤ 2 ∨ u ≠ t) : OwnN st' sz u := by
  rcases hu with g | g | ⟨k, g1, g2, g3⟩
  · exact .inl g
  · exact .inr (.inl g)
  · exact .inr (.inr ⟨k, g1, Nat.lt_of_lt_of_le g2 h.nt, by rw [h.tk k g2 (by omega)]; exact g3⟩)
/-- What Put does: the end, a packet, the error. -/
def putP (l : Lk) (n : Note) : Lk × List (List UInt8) × Nat :=
  if packOK n = false ∨ 32768 < (packB n).length then (l, [], 1)
  else if 4096 ≤ l.q.length then (l, [], 2)
  else if 64 < l.q.length + 1 then (⟨l.epoch, l.other, l.first, l.want, l.q ++ [packB n]⟩, [], 0)
  else (⟨l.epoch, l.other, l.first, l.want, l.q ++ [packB n]⟩, [pkt (pk1 ⟨l.epoch, l.other, l.first, l.want, l.q ++ [packB n]⟩ l.q.length)], 0)
def tokP (ps : List (List UInt8)) : Nat := if ps = [] then 1 else 2
theorem lput_s {st : St} {id t : Nat} {l : Lk} (h : LAt st id t l) (hl : LkOK l) (n : Note) (hn : NoteOK n) :
    ∃ st' t', s13 [.ptr id 0, noteV n] st = some (.ret (.tup [.lst (strsV (putP l n).2.1) (tokP (putP l n).2.1), .int .i64 ((putP l n).2.2 : Nat)]), st') ∧ LAt st' id t' (putP l n).1 ∧ PFr st st' id t t' := by
  rw [s13_eq]
  unfold f13
  have hid := h.lt
  have hq := hl.q
  have bx : ∀ K, A.box (noteV n) st K = K (.ptr st.n 0) (st.new (.cells (noteC n))) := fun K => rfl
  have hob := new_at st (.cells (noteC n))
  have hnv : (V.agg (noteC n)).er1 = noteV n := rfl
  have f1 := (TFr.refl st id).new (.cells (noteC n))
  have i1 : (st.new (.cells (noteC n))).ob id = some (.cells (lkC l t)) := by rw [new_ne _ _ (by omega)]; exact h.ob
  simp only [bx, load_noteb hob, hnv, pack_s n hn, ret_ret]
  generalize st.new (.cells (noteC n)) = st1 at f1 i1
  have fail : ∀ (x6 : V), putP l n = (l, [], 1) → ∃ st' t', g13b11001 (.ptr id 0) x6 (.bool true) st1 = some (.ret (.tup [.lst (strsV (putP l n).2.1) (tokP (putP l n).2.1), .int .i64 ((putP l n).2.2 : Nat)]), st') ∧ LAt st' id t' (putP l n).1 ∧ PFr st st' id t t' := by
    intro x6 hp
    unfold g13b11001
    rw [hp]
    simp only [cond_true, er1_lst, er1_int]
    exact ⟨st1, t, rfl, ⟨i1, by have := f1.n; omega, f1.own h.own⟩, f1.pfr (.inl rfl)⟩
  cases hp : packOK n with
  | false =>
    simp only [Bool.false_eq_true, if_false, P2, ext_0, ext_1, er1_ptr, lgiven_s i1 hl.e1, ret_ret, un_not, Bool.not_true, guard_ff, eql_int, if_true, show (((1 : Nat) : Int) != 0) = true from rfl, guard_tf]
    exact fail _ (by unfold putP; rw [if_pos (.inl hp)])
  | true =>
    have hpl := packB_le hp
    simp only [if_true, P2, ext_0, ext_1, er1_ptr, lgiven_s i1 hl.e1, ret_ret, un_not, Bool.not_true, guard_ff, eql_int, show (((0 : Nat) : Int) != 0) = false from rfl, lenS_str, bin_gtr]
    by_cases hlong : 32768 < (packB n).length
    · simp only [show ((32768 : Int) < ((packB n).length : Int)) from by omega, decide_true]
      exact fail _ (by unfold putP; rw [if_pos (.inr hlong)])
    · have hnot : ¬ (packOK n = false ∨ 32768 < (packB n).length) := by rw [hp]; simpa using hlong
      simp only [show ¬ ((32768 : Int) < ((packB n).length : Int)) from by omega, decide_false]
      unfold g13b11001
      obtain ⟨l0, l1, l2, l3, l4⟩ := lload i1
      simp only [cond_false, nilc_ptr, faddr_ptr, Nat.zero_add, l4, lenL_lst, strsV_len, bin_geq]
      by_cases hfull : 4096 ≤ l.q.length
      · have hP : putP l n = (l, [], 2) := by unfold putP; rw [if_neg hnot, if_pos hfull]
        rw [hP]
        simp only [show ((4096 : Int) ≤ (l.q.length : Int)) from by omega, decide_true, cond_true, er1_lst, er1_int]
        exact ⟨st1, t, rfl, ⟨i1, by have := f1.n; omega, f1.own h.own⟩, f1.pfr (.inl rfl)⟩
      · simp only [show ¬ ((4096 : Int) ≤ (l.q.length : Int)) from by omega, decide_false, cond_false]
        unfold g13b111
        have b1 : ∀ (s : List UInt8) K, A.bslice 1 (.str []) 1 [(0, .str s)] K = K (.lst (strsV [s]) 2) := fun s K => rfl
        have hown := f1.own h.own
        have htok : Tok st1 1 t := by
          rcases hown with g | g | ⟨k, g1, g2, g3⟩
          · exact .inl g
          · exact .inr (.inl g)
          · exact .inr (.inr ⟨k, g1, g3⟩)
        simp only [nilc_ptr, faddr_ptr, Nat.zero_add, l4, b1, elemsOf_strs]
        rw [app_tok _ htok (by simp; omega) (szok_strs _), ← strsV_app]
        have i2 : (appSt st1 t 1).ob id = some (.cells (lkC l t)) := by rw [appSt_ob]; exact i1
        have sq : ∀ K, A.store 1 (.ptr id 4) (.lst (strsV (l.q ++ [packB n])) (st1.nt + 3)) (appSt st1 t 1) K = K ((appSt st1 t 1).put id (.cells (lkC ⟨l.epoch, l.other, l.first, l.want, l.q ++ [packB n]⟩ (st1.nt + 3)))) := fun K => by
          simp [i1, lkC]
        simp only [sq]
        have i3 := put_at (appSt st1 t 1) id (.cells (lkC ⟨l.epoch, l.other, l.first, l.want, l.q ++ [packB n]⟩ (st1.nt + 3)))
        have hn1 := f1.n
        have hnt1 := f1.nt
        have at3 : LAt ((appSt st1 t 1).put id (.cells (lkC ⟨l.epoch, l.other, l.first, l.want, l.q ++ [packB n]⟩ (st1.nt + 3)))) id (st1.nt + 3) ⟨l.epoch, l.other, l.first, l.want, l.q ++ [packB n]⟩ :=
          ⟨i3, by rw [put_n, appSt_n]; omega, .inr (.inr ⟨st1.nt, rfl, by rw [put_nt, appSt_nt]; omega, by rw [put_tk]; exact appSt_new _ _ _⟩)⟩
        have fr3 : PFr st ((appSt st1 t 1).put id (.cells (lkC ⟨l.epoch, l.other, l.first, l.want, l.q ++ [packB n]⟩ (st1.nt + 3)))) id t (st1.nt + 3) := by
          refine ⟨by rw [put_n, appSt_n]; exact hn1, by rw [put_nt, appSt_nt]; omega, fun i hi hd => by rw [put_ne _ _ hd, appSt_ob]; exact f1.ob i hi hd, fun k hk ht => ?_, .inr (.inr (by omega))⟩
          rw [put_tk, appSt_tk _ _ _ _ (by omega) ht, f1.tk]
        have hl3 : LkOK ⟨l.epoch, l.other, l.first, l.want, l.q ++ [packB n]⟩ := ⟨hl.e1, hl.e2, hl.o, hl.f, hl.w, by simp; omega⟩
        generalize (appSt st1 t 1).put id (.cells (lkC ⟨l.epoch, l.other, l.first, l.want, l.q ++ [packB n]⟩ (st1.nt + 3))) = st3 at i3 at3 fr3
        unfold g13b1111
        obtain ⟨k0, k1, k2, k3, k4⟩ := lload i3
        have hlen : (l.q ++ [packB n]).length = l.q.length + 1 := by simp
        simp only [nilc_ptr, faddr_ptr, Nat.zero_add, k4, lenL_lst, strsV_len, hlen, bin_gtr]
        by_cases h64 : 64 < l.q.length + 1
        · have hP : putP l n = (⟨l.epoch, l.other, l.first, l.want, l.q ++ [packB n]⟩, [], 0) := by unfold putP; rw [if_neg hnot, if_neg hfull, if_pos h64]
          rw [hP]
          simp only [show ((64 : Int) < ((l.q.length + 1 : Nat) : Int)) from by omega, decide_true, cond_true, er1_lst, er1_int]
          exact ⟨st3, _, rfl, at3, fr3⟩
        · have hP : putP l n = (⟨l.epoch, l.other, l.first, l.want, l.q ++ [packB n]⟩, [pkt (pk1 ⟨l.epoch, l.other, l.first, l.want, l.q ++ [packB n]⟩ l.q.length)], 0) := by unfold putP; rw [if_neg hnot, if_neg hfull, if_neg h64]
          rw [hP]
          have es : ∀ K, A.bin .sub (.int .i64 (l.q.length + 1 : Nat)) (.int .i64 1) K = K (.int .i64 (l.q.length : Nat)) := fun K => bin_subN (l.q.length + 1) 1 K (by omega) (by omega)
          simp only [show ¬ ((64 : Int) < ((l.q.length + 1 : Nat) : Int)) from by omega, decide_false, cond_false, k4, lenL_lst, strsV_len, hlen, es, er1_ptr, er1_int, lat_s i3 hl3 l.q.length (by show l.q.length < (l.q ++ [packB n]).length; omega), ret_ret, b1, er1_lst]
          exact ⟨st3, _, rfl, at3, fr3⟩
/-! ### ends that nobody made -/
def lk0 : Lk := ⟨0, 0, 0, 0, []⟩
structure LNo (st : St) (v : V) : Prop where
  v : v = .ptr0 ∨ ∃ p, v = .ptr p 0 ∧ st.ob p = some (.cells (lkC lk0 1)) ∧ p < st.n
theorem LNo.er1 {st : St} {v : V} (h : LNo st v) : v.er1 = v := by
  rcases h.v with g | ⟨p, g1, _, _⟩ <;> (first | rw [g] | rw [g1]) <;> rfl
theorem LNo.old {st st' : St} {v : V} (h : LNo st v) (hn : st.n ≤ st'.n) (k : ∀ i, i < st.n → st'.ob i = st.ob i) : LNo st' v := by
  rcases h.v with g | ⟨p, g1, g2, g3⟩
  · exact ⟨.inl g⟩
  · exact ⟨.inr ⟨p, g1, by rw [k p g3]; exact g2, Nat.lt_of_lt_of_le g3 hn⟩⟩
theorem lno_given {st : St} {v : V} (h : LNo st v) : s31 [v] st = some (.ret (.bool false), st) := by
  rw [s31_eq]
  unfold f31
  rcases h.v with rfl | ⟨p, rfl, h2, _⟩
  · simp only [eql_ptr0, Bool.not_true, guard_ft, er1_bool]
  · obtain ⟨l0, _⟩ := lload h2
    simp only [eql_ptr, guard_tt, nilc_ptr, faddr_ptr, Nat.zero_add, l0, bin_gtr, show ¬ ((0 : Int) < ((lk0.epoch : Nat) : Int)) from by simp [lk0], decide_false, er1_bool]
theorem lno_waits {st : St} {v : V} (h : LNo st v) : s22 [v] st = some (.ret (.int .i64 0), st) := by
  rw [s22_eq]
  unfold f22
  simp only [h.er1, lno_given h, ret_ret, un_not, Bool.not_false, cond_true, er1_int]
theorem lno_other {st : St} {v : V} (h : LNo st v) : s23 [v] st = some (.ret (.int .i64 0), st) := by
  rw [s23_eq]
  unfold f23
  simp only [h.er1, lno_given h, ret_ret, un_not, Bool.not_false, cond_true, er1_int]
theorem lno_tick {st : St} {v : V} (h : LNo st v) : s16 [v] st = some (.ret (.lst [] 0), st) := by
  rw [s16_eq]
  refine fg_of (st' := st) (v := .lst [] 1) ?_ (Ks.refl st) rfl
  unfold f16
  simp only [h.er1, lno_given h, ret_ret, un_not, Bool.not_false, cond_true, er1_lst]
theorem lno_put {st : St} {v : V} (h : LNo st v) (n : Note) (hn : NoteOK n) : ∃ st', s13 [v, noteV n] st = some (.ret (.tup [.lst [] 1, .int .i64 1]), st') ∧ st.n ≤ st'.n ∧ ∀ i, i < st.n → st'.ob i = st.ob i := by
  rw [s13_eq]
  unfold f13
  have bx : ∀ K, A.box (noteV n) st K = K (.ptr st.n 0) (st.new (.cells (noteC n))) := fun K => rfl
  have hob := new_at st (.cells (noteC n))
  have hnv : (V.agg (noteC n)).er1 = noteV n := rfl
  have h1 := h.old (st' := st.new (.cells (noteC n))) (by simp) (fun i hi => new_ne _ _ (by omega))
  simp only [bx, load_noteb hob, hnv, pack_s n hn, ret_ret, h.er1, lno_given h1, un_not, Bool.not_false, guard_tf]
  refine ⟨_, ?_, by simp, fun i hi => new_ne (st := st) (.cells (noteC n)) (by omega)⟩
  cases packOK n <;> simp only [Bool.false_eq_true, if_false, if_true, P2, ext_0, ext_1] <;> unfold g13b11001 <;> simp only [cond_true, er1_lst, er1_int]
theorem lno_take {st : St} {v : V} (h : LNo st v) (s : List UInt8) (hs : s.length ≤ 9223372036854775807) : ∃ st', s19 [v, .str s] st = some (.ret (cameV [] [] false), st') ∧ st.n ≤ st'.n ∧ ∀ i, i < st.n → st'.ob i = st.ob i := by
  rw [s19_eq]
  unfold f19
  have bx : ∀ K, A.box (.agg [.lst [] 1, .lst [] 1, .bool false]) st K = K (.ptr st.n 0) (st.new (.cells (cC [] 1 [] 1 false))) := fun K => rfl
  have f0 := (TFr.refl st st.n).new (.cells (cC [] 1 [] 1 false))
  have c0 := new_at st (.cells (cC [] 1 [] 1 false))
  have n0 : (st.new (.cells (cC [] 1 [] 1 false))).n = st.n + 1 := by simp
  simp only [bx]
  generalize st.new (.cells (cC [] 1 [] 1 false)) = st1 at f0 c0 n0
  simp only [er1_str, lread_s s hs, ret_ret, ext_0, ext_1, ext_2, box_zero, new_n, n0]
  have f1 := (f0.new (.cells (nC 0 [] 1 [] 1 [] 1))).new (.cells (nC 0 [] 1 [] 1 [] 1))
  have c1 : ((st1.new (.cells (nC 0 [] 1 [] 1 [] 1))).new (.cells (nC 0 [] 1 [] 1 [] 1))).ob st.n = some (.cells (cC [] 1 [] 1 false)) := by rw [new_ne _ _ (by simp; omega), new_ne _ _ (by omega)]; exact c0
  have a1 : ((st1.new (.cells (nC 0 [] 1 [] 1 [] 1))).new (.cells (nC 0 [] 1 [] 1 [] 1))).ob (st.n + 1) = some (.cells (nC 0 [] 1 [] 1 [] 1)) := by rw [new_ne _ _ (by simp; omega), ← n0]; exact new_at _ _
  have b1 : ((st1.new (.cells (nC 0 [] 1 [] 1 [] 1))).new (.cells (nC 0 [] 1 [] 1 [] 1))).ob (st.n + 1 + 1) = some (.cells (nC 0 [] 1 [] 1 [] 1)) := by
    have : st.n + 1 + 1 = (st1.new (.cells (nC 0 [] 1 [] 1 [] 1))).n := by simp [n0]
    rw [this]; exact new_at _ _
  generalize (st1.new (.cells (nC 0 [] 1 [] 1 [] 1))).new (.cells (nC 0 [] 1 [] 1 [] 1)) = st2 at f1 c1 a1 b1
  have b2 : (st2.put (st.n + 1) (.cells (noteC (oneN s)))).ob (st.n + 1 + 1) = some (.cells (nC 0 [] 1 [] 1 [] 1)) := by rw [put_ne _ _ (by omega)]; exact b1
  simp only [store_note a1, store_note b2]
  have f3 := (f1.put (j := st.n + 1) (.inr (by omega)) (.cells (noteC (oneN s)))).put (j := st.n + 1 + 1) (.inr (by omega)) (.cells (noteC (rdN s).1))
  have c3 : ((st2.put (st.n + 1) (.cells (noteC (oneN s)))).put (st.n + 1 + 1) (.cells (noteC (rdN s).1))).ob st.n = some (.cells (cC [] 1 [] 1 false)) := by rw [put_ne _ _ (by omega), put_ne _ _ (by omega)]; exact c1
  generalize (st2.put (st.n + 1) (.cells (noteC (oneN s)))).put (st.n + 1 + 1) (.cells (noteC (rdN s).1)) = st3 at f3 c3
  have h3 := h.old f3.n (fun i hi => f3.ob i hi (by omega))
  unfold g19b11
  simp only [h.er1, lno_given h3, ret_ret, kid_eq, noP_ret, un_not, Bool.not_false, guard_tf]
  unfold g19b1100_8
  have b : ∀ K, A.build [.lst [] 1, .lst [] 1, .bool false] [] K = K (.agg (cC [] 1 [] 1 false)) := fun K => rfl
  have s1 : ∀ K, A.store 3 (.ptr st.n 0) (.agg (cC [] 1 [] 1 false)) st3 K = K (st3.put st.n (.cells (cC [] 1 [] 1 false))) := fun K => by
    rw [store_agg, c3, obo_some]; simp [cC, Go.Ab.putL]
  have l1 : ∀ K, A.load true 3 (.ptr st.n 0) (st3.put st.n (.cells (cC [] 1 [] 1 false))) K = K (.agg (cC [] 1 [] 1 false)) (st3.put st.n (.cells (cC [] 1 [] 1 false))) := fun K => by
    rw [load_obA, put_at, obo_some]; rfl
  have her : (V.agg (cC [] 1 [] 1 false)).er1 = cameV [] [] false := rfl
  have ff := f3.put (j := st.n) (.inr (Nat.le_refl _)) (.cells (cC [] 1 [] 1 false))
  simp only [guard_tf, b, s1, l1, kid_eq, rcell_some, res_one, her]
  exact ⟨_, rfl, ff.n, fun i hi => ff.ob i hi (by omega)⟩
end Go.Ab

/- sinewlaw15.LinkNobody. -/
namespace Go.Ab
open Go.Proofs Go.RowKit Go.Oct
set_option linter.unusedVariables false
set_option linter.unusedSimpArgs false
set_option maxRecDepth 100000
structure Kp (st st' : St) : Prop where
  n : st.n ≤ st'.n
  ob : ∀ i, i < st.n → st'.ob i = st.ob i
theorem Kp.refl (st : St) : Kp st st := ⟨Nat.le_refl _, fun _ _ => rfl⟩
theorem Kp.trans {a b c : St} (h : Kp a b) (k : Kp b c) : Kp a c := ⟨Nat.le_trans h.n k.n, fun i hi => (k.ob i (Nat.lt_of_lt_of_le hi h.n)).trans (h.ob i hi)⟩
theorem lnobody_step (s : List UInt8) (hs : s.length ≤ 9223372036854775807) (n : Note) (hn : NoteOK n) (p : Nat) (v0 v1 v : V) (i : Nat) (hv : [v0, v1][i]? = some v) (L : V → V → V → V → St → Res) (st : St) (hj : LNo st v) (hi : i < 2) :
    ∃ st', g7bz1ft L (.str s) (.ptr p 0) (.lst [v0, v1] 2) (.int .i64 (i : Nat)) (.lst [] 1) (.int .i64 1) st = L (.str s) (.ptr p 0) (.lst [v0, v1] 2) (.int .i64 ((i + 1 : Nat) : Int)) st' ∧ Kp st st' := by
  have hc : v.cells = [v] := by rcases hj.v with g | ⟨_, g, _, _⟩ <;> rw [g] <;> rfl
  have ia : ∀ K, A.iaddr 1 (.lst [v0, v1] 2) (.int .i64 (i : Nat)) K = K (.lptr [v]) := fun K => by
    have := iaddr_lst (l := [v0, v1]) (t := 2) (sz := 1) K hv (by rw [hc]; rfl)
    rw [this, hc]
  have e4 : ∀ K, A.bin .add (.int .i64 (i : Nat)) (.int .i64 1) K = K (.int .i64 ((i + 1 : Nat) : Int)) := fun K => bin_inc (by omega) K
  obtain ⟨st1, t1, t2, t3⟩ := lno_take hj s hs
  have hj1 := hj.old t2 t3
  have bx : ∀ K, A.box (.agg [.lst [] 1, .lst [] 1, .bool false]) st1 K = K (.ptr st1.n 0) (st1.new (.cells (cC [] 1 [] 1 false))) := fun K => rfl
  have sc : ∀ K, A.store 3 (.ptr st1.n 0) (cameV [] [] false) (st1.new (.cells (cC [] 1 [] 1 false))) K = K ((st1.new (.cells (cC [] 1 [] 1 false))).put st1.n (.cells (cC [] 0 [] 0 false))) := fun K => by
    unfold cameV
    rw [store_agg, new_at, obo_some]; simp [cC, Go.Ab.putL]
  have k2 : Kp st1 ((st1.new (.cells (cC [] 1 [] 1 false))).put st1.n (.cells (cC [] 0 [] 0 false))) := ⟨by simp, fun i hi => by rw [put_ne _ _ (by omega), new_ne _ _ (by omega)]⟩
  have hj2 := hj1.old k2.n k2.ob
  have oc := put_at (st1.new (.cells (cC [] 1 [] 1 false))) st1.n (.cells (cC [] 0 [] 0 false))
  unfold g7bz1ft
  simp only [ia, load_l1', hj.er1, er1_str, t1, ret_ret, bx, sc, lenL_lst, List.length_nil, Int.natCast_zero, bin_gtr, Int.lt_irrefl, decide_false, guard_ff, eql_int, if_true, bne_self_eq_false]
  generalize (st1.new (.cells (cC [] 1 [] 1 false))).put st1.n (.cells (cC [] 0 [] 0 false)) = st2 at k2 hj2 oc
  generalize st1.n = c at oc
  have c0 : ∀ K, A.load false 1 (.ptr c 0) st2 K = K (.lst [] 0) st2 := fun K => by simp [oc, cC, notesV]
  have c1 : ∀ K, A.load false 1 (.ptr c 1) st2 K = K (.lst [] 0) st2 := fun K => by simp [oc, cC]
  have c2 : ∀ K, A.load false 1 (.ptr c 2) st2 K = K (.bool false) st2 := fun K => by simp [oc, cC]
  have ez : ∀ K, A.bin .add (.int .i64 0) (.int .i64 0) K = K (.int .i64 0) := fun K => rfl
  unfold g7bz5ra_8
  simp only [guard_ff, ia, load_l1', hj2.er1, lno_tick hj2, ret_ret, lenL_lst, List.length_nil, Int.natCast_zero, bin_gtr, Int.lt_irrefl, decide_false]
  unfold g7bz5ra_17
  simp only [guard_ff, faddr_ptr, Nat.zero_add, c0, c1, lenL_lst, List.length_nil, Int.natCast_zero, ez, bin_gtr, Int.lt_irrefl, decide_false]
  unfold g7bz5ra_27
  simp only [guard_ff, faddr_ptr, Nat.zero_add, c2, ia, load_l1', hj2.er1, lno_waits hj2, ret_ret, eql_int, if_true, bne_self_eq_false]
  unfold g7bz5ra_39
  simp only [guard_ff, ia, load_l1', hj2.er1, lno_other hj2, ret_ret, eql_int, if_true, bne_self_eq_false, cond_false, e4]
  exact ⟨st2, rfl, (Kp.mk t2 t3).trans k2⟩
theorem linkNobody_law (n : Note) (hn : NoteOK n) (s : List UInt8) (hs : s.length ≤ 9223372036854775807) (st : St) : ∃ st', s7 [noteV n, .str s] st = some (.ret (.bool true), st') := by
  rw [s7_eq]
  unfold f7
  have bx : ∀ K, A.box (noteV n) st K = K (.ptr st.n 0) (st.new (.cells (noteC n))) := fun K => rfl
  have b : ∀ K, A.build [.int .i64 0, .int .i64 0, .int .i64 0, .int .i64 0, .lst [] 1] [] K = K (.agg (lkC lk0 1)) := fun K => rfl
  have bj : ∀ (st : St) K, A.box (.agg (lkC lk0 1)) st K = K (.ptr st.n 0) (st.new (.cells (lkC lk0 1))) := fun st K => rfl
  have bs : ∀ (q : Nat) K, A.bslice 1 .ptr0 2 [(0, .ptr0), (1, .ptr q 0)] K = K (.lst [.ptr0, .ptr q 0] 2) := fun q K => rfl
  simp only [bx, b, bj, bs, new_n]
  have hp : ((st.new (.cells (noteC n))).new (.cells (lkC lk0 1))).ob st.n = some (.cells (noteC n)) := by simp [new_ob]
  have hq : ((st.new (.cells (noteC n))).new (.cells (lkC lk0 1))).ob (st.n + 1) = some (.cells (lkC lk0 1)) := by simp [new_ob]
  have hN : ((st.new (.cells (noteC n))).new (.cells (lkC lk0 1))).n = st.n + 2 := by simp
  generalize (st.new (.cells (noteC n))).new (.cells (lkC lk0 1)) = st1 at hp hq hN
  have h0 : LNo st1 .ptr0 := ⟨.inl rfl⟩
  have h1 : LNo st1 (.ptr (st.n + 1) 0) := ⟨.inr ⟨_, rfl, hq, by omega⟩⟩
  have step : ∀ (f i : Nat) (st2 : St), i ≤ 2 → 2 < f + i → Kp st1 st2 → ∃ st', g7b11010 f (.str s) (.ptr st.n 0) (.lst [.ptr0, .ptr (st.n + 1) 0] 2) (.int .i64 (i : Nat)) st2 = some (.ret (.bool true), st') := by
    intro f
    induction f with
    | zero => intro i st2 hi hf; omega
    | succ f ih =>
      intro i st2 hi hf ho
      unfold g7b11010
      by_cases hlt : i < 2
      · obtain ⟨v, hv⟩ : ∃ v, [V.ptr0, .ptr (st.n + 1) 0][i]? = some v := ⟨_, List.getElem?_eq_getElem hlt⟩
        have hj : LNo st2 v := by
          match i, hlt with
          | 0, _ => cases hv; exact h0.old ho.n ho.ob
          | 1, _ => cases hv; exact h1.old ho.n ho.ob
        have hc : v.cells = [v] := by rcases hj.v with g | ⟨_, g, _, _⟩ <;> rw [g] <;> rfl
        have ia : ∀ K, A.iaddr 1 (.lst [.ptr0, .ptr (st.n + 1) 0] 2) (.int .i64 (i : Nat)) K = K (.lptr [v]) := fun K => by
          have := iaddr_lst (l := [.ptr0, .ptr (st.n + 1) 0]) (t := 2) (sz := 1) K hv (by rw [hc]; rfl)
          rw [this, hc]
        have hnv : (V.agg (noteC n)).er1 = noteV n := rfl
        have hp2 : st2.ob st.n = some (.cells (noteC n)) := by rw [ho.ob _ (by omega)]; exact hp
        obtain ⟨st3, w1, w2, w3⟩ := lno_put hj n hn
        have k3 : Kp st1 st3 := ho.trans ⟨w2, w3⟩
        have hj3 := hj.old w2 w3
        simp only [lenL_lst, List.length_cons, List.length_nil, bin_lss, show ((i : Int) < ((0 + 1 + 1 : Nat) : Int)) from by omega, decide_true, cond_true, ia, load_l1', load_noteb hp2, hj.er1, hnv, w1, ret_ret, kid_eq, noP_ret, ext_0, ext_1]
        obtain ⟨st4, q1, q2⟩ := lnobody_step s hs n hn st.n .ptr0 (.ptr (st.n + 1) 0) v i hv (g7b11010 f) st3 hj3 hlt
        rw [q1]
        exact ih (i + 1) st4 (by omega) (by omega) (k3.trans q2)
      · have : i = 2 := by omega
        subst this
        simp only [lenL_lst, List.length_cons, List.length_nil, bin_lss, show ¬ (((2 : Nat) : Int) < ((0 + 1 + 1 : Nat) : Int)) from by omega, decide_false, cond_false, s11_val, ret_ret, er1_bool]
        exact ⟨_, rfl⟩
  exact step big 0 st1 (by omega) (by have := big_le; omega) (Kp.refl _)
theorem linkNobody_row {W : World} {v0 v1 : Value} {x0 x1 : V} {n0 n1 : Nat}
    (r0 : Rs (E0 W) [x0] [v0]) (s0 : Sh Try.prog n0 36 x0.cells) (f0 : fit Try.prog 36 x0)
    (r1 : Rs (E0 W) [x1] [v1]) (s1 : Sh Try.prog n1 9 x1.cells) (f1 : fit Try.prog 9 x1) :
    Calls Try.prog 7 #[v0, v1] W fun e w' => e = .returned (.bool true) ∧ Below W.heap.size W w' := by
  obtain ⟨n, rfl, hn⟩ := in_note s0 f0
  obtain ⟨s, rfl, hs⟩ := in_str s1 f1 Try.underlying9
  obtain ⟨st', h⟩ := linkNobody_law n hn s hs St0
  exact bool_row sim7 W _ _ _ h (Rs.cons r0 r1)
end Go.Ab

/- What packets tell. -/
namespace Go.Ab
open Go.Proofs Go.RowKit Go.Oct
set_option linter.unusedVariables false
set_option linter.unusedSimpArgs false
set_option maxRecDepth 100000
theorem odd_nat {k : Nat} (h : k ≤ 4611686018427387903) : oddN (k : Int) = false := by
  simp only [oddN, Bool.or_eq_false_iff, decide_eq_false_iff_not]; omega
theorem pk2_pack {l : Lk} (hl : LkOK l) : packOK (pk2 l) = true ∧ (pk2 l).texts.length + lens (pk2 l).rows ≤ 4096 := by
  have h1 := odd_nat (k := l.epoch) (by have := hl.e2; omega)
  have h2 := odd_nat hl.o
  have h3 := odd_nat (k := l.want) (by have := hl.w; omega)
  have hf : fitsW (pk2 l) = true := by simp [fitsW, pk2, greatF, manyF, h1, h2, h3]
  have hb : (bodyB (pk2 l)).length ≤ 1048576 := by
    have a1 := putN_len9 (2 : Int).toNat
    have a2 := putN_len9 (pk2 l).nums.length
    have a3 := putN_len9 0
    have a4 := numsB_len (pk2 l).nums
    have a5 := listB_len2 (l := []) (by simp)
    have a6 : (pk2 l).nums.length = 3 := rfl
    simp only [List.length_nil] at a5
    show (headB (pk2 l) ++ rowsB (pk2 l).rows).length ≤ 1048576
    unfold headB
    simp only [show (pk2 l).rows = [] from rfl, show (pk2 l).texts = [] from rfl, show (pk2 l).kind = 2 from rfl, rowsB, List.flatMap_nil, List.length_append, List.length_nil, List.append_nil]
    omega
  exact ⟨by simp [packOK, hf, hb], by simp [pk2, lens]⟩
theorem pk1_pack {l : Lk} (hl : LkOK l) (k : Nat) (hk : k < l.q.length) (hq : (l.q.getD k []).length ≤ 65536) : packOK (pk1 l k) = true ∧ (pk1 l k).texts.length + lens (pk1 l k).rows ≤ 4096 := by
  have hql := hl.q
  have h1 := odd_nat (k := l.epoch) (by have := hl.e2; omega)
  have h2 := odd_nat hl.o
  have h3 := odd_nat (k := l.want) (by have := hl.w; omega)
  have h4 := odd_nat (k := l.first + k) (by have := hl.f; omega)
  have h5 : longT (l.q.getD k []) = false := by unfold longT; simp only [decide_eq_false_iff_not]; omega
  have h5' := h5
  rw [List.getD_eq_getElem?_getD] at h5'
  have hf : fitsW (pk1 l k) = true := by
    simp only [Int.natCast_add] at h4
    simp [fitsW, pk1, greatF, manyF, h1, h2, h3, h4, h5, h5']
  have hb : (bodyB (pk1 l k)).length ≤ 1048576 := by
    have a1 := putN_len9 (1 : Int).toNat
    have a2 := putN_len9 (pk1 l k).nums.length
    have a3 := putN_len9 0
    have a4 := numsB_len (pk1 l k).nums
    have a5 := listB_len2 (l := [l.q.getD k []]) (by intro s hs; rw [List.mem_singleton.1 hs]; exact hq)
    have a6 : (pk1 l k).nums.length = 4 := rfl
    simp only [List.length_singleton] at a5
    show (headB (pk1 l k) ++ rowsB (pk1 l k).rows).length ≤ 1048576
    unfold headB
    simp only [show (pk1 l k).rows = [] from rfl, show (pk1 l k).texts = [l.q.getD k []] from rfl, show (pk1 l k).kind = 1 from rfl, rowsB, List.flatMap_nil, List.length_append, List.length_nil, List.append_nil]
    omega
  exact ⟨by simp [packOK, hf, hb], by simp [pk1, lens]⟩
theorem one_pkt {n : Note} (hp : packOK n = true) (hs : n.texts.length + lens n.rows ≤ 4096) : oneO (pkt n) = true ∧ oneN (pkt n) = n := by
  have hu := unp_pack hp hs []
  rw [List.append_nil] at hu
  have e : pkt n = packB n := by unfold pkt; rw [if_pos hp]
  unfold oneO oneN
  rw [e, hu]
  simp
theorem rd_pk2 {l : Lk} (hl : LkOK l) : rdN (pkt (pk2 l)) = (emptyN, true) ∧ oneN (pkt (pk2 l)) = pk2 l := by
  obtain ⟨a, b⟩ := pk2_pack hl
  obtain ⟨c, d⟩ := one_pkt a b
  refine ⟨?_, d⟩
  unfold rdN
  rw [c, d, if_pos ⟨rfl, rfl⟩, if_pos ⟨rfl, rfl, rfl⟩]
theorem rd_pk1 {l : Lk} (hl : LkOK l) {k : Nat} (hk : k < l.q.length) {m : Note} (hm : l.q.getD k [] = packB m) (hp : packOK m = true) (hs : m.texts.length + lens m.rows ≤ 4096) (hlen : (packB m).length ≤ 65536) : rdN (pkt (pk1 l k)) = (m, true) ∧ oneN (pkt (pk1 l k)) = pk1 l k := by
  obtain ⟨a, b⟩ := pk1_pack hl k hk (by rw [hm]; exact hlen)
  obtain ⟨c, d⟩ := one_pkt a b
  refine ⟨?_, d⟩
  have e : packB m = pkt m := by unfold pkt; rw [if_pos hp]
  obtain ⟨f, g⟩ := one_pkt hp hs
  have ht : (pk1 l k).texts.getD 0 [] = pkt m := by
    show l.q.getD k [] = pkt m
    rw [hm, e]
  have h2 : ¬ ((pk1 l k).kind = 2 ∧ (pk1 l k).nums.length = 3 ∧ (pk1 l k).texts.length = 0) := fun h => by
    have := h.1
    simp [pk1] at this
  unfold rdN
  rw [c, d, if_pos ⟨rfl, rfl⟩, if_neg h2, if_pos ⟨rfl, rfl, rfl⟩, ht, f, g]
/-! What Take does with such packets. -/
/-- A bare packet (of the end x at some time). -/
theorem take_bare {l x : Lk} (hx : LkOK x) (h1 : max l.other 1 ≤ x.epoch) :
    takeP l (pkt (pk2 x)) = (if x.other ≠ l.epoch then (freshP l x.epoch, [], [pkt (pk2 (freshP l x.epoch))], decide (l.other < x.epoch) && decide (0 < l.other)) else (ackP (freshP l x.epoch) x.want, [], [], decide (l.other < x.epoch) && decide (0 < l.other))) := by
  obtain ⟨a, b⟩ := rd_pk2 hx
  unfold takeP
  rw [a, b]
  have n0 : nth (pk2 x) 0 = x.epoch := rfl
  have n1 : nth (pk2 x) 1 = x.other := rfl
  have n2 : nth (pk2 x) ((pk2 x).nums.length - 1) = x.want := rfl
  have hk : ¬ ((pk2 x).kind = 1) := by simp [pk2]
  rw [n0, n1, n2, if_neg (by simp; omega)]
  by_cases h : x.other = l.epoch
  · have h' : ¬ (x.other ≠ l.epoch) := fun g => g h
    simp only [if_neg h', if_neg hk]
  · have h' : x.other ≠ l.epoch := h
    simp only [if_pos h']
/-- A full packet. -/
theorem take_full {l x : Lk} (hx : LkOK x) {k : Nat} (hk : k < x.q.length) {m : Note} (hm : x.q.getD k [] = packB m) (hp : packOK m = true) (hs : m.texts.length + lens m.rows ≤ 4096) (hlen : (packB m).length ≤ 65536) (h1 : max l.other 1 ≤ x.epoch) :
    takeP l (pkt (pk1 x k)) = (if x.other ≠ l.epoch then (freshP l x.epoch, [], [pkt (pk2 (freshP l x.epoch))], decide (l.other < x.epoch) && decide (0 < l.other))
      else if x.first + k = (freshP l x.epoch).want then (nextP (ackP (freshP l x.epoch) x.want), [m], [pkt (pk2 (nextP (ackP (freshP l x.epoch) x.want)))], decide (l.other < x.epoch) && decide (0 < l.other))
      else (ackP (freshP l x.epoch) x.want, [], [pkt (pk2 (ackP (freshP l x.epoch) x.want))], decide (l.other < x.epoch) && decide (0 < l.other))) := by
  obtain ⟨a, b⟩ := rd_pk1 hx hk hm hp hs hlen
  unfold takeP
  rw [a, b]
  have n0 : nth (pk1 x k) 0 = x.epoch := rfl
  have n1 : nth (pk1 x k) 1 = x.other := rfl
  have n2 : nth (pk1 x k) 2 = x.first + k := by
    show ((x.first + k : Nat) : Int).toNat = _
    omega
  have n3 : nth (pk1 x k) ((pk1 x k).nums.length - 1) = x.want := rfl
  have hkd : (pk1 x k).kind = 1 := rfl
  rw [n0, n1, n2, n3, if_neg (by simp; omega)]
  by_cases h : x.other = l.epoch
  · have h' : ¬ (x.other ≠ l.epoch) := fun g => g h
    simp only [if_neg h', if_pos hkd]
  · have h' : x.other ≠ l.epoch := h
    simp only [if_pos h']
/-- A packet of an elder end. -/
theorem take_late {l : Lk} {s : List UInt8} (h : nth (oneN s) 0 < max l.other 1) : takeP l s = (l, [], [], false) := by
  unfold takeP
  rw [if_pos (.inr h)]
end Go.Ab

/- Two ends; sinewlaw15.LinkWindow. -/
namespace Go.Ab
open Go.Proofs Go.RowKit Go.Oct
set_option linter.unusedVariables false
set_option linter.unusedSimpArgs false
set_option maxRecDepth 100000
structure Two (st : St) (ia ta : Nat) (a : Lk) (ib tb : Nat) (b : Lk) : Prop where
  pa : LAt st ia ta a
  pb : LAt st ib tb b
  oa : LkOK a
  ob : LkOK b
  ne : ia ≠ ib
  tk : ta ≤ 2 ∨ ta ≠ tb
theorem Two.swap {st : St} {ia ta ib tb : Nat} {a b : Lk} (h : Two st ia ta a ib tb b) : Two st ib tb b ia ta a :=
  ⟨h.pb, h.pa, h.ob, h.oa, h.ne.symm, by rcases h.tk with g | g <;> omega⟩
theorem LAt.bound {st : St} {id t : Nat} {l : Lk} (h : LAt st id t l) : t < st.nt + 3 := by
  rcases h.own with g | g | ⟨k, g1, g2, _⟩ <;> omega
theorem Two.kp {st st' : St} {ia ta ib tb : Nat} {a b : Lk} (h : Two st ia ta a ib tb b) (hn : st.n ≤ st'.n) (hob : ∀ i, i < st.n → st'.ob i = st.ob i) (htk : st'.tk = st.tk) (hnt : st'.nt = st.nt) : Two st' ia ta a ib tb b := by
  have own : ∀ {u : Nat}, OwnN st 1 u → OwnN st' 1 u := fun {u} ho => by
    rcases ho with g | g | ⟨k, g1, g2, g3⟩
    · exact .inl g
    · exact .inr (.inl g)
    · exact .inr (.inr ⟨k, g1, by rw [hnt]; exact g2, by rw [htk]; exact g3⟩)
  exact ⟨⟨by rw [hob _ h.pa.lt]; exact h.pa.ob, by have := h.pa.lt; omega, own h.pa.own⟩, ⟨by rw [hob _ h.pb.lt]; exact h.pb.ob, by have := h.pb.lt; omega, own h.pb.own⟩, h.oa, h.ob, h.ne, h.tk⟩
theorem Two.take {st : St} {ia ta ib tb : Nat} {a b : Lk} (h : Two st ia ta a ib tb b) (s : List UInt8) (hs : s.length ≤ 9223372036854775807) (hok : LkOK (takeP a s).1) :
    ∃ st' t', s19 [.ptr ia 0, .str s] st = some (.ret (cameV (takeP a s).2.1 (takeP a s).2.2.1 (takeP a s).2.2.2), st') ∧ Two st' ia t' (takeP a s).1 ib tb b ∧ TFr st st' ia ∧ (t' = ta ∨ t' = 1) := by
  obtain ⟨st', t', q1, q2, q3, q4⟩ := take_s h.pa h.oa s hs
  refine ⟨st', t', q1, ⟨q2, ⟨by rw [q3.ob ib h.pb.lt (Ne.symm h.ne)]; exact h.pb.ob, by have := q3.n; have := h.pb.lt; omega, q3.own h.pb.own⟩, hok, h.ob, h.ne, by rcases h.tk with g | g <;> rcases q4 with g' | g' <;> omega⟩, q3, q4⟩
theorem Two.put {st : St} {ia ta ib tb : Nat} {a b : Lk} (h : Two st ia ta a ib tb b) (n : Note) (hn : NoteOK n) (hok : LkOK (putP a n).1) :
    ∃ st' t', s13 [.ptr ia 0, noteV n] st = some (.ret (.tup [.lst (strsV (putP a n).2.1) (tokP (putP a n).2.1), .int .i64 ((putP a n).2.2 : Nat)]), st') ∧ Two st' ia t' (putP a n).1 ib tb b ∧ PFr st st' ia ta t' := by
  obtain ⟨st', t', q1, q2, q3⟩ := lput_s h.pa h.oa n hn
  have hb := h.pb.bound
  refine ⟨st', t', q1, ⟨q2, ⟨by rw [q3.ob ib h.pb.lt (Ne.symm h.ne)]; exact h.pb.ob, by have := q3.n; have := h.pb.lt; omega, q3.own h.pb.own (by rcases h.tk with g | g <;> omega)⟩, hok, h.ob, h.ne, ?_⟩, q3⟩
  rcases q3.tt with g | g | g
  · rw [g]; exact h.tk
  · exact .inl g
  · right; omega
/-- A payload of one number. -/
def payN (k : Int) (i : Nat) : Note := ⟨k, [(i : Int)], [], []⟩
theorem pay_ok (k : Int) (i : Nat) (h1 : 1 ≤ k) (h2 : k ≤ 255) (hi : i ≤ 1000000) : NoteOK (payN k i) ∧ packOK (payN k i) = true ∧ (payN k i).texts.length + lens (payN k i).rows ≤ 4096 ∧ (packB (payN k i)).length ≤ 100 := by
  have ho := odd_nat (k := i) (by omega)
  have hf : fitsW (payN k i) = true := by
    have c1 : ¬ (k < 1) := by omega
    have c2 : ¬ (255 < k) := by omega
    simp [fitsW, payN, greatF, manyF, ho, c1, c2]
  have hb : (bodyB (payN k i)).length ≤ 64 := by
    have a1 := putN_len9 k.toNat
    have a2 := putN_len9 (payN k i).nums.length
    have a3 := putN_len9 0
    have a4 := numsB_len (payN k i).nums
    have a5 := listB_len2 (l := []) (by simp)
    have a6 : (payN k i).nums.length = 1 := rfl
    simp only [List.length_nil] at a5
    show (headB (payN k i) ++ rowsB (payN k i).rows).length ≤ 64
    unfold headB
    simp only [show (payN k i).rows = [] from rfl, show (payN k i).texts = [] from rfl, show (payN k i).kind = k from rfl, rowsB, List.flatMap_nil, List.length_append, List.length_nil, List.append_nil]
    omega
  exact ⟨⟨by simp [payN], by simp [payN], by simp [payN], by simp [payN]⟩, by simp [packOK, hf]; omega, by simp [payN, lens], by rw [packB_len]; omega⟩
theorem put_pay {l : Lk} {n : Note} (hp : packOK n = true) (hlen : (packB n).length ≤ 32768) (hq : l.q.length < 4096) : putP l n = (⟨l.epoch, l.other, l.first, l.want, l.q ++ [packB n]⟩, (if 64 < l.q.length + 1 then [] else [pkt (pk1 ⟨l.epoch, l.other, l.first, l.want, l.q ++ [packB n]⟩ l.q.length)]), 0) := by
  unfold putP
  rw [if_neg (by rw [hp]; simp; omega), if_neg (by omega)]
  split <;> rfl
def paysQ (k : Int) (n : Nat) : List (List UInt8) := (List.range n).map fun j => packB (payN k j)
theorem paysQ_len (k : Int) (n : Nat) : (paysQ k n).length = n := by simp [paysQ]
theorem paysQ_snoc (k : Int) (n : Nat) : paysQ k n ++ [packB (payN k n)] = paysQ k (n + 1) := by
  unfold paysQ; rw [List.range_succ, List.map_append]; rfl
theorem paysQ_at (k : Int) (n d j : Nat) (h : d + j < n) : ((paysQ k n).drop d).getD j [] = packB (payN k (d + j)) := by
  unfold paysQ
  rw [List.getD_eq_getElem?_getD, List.getElem?_drop, List.getElem?_map, List.getElem?_range h]; rfl
theorem pkt_len (n : Note) : (pkt n).length ≤ 1048584 := by
  unfold pkt
  split
  · rename_i h; exact packB_le h
  · simp
/-- The payload's note, built. -/
theorem pay_built (i : Nat) (K : V → Res) : (A.bslice 1 (.int .i64 0) 1 [(0, .int .i64 (i : Nat))] fun a2 => A.build [.int .i64 0, .lst [] 1, .lst [] 1, .lst [] 1] [(0, 1, .int .i64 5), (1, 1, a2)] K) = K (.agg (nC 5 [(i : Int)] 2 [] 1 [] 1)) := rfl
theorem pay_er1 (i : Nat) : (V.agg (nC 5 [(i : Int)] 2 [] 1 [] 1)).er1 = noteV (payN 5 i) := rfl
/-- What came, put into a cell. -/
theorem came_box (st : St) (ps : List Note) (ks : List (List UInt8)) (a : Bool) (K : V → St → Res) : (A.box (.agg [.lst [] 1, .lst [] 1, .bool false]) st fun a8 z9 => A.store 3 a8 (cameV ps ks a) z9 fun z10 => K a8 z10) = K (.ptr st.n 0) ((st.new (.cells (cC [] 1 [] 1 false))).put st.n (.cells (cC ps 0 ks 0 a))) := by
  show (A.store 3 (.ptr st.n 0) (cameV ps ks a) (st.new (.cells (cC [] 1 [] 1 false))) fun z10 => K (.ptr st.n 0) z10) = _
  unfold cameV
  rw [store_agg, new_at, obo_some]; simp [cC, Go.Ab.putL]
theorem came_ld {st : St} {c : Nat} {ps : List Note} {ks : List (List UInt8)} {a : Bool} (h : st.ob c = some (.cells (cC ps 0 ks 0 a))) : (∀ K, A.load false 1 (.ptr c 0) st K = K (.lst (notesV ps) 0) st) ∧ (∀ K, A.load false 1 (.ptr c 1) st K = K (.lst (strsV ks) 0) st) ∧ (∀ K, A.load false 1 (.ptr c 2) st K = K (.bool a) st) := by
  refine ⟨fun K => ?_, fun K => ?_, fun K => ?_⟩ <;> simp [h, cC]
/-- The ends of a window, behind so many. -/
def wA (n at_ : Nat) : Lk := ⟨1, 1, 1 + at_, 1, (paysQ 5 n).drop at_⟩
def wB (at_ : Nat) : Lk := ⟨1, 1, 1, 1 + at_, []⟩
theorem wA_ok (n at_ : Nat) (hn : n ≤ 1000) (h : at_ ≤ n) : LkOK (wA n at_) := ⟨by simp [wA], by simp [wA], by simp [wA], by simp [wA]; omega, by simp [wA], by simp [wA, paysQ_len]; omega⟩
theorem wB_ok (at_ : Nat) (h : at_ ≤ 1000) : LkOK (wB at_) := ⟨by simp [wB], by simp [wB], by simp [wB], by simp [wB], by simp [wB]; omega, by simp [wB]⟩
theorem win_take (n at0 j : Nat) (hn : n ≤ 1000) (h : at0 + j < n) : takeP (wB (at0 + j)) (pkt (pk1 (wA n at0) j)) = (wB (at0 + j + 1), [payN 5 (at0 + j)], [pkt (pk2 (wB (at0 + j + 1)))], false) := by
  obtain ⟨a, b, c, d⟩ := pay_ok 5 (at0 + j) (by omega) (by omega) (by omega)
  have hl := paysQ_len 5 n
  have := take_full (l := wB (at0 + j)) (wA_ok n at0 hn (by omega)) (k := j) (by simp [wA, hl]; omega) (paysQ_at 5 n at0 j h) b c (by omega) (by simp [wA, wB])
  rw [this]
  have f : freshP (wB (at0 + j)) (wA n at0).epoch = wB (at0 + j) := by unfold freshP; rw [if_neg (by simp [wA, wB])]
  have g : ackP (wB (at0 + j)) (wA n at0).want = wB (at0 + j) := by unfold ackP; simp [wB]
  rw [if_neg (by simp [wA, wB]), f, g, if_pos (by simp [wA, wB]; omega)]
  have e : nextP (wB (at0 + j)) = wB (at0 + j + 1) := by simp [nextP, wB]; omega
  rw [e]
  simp [wA, wB]
theorem win_ack (n at_ : Nat) (hn : n ≤ 1000) (h : at_ < n) : takeP (wA n at_) (pkt (pk2 (wB (at_ + 1)))) = (wA n (at_ + 1), [], [], false) := by
  have hl := paysQ_len 5 n
  have := take_bare (l := wA n at_) (wB_ok (at_ + 1) (by omega)) (by simp [wA, wB])
  rw [this]
  have f : freshP (wA n at_) (wB (at_ + 1)).epoch = wA n at_ := by unfold freshP; rw [if_neg (by simp [wA, wB])]
  have g : ackP (wA n at_) (wB (at_ + 1)).want = wA n (at_ + 1) := by
    have e : min ((wB (at_ + 1)).want - (wA n at_).first) (wA n at_).q.length = 1 := by simp [wA, wB, hl]; omega
    unfold ackP
    rw [e]
    simp only [wA, List.drop_drop, Lk.mk.injEq, true_and]
    exact ⟨by omega, trivial⟩
  rw [if_neg (by simp [wA, wB]), f, g]
  simp [wA, wB]
theorem win_inner (n : Nat) (hn : n ≤ 199) (at0 : Nat) (h0 : at0 ≤ n) (m : Nat) (hm : m = min (n - at0) 64) (L : V → V → V → V → V → St → Res) (r : V) (ia ib : Nat) : ∀ (f j : Nat) (ta tb : Nat) (st : St), j ≤ m → m < f + j → Two st ia ta (wA n (at0 + j)) ib tb (wB (at0 + j)) →
    ∃ st' ta' tb', g8bzmfym L f (.ptr ia 0) (.ptr ib 0) (.int .i64 (n : Nat)) (.int .i64 (at0 + j : Nat)) r (.lst (strsV (tickP (wA n at0))) 0) (.int .i64 (j : Nat)) st = (A.bin .add r (.int .i64 1) fun a11 => L (.ptr ia 0) (.ptr ib 0) (.int .i64 (n : Nat)) (.int .i64 (at0 + m : Nat)) a11 st') ∧ Two st' ia ta' (wA n (at0 + m)) ib tb' (wB (at0 + m)) := by
  have hl := paysQ_len 5 n
  have htl : (tickP (wA n at0)).length = m := by
    unfold tickP
    rw [List.length_map, List.length_range]
    simp only [wA, List.length_drop, hl]; omega
  intro f
  induction f with
  | zero => intro j ta tb st hj hf; omega
  | succ f ih =>
    intro j ta tb st hj hf h
    unfold g8bzmfym
    by_cases hlt : j < m
    · have hjl : j < (tickP (wA n at0)).length := by omega
      have hget : (tickP (wA n at0))[j] = pkt (pk1 (wA n at0) j) := by simp [tickP]
      have e4 : ∀ K, A.bin .add (.int .i64 (j : Nat)) (.int .i64 1) K = K (.int .i64 ((j + 1 : Nat) : Int)) := fun K => bin_inc (by omega) K
      have e5 : ∀ K, A.bin .add (.int .i64 (at0 + j : Nat)) (.int .i64 1) K = K (.int .i64 ((at0 + (j + 1) : Nat) : Int)) := fun K => by rw [bin_inc (by omega)]; rfl
      have hw := win_take n at0 j (by omega) (by omega)
      obtain ⟨st1, tb1, q1, q2, q3, _⟩ := h.swap.take (pkt (pk1 (wA n at0) j)) (by have := pkt_len (pk1 (wA n at0) j); omega) (by rw [hw]; exact wB_ok _ (by omega))
      rw [hw] at q1 q2
      simp only [lenL_lst, strsV_len, htl, bin_lss, show ((j : Int) < (m : Int)) from by omega, decide_true, cond_true, iaddr_strs 0 hjl, hget, load_l1', er1_ptr, er1_str, q1, ret_ret, came_box]
      have kk : Two ((st1.new (.cells (cC [] 1 [] 1 false))).put st1.n (.cells (cC [payN 5 (at0 + j)] 0 [pkt (pk2 (wB (at0 + j + 1)))] 0 false))) ib tb1 (wB (at0 + j + 1)) ia ta (wA n (at0 + j)) :=
        q2.kp (by simp) (fun i hi => by rw [put_ne _ _ (by omega), new_ne _ _ (by omega)]) rfl rfl
      have oc := put_at (st1.new (.cells (cC [] 1 [] 1 false))) st1.n (.cells (cC [payN 5 (at0 + j)] 0 [pkt (pk2 (wB (at0 + j + 1)))] 0 false))
      generalize (st1.new (.cells (cC [] 1 [] 1 false))).put st1.n (.cells (cC [payN 5 (at0 + j)] 0 [pkt (pk2 (wB (at0 + j + 1)))] 0 false)) = st2 at kk oc
      generalize st1.n = c at oc
      obtain ⟨c0, c1, c2⟩ := came_ld oc
      have ia0 : ∀ K, A.iaddr 4 (.lst (notesV [payN 5 (at0 + j)]) 0) (.int .i64 0) K = K (.lptr (noteC (payN 5 (at0 + j)))) := fun K => iaddr_notes (l := [payN 5 (at0 + j)]) (i := 0) 0 (by simp) K
      have lp : ∀ K, (A.faddr 1 (.lptr (noteC (payN 5 (at0 + j)))) fun a10 => A.load false 1 a10 st2 K) = K (.lst (intsV [((at0 + j : Nat) : Int)]) 0) st2 := fun K => rfl
      have i0 : ∀ K, A.iaddr 1 (.lst (intsV [((at0 + j : Nat) : Int)]) 0) (.int .i64 0) K = K (.lptr [.int .i64 ((at0 + j : Nat) : Int)]) := fun K => rfl
      have s0 : ∀ K, A.iaddr 1 (.lst (strsV [pkt (pk2 (wB (at0 + j + 1)))]) 0) (.int .i64 0) K = K (.lptr [.str (pkt (pk2 (wB (at0 + j + 1))))]) := fun K => rfl
      have nl : (notesV [payN 5 (at0 + j)]).length = 1 := rfl
      unfold g8bzjy6rt
      simp only [faddr_ptr, Nat.zero_add, c0, lenL_lst, nl, eql_int, if_true, show (((1 : Nat) : Int) != 1) = false from rfl, guard_ff, ia0, lp, i0, load_l1', bne_self_eq_false]
      unfold g8bz27sr38_16
      have ha := win_ack n (at0 + j) (by omega) (by omega)
      obtain ⟨st3, ta3, r1, r2, r3, _⟩ := kk.swap.take (pkt (pk2 (wB (at0 + j + 1)))) (by have := pkt_len (pk2 (wB (at0 + j + 1))); omega) (by rw [ha]; exact wA_ok _ _ (by omega) (by omega))
      rw [ha] at r1 r2
      have sl1 : (strsV [pkt (pk2 (wB (at0 + j + 1)))]).length = 1 := rfl
      simp only [guard_ff, faddr_ptr, Nat.zero_add, c1, lenL_lst, sl1, eql_int, if_true, show (((1 : Nat) : Int) != 1) = false from rfl, bne_self_eq_false, cond_false, e5, s0, load_l1', er1_ptr, er1_str, r1, ret_ret, e4]
      exact ih (j + 1) ta3 tb1 st3 (by omega) (by omega) r2
    · have : j = m := by omega
      subst this
      simp only [lenL_lst, strsV_len, htl, bin_lss, Int.lt_irrefl, decide_false, cond_false]
      exact ⟨st, ta, tb, rfl, h⟩
theorem win_rounds (n : Nat) (hn : n ≤ 199) (ia ib : Nat) : ∀ (f r at_ ta tb : Nat) (st : St), r ≤ 8 → 8 < f + r → at_ ≤ n → (64 * r ≤ at_ ∨ at_ = n) → Two st ia ta (wA n at_) ib tb (wB at_) →
    ∃ st', g8bz35m f (.ptr ia 0) (.ptr ib 0) (.int .i64 (n : Nat)) (.int .i64 (at_ : Nat)) (.int .i64 (r : Nat)) st = some (.ret (.bool true), st') := by
  have hl := paysQ_len 5 n
  intro f
  induction f with
  | zero => intro r at_ ta tb st hr hf; omega
  | succ f ih =>
    intro r at_ ta tb st hr hf ha hor h
    unfold g8bz35m
    have hq : (wA n at_).q.length = n - at_ := by simp [wA, hl]
    have e1 := (wA_ok n at_ (by omega) ha).e1
    by_cases hlt : r < 8
    · have htl : (tickP (wA n at_)).length = min (n - at_) 64 := by
        unfold tickP; rw [List.length_map, List.length_range, hq]
      have em : ∀ K, A.min (.int .i64 64) (.int .i64 (n - at_ : Nat)) K = K (.int .i64 ((min (n - at_) 64 : Nat) : Int)) := fun K => by
        show K (.int .i64 (if ((n - at_ : Nat) : Int) < 64 then ((n - at_ : Nat) : Int) else 64)) = _
        congr 2
        split <;> omega
      have es : ∀ K, A.bin .sub (.int .i64 (n : Nat)) (.int .i64 (at_ : Nat)) K = K (.int .i64 ((n - at_ : Nat) : Int)) := fun K => bin_subN n at_ K ha (by omega)
      have e4 : ∀ K, A.bin .add (.int .i64 (r : Nat)) (.int .i64 1) K = K (.int .i64 ((r + 1 : Nat) : Int)) := fun K => bin_inc (by omega) K
      simp only [bin_lss, show ((r : Int) < 8) from by omega, decide_true, cond_true, er1_ptr, ltick_s h.pa h.oa, ret_ret, lenL_lst, strsV_len, htl, lwaits_s h.pa e1, hq, em, eql_int, if_true, bne_self_eq_false, guard_ff, es, cond_false]
      unfold g8bz5lzn
      obtain ⟨st', ta', tb', q1, q2⟩ := win_inner n hn at_ ha (min (n - at_) 64) rfl (g8bz35m f) (.int .i64 (r : Nat)) ia ib big 0 ta tb st (by omega) (lt_big (by omega)) h
      rw [Nat.add_zero, show ((0 : Nat) : Int) = 0 from rfl] at q1
      rw [q1, e4]
      exact ih (r + 1) _ ta' tb' st' (by omega) (by omega) (by omega) (by omega) q2
    · have hat : at_ = n := by omega
      subst hat
      have hq0 : (wA at_ at_).q.length = 0 := by rw [hq]; omega
      simp only [bin_lss, show ¬ ((r : Int) < 8) from by omega, decide_false, cond_false, eql_int, Bool.false_eq_true, if_false, beq_self_eq_true, guard_tt, er1_ptr, lwaits_s h.pa e1, hq0, ret_ret, Int.natCast_zero, s11_val, er1_bool]
      exact ⟨_, rfl⟩
end Go.Ab

/- Two ends and what is under way. -/
namespace Go.Ab
open Go.Proofs Go.RowKit Go.Oct
set_option linter.unusedVariables false
set_option linter.unusedSimpArgs false
set_option maxRecDepth 100000
theorem take_out (l : Lk) (s : List UInt8) : (takeP l s).2.1.length ≤ 1 ∧ (takeP l s).2.2.1.length ≤ 1 ∧ ∀ x ∈ (takeP l s).2.2.1, x.length ≤ 1048584 := by
  have hp : ∀ n x, x ∈ [pkt n] → x.length ≤ 1048584 := fun n x hx => by rw [List.mem_singleton.1 hx]; exact pkt_len n
  unfold takeP
  split
  · simp
  · split
    · exact ⟨by simp, by simp, hp _⟩
    · split
      · split
        · exact ⟨by simp, by simp, hp _⟩
        · exact ⟨by simp, by simp, hp _⟩
      · simp
def upd {α : Type} (f : Nat → α) (k : Nat) (v : α) : Nat → α := fun i => if i = k then v else f i
theorem upd_at {α : Type} (f : Nat → α) (k : Nat) (v : α) : upd f k v k = v := by simp [upd]
theorem upd_ne {α : Type} (f : Nat → α) {k i : Nat} (v : α) (h : i ≠ k) : upd f k v i = f i := by simp [upd, h]
structure Ln where
  E : Nat → Lk
  U : Nat → List (List UInt8)
  P : Nat → Nat
  C : Nat → Nat
def sendsP (x : Ln) (to : Nat) (l : List (List UInt8)) : Ln := if (x.U to).length < 300 then { x with U := upd x.U to (x.U to ++ l) } else x
def putsP (x : Ln) (k : Nat) : Ln := sendsP { x with E := upd x.E k (putP (x.E k) (payN 5 (x.P k))).1, P := upd x.P k (x.P k + 1) } (1 - k) (putP (x.E k) (payN 5 (x.P k))).2.1
def tookP (x : Ln) (k : Nat) (s : List UInt8) : Ln := { x with E := upd x.E k (takeP (x.E k) s).1, C := upd x.C k (x.C k + (takeP (x.E k) s).2.1.length) }
def takesP (x : Ln) (k : Nat) (s : List UInt8) : Ln := sendsP (tookP x k s) (1 - k) (takeP (x.E k) s).2.2.1
def lessP (x : Ln) (k i : Nat) : Ln := { x with U := upd x.U k ((x.U k).take i ++ (x.U k).drop (i + 1)) }
def comesP (x : Ln) (k : Nat) (at_ : Nat) (twice : Bool) : Ln :=
  if (x.U k).length = 0 then x
  else takesP (if twice then x else lessP x k (at_ % (x.U k).length)) k ((x.U k).getD (at_ % (x.U k).length) [])
def ticksP (x : Ln) (k : Nat) : Ln := sendsP x (1 - k) (tickP (x.E k))
def doesP (x : Ln) (n : Nat) : Ln :=
  if n / 2 % 4 = 0 then putsP x (n % 2)
  else if n / 2 % 4 = 1 then comesP x (n % 2) (n / 16 % 65536) false
  else if n / 2 % 4 = 2 then comesP x (n % 2) (n / 16 % 65536) true
  else if n / 8 % 2 = 1 ∧ 0 < (x.U (n % 2)).length then { x with U := upd x.U (n % 2) ((x.U (n % 2)).drop 1) }
  else ticksP x (n % 2)
/-! What holds at every time. -/
structure Bare (ep : Nat → Nat) (k : Nat) (x : Ln) (o : Lk) : Prop where
  e : o.epoch = ep (1 - k)
  oo : o.other = 0 ∨ o.other = ep k
  w1 : 1 ≤ o.want
  w : o.want ≤ x.C (1 - k) + 1
  ok : LkOK o
structure Full (ep : Nat → Nat) (k : Nat) (x : Ln) (o : Lk) (j m : Nat) : Prop where
  b : Bare ep k x o
  jl : j < o.q.length
  q : o.q.getD j [] = packB (payN 5 m)
  f : o.first + j = m + 1
  p : m < x.P (1 - k)
def Old (ep : Nat → Nat) (k : Nat) (x : Ln) (s : List UInt8) : Prop := (∃ o, Bare ep k x o ∧ s = pkt (pk2 o)) ∨ ∃ o j m, Full ep k x o j m ∧ s = pkt (pk1 o j)
structure Good (ep : Nat → Nat) (x : Ln) : Prop where
  ep1 : ∀ k, 1 ≤ ep k
  ep2 : ∀ k, ep k ≤ 16
  e : ∀ k, k < 2 → (x.E k).epoch = ep k
  o : ∀ k, k < 2 → ((x.E k).other = 0 ∧ x.C k = 0) ∨ (x.E k).other = ep (1 - k)
  w : ∀ k, k < 2 → (x.E k).want = x.C k + 1
  f1 : ∀ k, k < 2 → 1 ≤ (x.E k).first
  f2 : ∀ k, k < 2 → (x.E k).first ≤ x.C (1 - k) + 1
  q : ∀ k, k < 2 → (x.E k).q = (paysQ 5 (x.P k)).drop ((x.E k).first - 1)
  c : ∀ k, k < 2 → x.C k ≤ x.P (1 - k)
  p : ∀ k, k < 2 → x.P k ≤ 1000
  u : ∀ k, k < 2 → ∀ s ∈ x.U k, Old ep k x s
theorem two_sub {k : Nat} (h : k < 2) : 1 - (1 - k) = k ∧ 1 - k < 2 := by omega
theorem Good.qlen {ep : Nat → Nat} {x : Ln} (h : Good ep x) {k : Nat} (hk : k < 2) : (x.E k).q.length + (x.E k).first = x.P k + 1 := by
  have h1 := h.f1 k hk
  have h2 := h.f2 k hk
  have h3 := h.c (1 - k) (two_sub hk).2
  rw [(two_sub hk).1] at h3
  have := paysQ_len 5 (x.P k)
  rw [h.q k hk, List.length_drop, this]
  omega
theorem Good.ok {ep : Nat → Nat} {x : Ln} (h : Good ep x) {k : Nat} (hk : k < 2) : LkOK (x.E k) := by
  have h1 := h.qlen hk
  have h2 := h.p k hk
  have h3 := h.p (1 - k) (two_sub hk).2
  have h4 := h.w k hk
  have h5 := h.c k hk
  have h6 := h.ep1 k
  have h7 := h.ep2 k
  have h8 := h.ep2 (1 - k)
  have h9 := h.f1 k hk
  have ho := h.o k hk
  refine ⟨by rw [h.e k hk]; exact h6, by rw [h.e k hk]; omega, ?_, by omega, by omega, by omega⟩
  rcases ho with g | g
  · rw [g.1]; omega
  · rw [g]; omega
theorem Bare.mono {ep : Nat → Nat} {k : Nat} {x y : Ln} {o : Lk} (h : Bare ep k x o) (hc : x.C (1 - k) ≤ y.C (1 - k)) : Bare ep k y o := ⟨h.e, h.oo, h.w1, by have := h.w; omega, h.ok⟩
theorem Full.mono {ep : Nat → Nat} {k : Nat} {x y : Ln} {o : Lk} {j m : Nat} (h : Full ep k x o j m) (hc : x.C (1 - k) ≤ y.C (1 - k)) (hp : x.P (1 - k) ≤ y.P (1 - k)) : Full ep k y o j m := ⟨h.b.mono hc, h.jl, h.q, h.f, by have := h.p; omega⟩
theorem Old.mono {ep : Nat → Nat} {k : Nat} {x y : Ln} {s : List UInt8} (h : Old ep k x s) (hc : x.C (1 - k) ≤ y.C (1 - k)) (hp : x.P (1 - k) ≤ y.P (1 - k)) : Old ep k y s := by
  rcases h with ⟨o, h, e⟩ | ⟨o, j, m, h, e⟩
  · exact .inl ⟨o, h.mono hc, e⟩
  · exact .inr ⟨o, j, m, h.mono hc hp, e⟩
/-- What an end tells now. -/
theorem Good.bare {ep : Nat → Nat} {x : Ln} (h : Good ep x) {k : Nat} (hk : k < 2) : Bare ep (1 - k) x (x.E k) := by
  obtain ⟨a, b⟩ := two_sub hk
  refine ⟨by rw [a]; exact h.e k hk, ?_, by rw [h.w k hk]; omega, by rw [a, h.w k hk]; omega, h.ok hk⟩
  rcases h.o k hk with g | g
  · exact .inl g.1
  · exact .inr g
theorem Good.full {ep : Nat → Nat} {x : Ln} (h : Good ep x) {k : Nat} (hk : k < 2) {j : Nat} (hj : j < (x.E k).q.length) : Full ep (1 - k) x (x.E k) j ((x.E k).first - 1 + j) := by
  obtain ⟨a, b⟩ := two_sub hk
  have h1 := h.qlen hk
  have h2 := h.f1 k hk
  refine ⟨h.bare hk, hj, ?_, by omega, by rw [a]; omega⟩
  rw [h.q k hk]
  exact paysQ_at 5 (x.P k) _ j (by omega)
theorem Good.tick {ep : Nat → Nat} {x : Ln} (h : Good ep x) {k : Nat} (hk : k < 2) : ∀ s ∈ tickP (x.E k), Old ep (1 - k) x s := by
  intro s hs
  unfold tickP at hs
  obtain ⟨j, hj, rfl⟩ := List.mem_map.1 hs
  have hj := List.mem_range.1 hj
  exact .inr ⟨_, _, _, h.full hk (by omega), rfl⟩
theorem Good.sends {ep : Nat → Nat} {x : Ln} (h : Good ep x) {to : Nat} (l : List (List UInt8)) (hl : ∀ s ∈ l, Old ep to x s) : Good ep (sendsP x to l) := by
  unfold sendsP
  split
  · refine ⟨h.ep1, h.ep2, h.e, h.o, h.w, h.f1, h.f2, h.q, h.c, h.p, fun k hk s hs => ?_⟩
    refine Old.mono (x := x) ?_ (Nat.le_refl _) (Nat.le_refl _)
    by_cases e : k = to
    · subst e
      simp only [upd_at] at hs
      rcases List.mem_append.1 hs with g | g
      · exact h.u k hk s g
      · exact hl s g
    · simp only [upd_ne _ _ e] at hs
      exact h.u k hk s hs
  · exact h
theorem Good.less {ep : Nat → Nat} {x : Ln} (h : Good ep x) {k : Nat} (l : List (List UInt8)) (hl : ∀ s ∈ l, s ∈ x.U k) : Good ep { x with U := upd x.U k l } := by
  refine ⟨h.ep1, h.ep2, h.e, h.o, h.w, h.f1, h.f2, h.q, h.c, h.p, fun k' hk s hs => ?_⟩
  refine Old.mono (x := x) ?_ (Nat.le_refl _) (Nat.le_refl _)
  by_cases e : k' = k
  · subst e
    simp only [upd_at] at hs
    exact h.u k' hk s (hl s hs)
  · simp only [upd_ne _ _ e] at hs
    exact h.u k' hk s hs
/-- An end, changed. -/
theorem Good.other {ep : Nat → Nat} {x : Ln} (h : Good ep x) {k : Nat} (hk : k < 2) (l : Lk) (c p : Nat) (he : l.epoch = ep k) (ho : (l.other = 0 ∧ c = 0) ∨ l.other = ep (1 - k)) (hw : l.want = c + 1) (hf1 : 1 ≤ l.first) (hf2 : l.first ≤ x.C (1 - k) + 1) (hq : l.q = (paysQ 5 p).drop (l.first - 1)) (hc1 : x.C k ≤ c) (hc2 : c ≤ x.P (1 - k)) (hp1 : x.P k ≤ p) (hp2 : p ≤ 1000) :
    Good ep { x with E := upd x.E k l, C := upd x.C k c, P := upd x.P k p } := by
  have hne : 1 - k ≠ k := by omega
  have cm : ∀ i, x.C i ≤ upd x.C k c i := fun i => by
    by_cases e : i = k
    · subst e; rw [upd_at]; exact hc1
    · rw [upd_ne _ _ e]; omega
  have pm : ∀ i, x.P i ≤ upd x.P k p i := fun i => by
    by_cases e : i = k
    · subst e; rw [upd_at]; exact hp1
    · rw [upd_ne _ _ e]; omega
  refine ⟨h.ep1, h.ep2, fun i hi => ?_, fun i hi => ?_, fun i hi => ?_, fun i hi => ?_, fun i hi => ?_, fun i hi => ?_, fun i hi => ?_, fun i hi => ?_, fun i hi s hs => (h.u i hi s hs).mono (cm _) (pm _)⟩
  all_goals dsimp only
  all_goals by_cases e : i = k
  all_goals first | (subst e; simp only [upd_at, upd_ne _ _ hne]) | simp only [upd_ne _ _ e]
  · exact he
  · exact h.e i hi
  · exact ho
  · exact h.o i hi
  · exact hw
  · exact h.w i hi
  · exact hf1
  · exact h.f1 i hi
  · exact hf2
  · exact Nat.le_trans (h.f2 i hi) (by have := cm (1 - i); omega)
  · exact hq
  · exact h.q i hi
  · exact hc2
  · exact Nat.le_trans (h.c i hi) (pm _)
  · exact hp2
  · exact h.p i hi
theorem upd_self {α : Type} (f : Nat → α) (k : Nat) : upd f k (f k) = f := by
  funext i; unfold upd; split
  · rename_i h; rw [h]
  · rfl
/-- What a packet under way does. -/
theorem Good.took {ep : Nat → Nat} {x : Ln} (h : Good ep x) {k : Nat} (hk : k < 2) {s : List UInt8} (hs : Old ep k x s) :
    ∃ l' ps ks, takeP (x.E k) s = (l', ps, ks, false) ∧ (ps = [] ∨ ps = [payN 5 (x.C k)]) ∧ (ks = [] ∨ ks = [pkt (pk2 l')]) ∧ Good ep (tookP x k s) := by
  have he := h.e k hk
  have ho := h.o k hk
  have hw := h.w k hk
  have hf1 := h.f1 k hk
  have hf2 := h.f2 k hk
  have hq := h.q k hk
  have hql := h.qlen hk
  have hc := h.c k hk
  have hp := h.p k hk
  have e1 := h.ep1 k
  have e1' := h.ep1 (1 - k)
  -- the end, once it knows
  have fresh : freshP (x.E k) (ep (1 - k)) = ⟨ep k, ep (1 - k), (x.E k).first, x.C k + 1, (x.E k).q⟩ := by
    unfold freshP
    rcases ho with ⟨a, b⟩ | a
    · rw [if_pos (by omega), if_neg (by omega), he, b]
    · rw [if_neg (by omega)]
      generalize x.E k = l at *
      obtain ⟨l1, l2, l3, l4, l5⟩ := l
      simp only at *
      subst he a hw; rfl
  have anew : (decide ((x.E k).other < ep (1 - k)) && decide (0 < (x.E k).other)) = false := by
    rcases ho with ⟨a, _⟩ | a
    · rw [a]; simp
    · rw [a]; simp
  have mx : max (x.E k).other 1 ≤ ep (1 - k) := by rcases ho with ⟨a, _⟩ | a <;> omega
  -- behind an acknowledgement
  have ack : ∀ w, w ≤ x.C (1 - k) + 1 → ∃ f, ackP (freshP (x.E k) (ep (1 - k))) w = ⟨ep k, ep (1 - k), f, x.C k + 1, (paysQ 5 (x.P k)).drop (f - 1)⟩ ∧ 1 ≤ f ∧ f ≤ x.C (1 - k) + 1 := by
    intro w hw'
    refine ⟨(x.E k).first + min (w - (x.E k).first) (x.E k).q.length, ?_, by omega, by omega⟩
    rw [fresh]
    unfold ackP
    simp only [Lk.mk.injEq, true_and]
    rw [hq, List.drop_drop, ← hq]
    congr 1
    omega
  -- what is so, is good
  have mk : ∀ (l' : Lk) (ps : List Note) (ks : List (List UInt8)) (f c : Nat), takeP (x.E k) s = (l', ps, ks, false) → l' = ⟨ep k, ep (1 - k), f, c + 1, (paysQ 5 (x.P k)).drop (f - 1)⟩ → 1 ≤ f → f ≤ x.C (1 - k) + 1 → c = x.C k + ps.length → c ≤ x.P (1 - k) → Good ep (tookP x k s) := by
    intro l' ps ks f c ht hl' a1 a2 a3 a4
    have := h.other hk l' c (x.P k) (by rw [hl']) (.inr (by rw [hl'])) (by rw [hl']) (by rw [hl']; exact a1) (by rw [hl']; exact a2) (by rw [hl']) (by omega) a4 (Nat.le_refl _) hp
    rw [upd_self] at this
    unfold tookP
    rw [ht]
    simp only
    rw [← a3]
    exact this
  have fr : ∃ f, freshP (x.E k) (ep (1 - k)) = ⟨ep k, ep (1 - k), f, x.C k + 1, (paysQ 5 (x.P k)).drop (f - 1)⟩ ∧ 1 ≤ f ∧ f ≤ x.C (1 - k) + 1 := ⟨(x.E k).first, by rw [fresh, ← hq], hf1, hf2⟩
  rcases hs with ⟨o, hb, rfl⟩ | ⟨o, j, m, hfu, rfl⟩
  · have ht := take_bare (l := x.E k) hb.ok (by rw [hb.e]; exact mx)
    rw [hb.e, he] at ht
    rw [anew] at ht
    by_cases hoo : o.other = ep k
    · rw [if_neg (by rw [hoo]; simp)] at ht
      obtain ⟨f, a1, a2, a3⟩ := ack o.want hb.w
      exact ⟨_, _, _, ht, .inl rfl, .inl rfl, mk _ _ _ f (x.C k) ht a1 a2 a3 rfl hc⟩
    · rw [if_pos hoo] at ht
      obtain ⟨f, a1, a2, a3⟩ := fr
      exact ⟨_, _, _, ht, .inl rfl, .inr rfl, mk _ _ _ f (x.C k) ht a1 a2 a3 rfl hc⟩
  · have hb := hfu.b
    have hpm : m ≤ 1000 := by have := hfu.p; have := h.p (1 - k) (two_sub hk).2; omega
    obtain ⟨p1, p2, p3, p4⟩ := pay_ok 5 m (by omega) (by omega) (by omega)
    have ht := take_full (l := x.E k) hb.ok hfu.jl hfu.q p2 p3 (by omega) (by rw [hb.e]; exact mx)
    rw [hb.e, he] at ht
    rw [anew] at ht
    by_cases hoo : o.other = ep k
    · rw [if_neg (by rw [hoo]; simp)] at ht
      obtain ⟨f, a1, a2, a3⟩ := ack o.want hb.w
      by_cases hsq : o.first + j = (freshP (x.E k) (ep (1 - k))).want
      · rw [if_pos hsq] at ht
        rw [fresh] at hsq
        have hmc : m = x.C k := by have := hfu.f; simp only at hsq; omega
        refine ⟨_, _, _, ht, .inr (by rw [hmc]), .inr rfl, mk _ _ _ f (x.C k + 1) ht (by rw [a1]; rfl) a2 a3 rfl ?_⟩
        have := hfu.p; omega
      · rw [if_neg hsq] at ht
        exact ⟨_, _, _, ht, .inl rfl, .inr rfl, mk _ _ _ f (x.C k) ht a1 a2 a3 rfl hc⟩
    · rw [if_pos hoo] at ht
      obtain ⟨f, a1, a2, a3⟩ := fr
      exact ⟨_, _, _, ht, .inl rfl, .inr rfl, mk _ _ _ f (x.C k) ht a1 a2 a3 rfl hc⟩
theorem Good.takes {ep : Nat → Nat} {x : Ln} (h : Good ep x) {k : Nat} (hk : k < 2) {s : List UInt8} (hs : Old ep k x s) : Good ep (takesP x k s) := by
  obtain ⟨l', ps, ks, a, b, c, d⟩ := h.took hk hs
  unfold takesP
  refine d.sends _ ?_
  rw [a]
  intro z hz
  rcases c with rfl | rfl
  · cases hz
  · rw [List.mem_singleton.1 hz]
    refine .inl ⟨_, ?_, rfl⟩
    have := d.bare hk
    have e : (tookP x k s).E k = l' := by unfold tookP; rw [a]; exact upd_at _ _ _
    rw [e] at this
    exact this
theorem Good.comes {ep : Nat → Nat} {x : Ln} (h : Good ep x) {k : Nat} (hk : k < 2) (at_ : Nat) (tw : Bool) : Good ep (comesP x k at_ tw) := by
  unfold comesP
  split
  · exact h
  · rename_i h0
    have hlt := Nat.mod_lt at_ (show 0 < (x.U k).length by omega)
    have hget : (x.U k).getD (at_ % (x.U k).length) [] = (x.U k)[at_ % (x.U k).length] := by rw [List.getD_eq_getElem?_getD, List.getElem?_eq_getElem hlt]; rfl
    have hold := h.u k hk _ (List.getElem_mem hlt)
    rw [hget]
    cases tw with
    | true => exact h.takes hk hold
    | false =>
      have g : Good ep (lessP x k (at_ % (x.U k).length)) := h.less _ (fun s hs => by
        rcases List.mem_append.1 hs with g | g
        · exact List.mem_of_mem_take g
        · exact List.mem_of_mem_drop g)
      exact g.takes hk (hold.mono (Nat.le_refl _) (Nat.le_refl _))
/-- One more is put. -/
theorem Good.puts {ep : Nat → Nat} {x : Ln} (h : Good ep x) {k : Nat} (hk : k < 2) (hp : x.P k < 1000) : putP (x.E k) (payN 5 (x.P k)) = (⟨(x.E k).epoch, (x.E k).other, (x.E k).first, (x.E k).want, (x.E k).q ++ [packB (payN 5 (x.P k))]⟩, (putP (x.E k) (payN 5 (x.P k))).2.1, 0) ∧ LkOK (putP (x.E k) (payN 5 (x.P k))).1 ∧ Good ep (putsP x k) := by
  have hql := h.qlen hk
  have hf1 := h.f1 k hk
  obtain ⟨p1, p2, p3, p4⟩ := pay_ok 5 (x.P k) (by omega) (by omega) (by omega)
  have hP := put_pay (l := x.E k) p2 (by omega) (by omega)
  have hq : (x.E k).q ++ [packB (payN 5 (x.P k))] = (paysQ 5 (x.P k + 1)).drop ((x.E k).first - 1) := by
    have := paysQ_len 5 (x.P k)
    have hq := h.q k hk
    rw [← paysQ_snoc, List.drop_append_of_le_length (by omega), ← hq]
  have g := h.other hk ⟨(x.E k).epoch, (x.E k).other, (x.E k).first, (x.E k).want, (x.E k).q ++ [packB (payN 5 (x.P k))]⟩ (x.C k) (x.P k + 1) (h.e k hk) (h.o k hk) (h.w k hk) hf1 (h.f2 k hk) hq (Nat.le_refl _) (h.c k hk) (by omega) (by omega)
  rw [upd_self] at g
  have e : upd x.E k (⟨(x.E k).epoch, (x.E k).other, (x.E k).first, (x.E k).want, (x.E k).q ++ [packB (payN 5 (x.P k))]⟩ : Lk) k = ⟨(x.E k).epoch, (x.E k).other, (x.E k).first, (x.E k).want, (x.E k).q ++ [packB (payN 5 (x.P k))]⟩ := upd_at _ _ _
  have okk := g.ok hk
  have hfull := g.full hk (j := (x.E k).q.length) (by show _ < (upd x.E k _ k).q.length; rw [e, List.length_append, List.length_singleton]; omega)
  dsimp only at okk hfull
  rw [e] at okk hfull
  refine ⟨by rw [hP], by rw [hP]; exact okk, ?_⟩
  unfold putsP
  rw [hP]
  refine g.sends _ ?_
  intro s hs
  simp only at hs
  split at hs
  · cases hs
  · rw [List.mem_singleton.1 hs]
    exact .inr ⟨_, _, _, hfull, rfl⟩
theorem Good.ticks {ep : Nat → Nat} {x : Ln} (h : Good ep x) {k : Nat} (hk : k < 2) : Good ep (ticksP x k) := h.sends _ (h.tick hk)
end Go.Ab

/- The line: what is kept, sends. -/
namespace Go.Ab
open Go.Proofs Go.RowKit Go.Oct
set_option linter.unusedVariables false
set_option linter.unusedSimpArgs false
set_option maxRecDepth 100000
def natsZ (n : Nat) : List Int := (List.range n).map fun (i : Nat) => (i : Int)
theorem natsZ_len (n : Nat) : (natsZ n).length = n := by simp [natsZ]
theorem natsZ_snoc (n : Nat) : natsZ n ++ [(n : Int)] = natsZ (n + 1) := by simp [natsZ, List.range_succ]
theorem natsZ_at {n i : Nat} (h : i < (natsZ n).length) : (natsZ n)[i] = (i : Int) := by simp [natsZ]
def lnC (x : Ln) (ii ts : Nat → Nat) : List V := [.ptr (ii 0) 0, .ptr (ii 1) 0, .lst (strsV (x.U 0)) (ts 2), .lst (strsV (x.U 1)) (ts 3), .lst (intsV (natsZ (x.P 0))) (ts 4), .lst (intsV (natsZ (x.P 1))) (ts 5), .lst (intsV (natsZ (x.C 0))) (ts 6), .lst (intsV (natsZ (x.C 1))) (ts 7), .bool true]
/-- The objects. -/
structure Obs (st : St) (lid : Nat) (ii ts : Nat → Nat) (x : Ln) : Prop where
  ob : st.ob lid = some (.cells (lnC x ii ts))
  lt : lid < st.n
  e : ∀ k, k < 2 → st.ob (ii k) = some (.cells (lkC (x.E k) (ts k)))
  el : ∀ k, k < 2 → ii k < st.n
  ne : ii 0 ≠ ii 1
  n0 : ∀ k, k < 2 → lid ≠ ii k
/-- The rights. -/
structure Toks (st : St) (ts : Nat → Nat) : Prop where
  own : ∀ i, i < 8 → OwnN st 1 (ts i)
  dis : ∀ i j, i < 8 → j < 8 → i ≠ j → ts i ≤ 2 ∨ ts i ≠ ts j
theorem OwnN.lt {st : St} {t sz : Nat} (h : OwnN st sz t) : t < st.nt + 3 := by
  rcases h with g | g | ⟨k, g1, g2, _⟩ <;> omega
theorem OwnN.tok {st : St} {t sz : Nat} (h : OwnN st sz t) : Tok st sz t := by
  rcases h with g | g | ⟨k, g1, g2, g3⟩
  · exact .inl g
  · exact .inr (.inl g)
  · exact .inr (.inr ⟨k, g1, g3⟩)
theorem OwnN.app {st : St} {t u sz sz' : Nat} (h : OwnN st sz t) (hu : t ≤ 2 ∨ t ≠ u) : OwnN (appSt st u sz') sz t := by
  rcases h with g | g | ⟨k, g1, g2, g3⟩
  · exact .inl g
  · exact .inr (.inl g)
  · refine .inr (.inr ⟨k, g1, by rw [appSt_nt]; omega, ?_⟩)
    rw [appSt_tk _ _ _ _ (by omega) (by omega)]; exact g3
theorem OwnN.fresh (st : St) (u sz : Nat) : OwnN (appSt st u sz) sz (st.nt + 3) := .inr (.inr ⟨st.nt, rfl, by rw [appSt_nt]; omega, appSt_new _ _ _⟩)
/-- A right is used, and is another then. -/
theorem Toks.app {st : St} {ts : Nat → Nat} (h : Toks st ts) (i u : Nat) (hu : ∀ j, j < 8 → j ≠ i → ts j ≤ 2 ∨ ts j ≠ u) : Toks (appSt st u 1) (upd ts i (st.nt + 3)) := by
  refine ⟨fun j hj => ?_, fun a b ha hb hab => ?_⟩
  · by_cases e : j = i
    · rw [e, upd_at]; exact OwnN.fresh _ _ _
    · rw [upd_ne _ _ e]; exact (h.own j hj).app (hu j hj e)
  · have la := (h.own a ha).lt
    have lb := (h.own b hb).lt
    have := h.dis a b ha hb hab
    by_cases ea : a = i
    · by_cases eb : b = i
      · omega
      · subst ea; rw [upd_at, upd_ne _ _ eb]; omega
    · by_cases eb : b = i
      · subst eb; rw [upd_at, upd_ne _ _ ea]; omega
      · rw [upd_ne _ _ ea, upd_ne _ _ eb]; exact this
theorem Toks.same {st st' : St} {ts : Nat → Nat} (h : Toks st ts) (htk : st'.tk = st.tk) (hnt : st'.nt = st.nt) : Toks st' ts := by
  refine ⟨fun i hi => ?_, h.dis⟩
  rcases h.own i hi with g | g | ⟨k, g1, g2, g3⟩
  · exact .inl g
  · exact .inr (.inl g)
  · exact .inr (.inr ⟨k, g1, by rw [hnt]; exact g2, by rw [htk]; exact g3⟩)
/-- Other objects and rights do no harm. -/
theorem Obs.same {st st' : St} {lid : Nat} {ii ts : Nat → Nat} {x : Ln} (h : Obs st lid ii ts x) (hob : ∀ i, i < st.n → st'.ob i = st.ob i) (hn : st.n ≤ st'.n) : Obs st' lid ii ts x :=
  ⟨by rw [hob _ h.lt]; exact h.ob, by have := h.lt; omega, fun k hk => by rw [hob _ (h.el k hk)]; exact h.e k hk, fun k hk => by have := h.el k hk; omega, h.ne, h.n0⟩
theorem Obs.put {st : St} {lid : Nat} {ii ts : Nat → Nat} {x : Ln} (h : Obs st lid ii ts x) (y : Ln) (us : Nat → Nat) (he : ∀ k, k < 2 → y.E k = x.E k) (hu : ∀ k, k < 2 → us k = ts k) : Obs (st.put lid (.cells (lnC y ii us))) lid ii us y :=
  ⟨put_at _ _ _, h.lt, fun k hk => by rw [put_ne _ _ (Ne.symm (h.n0 k hk)), he k hk, hu k hk]; exact h.e k hk, h.el, h.ne, h.n0⟩
/-! loads and stores -/
theorem two_cases {k : Nat} (h : k < 2) : k = 0 ∨ k = 1 := by omega
theorem iad {k : Nat} (hk : k < 2) (id off : Nat) (K : V → Res) : A.iaddrA 2 1 (.ptr id off) (.int .i64 (k : Nat)) K = K (.ptr id (off + k)) := by
  rw [iaddrA_ptr, if_pos (by omega)]; simp
theorem Obs.ld {st : St} {lid : Nat} {ii ts : Nat → Nat} {x : Ln} (h : Obs st lid ii ts x) {k : Nat} (hk : k < 2) :
    (∀ K, A.load false 1 (.ptr lid (0 + k)) st K = K (.ptr (ii k) 0) st) ∧ (∀ K, A.load false 1 (.ptr lid (2 + k)) st K = K (.lst (strsV (x.U k)) (ts (2 + k))) st) ∧ (∀ K, A.load false 1 (.ptr lid (4 + k)) st K = K (.lst (intsV (natsZ (x.P k))) (ts (4 + k))) st) ∧ (∀ K, A.load false 1 (.ptr lid (6 + k)) st K = K (.lst (intsV (natsZ (x.C k))) (ts (6 + k))) st) ∧ (∀ K, A.load false 1 (.ptr lid 8) st K = K (.bool true) st) := by
  rcases two_cases hk with rfl | rfl
  all_goals exact ⟨fun K => by simp [h.ob, lnC], fun K => by simp [h.ob, lnC], fun K => by simp [h.ob, lnC], fun K => by simp [h.ob, lnC], fun K => by simp [h.ob, lnC]⟩
theorem Obs.stU {st : St} {lid : Nat} {ii ts : Nat → Nat} {x : Ln} (h : Obs st lid ii ts x) {k : Nat} (hk : k < 2) (l : List (List UInt8)) (u : Nat) (K : St → Res) : A.store 1 (.ptr lid (2 + k)) (.lst (strsV l) u) st K = K (st.put lid (.cells (lnC { x with U := upd x.U k l } ii (upd ts (2 + k) u)))) := by
  rw [store_lst, h.ob]
  rcases two_cases hk with rfl | rfl <;> rfl
theorem Obs.stP {st : St} {lid : Nat} {ii ts : Nat → Nat} {x : Ln} (h : Obs st lid ii ts x) {k : Nat} (hk : k < 2) (p u : Nat) (K : St → Res) : A.store 1 (.ptr lid (4 + k)) (.lst (intsV (natsZ p)) u) st K = K (st.put lid (.cells (lnC { x with P := upd x.P k p } ii (upd ts (4 + k) u)))) := by
  rw [store_lst, h.ob]
  rcases two_cases hk with rfl | rfl <;> rfl
theorem Obs.stC {st : St} {lid : Nat} {ii ts : Nat → Nat} {x : Ln} (h : Obs st lid ii ts x) {k : Nat} (hk : k < 2) (c u : Nat) (K : St → Res) : A.store 1 (.ptr lid (6 + k)) (.lst (intsV (natsZ c)) u) st K = K (st.put lid (.cells (lnC { x with C := upd x.C k c } ii (upd ts (6 + k) u)))) := by
  rw [store_lst, h.ob]
  rcases two_cases hk with rfl | rfl <;> rfl
/-- The line. -/
structure LnAt (st : St) (lid : Nat) (ii ts : Nat → Nat) (x : Ln) : Prop where
  o : Obs st lid ii ts x
  t : Toks st ts
theorem LnAt.lat {st : St} {lid : Nat} {ii ts : Nat → Nat} {x : Ln} (h : LnAt st lid ii ts x) {k : Nat} (hk : k < 2) : LAt st (ii k) (ts k) (x.E k) := ⟨h.o.e k hk, h.o.el k hk, h.t.own k (by omega)⟩
theorem LnAt.same {st st' : St} {lid : Nat} {ii ts : Nat → Nat} {x : Ln} (h : LnAt st lid ii ts x) (hob : ∀ i, i < st.n → st'.ob i = st.ob i) (hn : st.n ≤ st'.n) (htk : st'.tk = st.tk) (hnt : st'.nt = st.nt) : LnAt st' lid ii ts x := ⟨h.o.same hob hn, h.t.same htk hnt⟩
theorem upd_lt {ts : Nat → Nat} {i u k : Nat} (hk : k < 2) (hi : 2 ≤ i) : upd ts i u k = ts k := upd_ne _ _ (by omega)
/-- Two appends to nothing, stored. -/
theorem LnAt.join {st : St} {lid : Nat} {ii ts : Nat → Nat} {x : Ln} (h : LnAt st lid ii ts x) {k : Nat} (hk : k < 2) (a b : List (List UInt8)) (ha : a.length ≤ 100000) (hb : b.length ≤ 100000) :
    LnAt ((appSt (appSt st 1 1) (st.nt + 3) 1).put lid (.cells (lnC { x with U := upd x.U k (a ++ b) } ii (upd ts (2 + k) (st.nt + 1 + 3))))) lid ii (upd ts (2 + k) (st.nt + 1 + 3)) { x with U := upd x.U k (a ++ b) } := by
  have t1 : Toks (appSt st 1 1) ts := by
    refine ⟨fun j hj => (h.t.own j hj).app (by omega), h.t.dis⟩
  have t2 := t1.app (2 + k) (st.nt + 3) (fun j hj _ => by have := (h.t.own j hj).lt; omega)
  rw [appSt_nt] at t2
  have o1 : Obs (appSt (appSt st 1 1) (st.nt + 3) 1) lid ii ts x := h.o.same (fun i _ => by simp) (by simp)
  exact ⟨o1.put _ _ (fun _ _ => rfl) (fun i hi => upd_lt hi (by omega)), t2.same rfl rfl⟩
theorem app_nil1 (st : St) (l : List (List UInt8)) (hl : l.length ≤ 100000) (K : V → St → Res) : A.app 1 (.lst [] 1) (some (strsV l)) st K = K (.lst (strsV l) (st.nt + 3)) (appSt st 1 1) := by
  rw [app_tok K (.inl rfl) (by simp; omega) rfl]; rfl
theorem app_two (st : St) (a b : List (List UInt8)) (ha : a.length ≤ 100000) (hb : b.length ≤ 100000) (K : V → St → Res) : A.app 1 (.lst (strsV a) (st.nt + 3)) (some (strsV b)) (appSt st 1 1) K = K (.lst (strsV (a ++ b)) (st.nt + 1 + 3)) (appSt (appSt st 1 1) (st.nt + 3) 1) := by
  rw [app_tok K (.inr (.inr ⟨st.nt, rfl, appSt_new _ _ _⟩)) (by simp; omega) (szok_strs _), appSt_nt]
  simp [strsV]
theorem sends_s {st : St} {lid : Nat} {ii ts : Nat → Nat} {x : Ln} (h : LnAt st lid ii ts x) {k : Nat} (hk : k < 2) (l : List (List UInt8)) (v : Nat) (hl : l.length ≤ 1000) :
    ∃ st' ts', s27 [.ptr lid 0, .int .i64 (k : Nat), .lst (strsV l) v] st = some (.ret (.tup []), st') ∧ LnAt st' lid ii ts' (sendsP x k l) ∧ st.n ≤ st'.n := by
  rw [s27_eq]
  unfold f27
  obtain ⟨l0, l1, l2, l3, l4⟩ := h.o.ld hk
  simp only [nilc_ptr, faddr_ptr, Nat.zero_add, iad hk, l1, lenL_lst, strsV_len, bin_lss]
  unfold sendsP
  by_cases h3 : (x.U k).length < 300
  · rw [if_pos h3]
    have g := h.join hk (x.U k) l (by omega) (by omega)
    have o1 : Obs (appSt (appSt st 1 1) (st.nt + 3) 1) lid ii ts x := h.o.same (fun i _ => by simp) (by simp)
    simp only [show (((x.U k).length : Int) < 300) from by omega, decide_true, cond_true, elemsOf_strs, app_nil1 st (x.U k) (by omega)]
    unfold g27b1011
    simp only [elemsOf_strs, app_two st (x.U k) l (by omega) (by omega), kid_eq, noP_ret, nilc_ptr, faddr_ptr, Nat.zero_add, iad hk, o1.stU hk]
    exact ⟨_, _, rfl, g, by simp⟩
  · rw [if_neg h3]
    simp only [show ¬ (((x.U k).length : Int) < 300) from by omega, decide_false, cond_false]
    exact ⟨st, ts, rfl, h, Nat.le_refl _⟩
/-- An end takes a packet. -/
theorem took_s {st : St} {lid : Nat} {ii ts : Nat → Nat} {x : Ln} (h : LnAt st lid ii ts x) {k : Nat} (hk : k < 2) (hok : LkOK (x.E k)) (s : List UInt8) (hs : s.length ≤ 9223372036854775807) :
    ∃ st' ts', s19 [.ptr (ii k) 0, .str s] st = some (.ret (cameV (takeP (x.E k) s).2.1 (takeP (x.E k) s).2.2.1 (takeP (x.E k) s).2.2.2), st') ∧ LnAt st' lid ii ts' { x with E := upd x.E k (takeP (x.E k) s).1 } ∧ st.n ≤ st'.n := by
  obtain ⟨st', t', q1, q2, q3, q4⟩ := take_s (h.lat hk) hok s hs
  refine ⟨st', upd ts k t', q1, ⟨⟨?_, ?_, ?_, ?_, h.o.ne, h.o.n0⟩, ?_, ?_⟩, q3.n⟩
  · rw [q3.ob lid h.o.lt (h.o.n0 k hk), h.o.ob]
    unfold lnC
    rw [upd_ne _ _ (show 2 ≠ k by omega), upd_ne _ _ (show 3 ≠ k by omega), upd_ne _ _ (show 4 ≠ k by omega), upd_ne _ _ (show 5 ≠ k by omega), upd_ne _ _ (show 6 ≠ k by omega), upd_ne _ _ (show 7 ≠ k by omega)]
  · have := h.o.lt; have := q3.n; omega
  · intro i hi
    by_cases e : i = k
    · subst e; simp only [upd_at]; exact q2.ob
    · simp only [upd_ne _ _ e]
      rw [q3.ob _ (h.o.el i hi) (by rcases two_cases hi with rfl | rfl <;> rcases two_cases hk with rfl | rfl <;> first | exact absurd rfl e | exact h.o.ne | exact h.o.ne.symm)]
      exact h.o.e i hi
  · intro i hi; have := h.o.el i hi; have := q3.n; omega
  · intro i hi
    by_cases e : i = k
    · subst e; rw [upd_at]; exact q2.own
    · rw [upd_ne _ _ e]; exact q3.own (h.t.own i hi)
  · intro a b ha hb hab
    have := h.t.dis a b ha hb hab
    by_cases ea : a = k
    · subst ea; rw [upd_at, upd_ne _ _ (Ne.symm hab)]; omega
    · by_cases eb : b = k
      · subst eb; rw [upd_at, upd_ne _ _ ea]; omega
      · rw [upd_ne _ _ ea, upd_ne _ _ eb]; exact this
/-- An end puts. -/
theorem lputs_s {st : St} {lid : Nat} {ii ts : Nat → Nat} {x : Ln} (h : LnAt st lid ii ts x) {k : Nat} (hk : k < 2) (hok : LkOK (x.E k)) (n : Note) (hn : NoteOK n) :
    ∃ st' ts', s13 [.ptr (ii k) 0, noteV n] st = some (.ret (.tup [.lst (strsV (putP (x.E k) n).2.1) (tokP (putP (x.E k) n).2.1), .int .i64 ((putP (x.E k) n).2.2 : Nat)]), st') ∧ LnAt st' lid ii ts' { x with E := upd x.E k (putP (x.E k) n).1 } ∧ st.n ≤ st'.n := by
  obtain ⟨st', t', q1, q2, q3⟩ := lput_s (h.lat hk) hok n hn
  refine ⟨st', upd ts k t', q1, ⟨⟨?_, ?_, ?_, ?_, h.o.ne, h.o.n0⟩, ?_, ?_⟩, q3.n⟩
  · rw [q3.ob lid h.o.lt (h.o.n0 k hk), h.o.ob]
    unfold lnC
    rw [upd_ne _ _ (show 2 ≠ k by omega), upd_ne _ _ (show 3 ≠ k by omega), upd_ne _ _ (show 4 ≠ k by omega), upd_ne _ _ (show 5 ≠ k by omega), upd_ne _ _ (show 6 ≠ k by omega), upd_ne _ _ (show 7 ≠ k by omega)]
  · have := h.o.lt; have := q3.n; omega
  · intro i hi
    by_cases e : i = k
    · subst e; simp only [upd_at]; exact q2.ob
    · simp only [upd_ne _ _ e]
      rw [q3.ob _ (h.o.el i hi) (by rcases two_cases hi with rfl | rfl <;> rcases two_cases hk with rfl | rfl <;> first | exact absurd rfl e | exact h.o.ne | exact h.o.ne.symm)]
      exact h.o.e i hi
  · intro i hi; have := h.o.el i hi; have := q3.n; omega
  · intro i hi
    by_cases e : i = k
    · subst e; rw [upd_at]; exact q2.own
    · rw [upd_ne _ _ e]; exact q3.own (h.t.own i hi) (h.t.dis i k hi (by omega) e)
  · intro a b ha hb hab
    have := h.t.dis a b ha hb hab
    have la := (h.t.own a ha).lt
    have lb := (h.t.own b hb).lt
    have ht := q3.tt
    by_cases ea : a = k
    · subst ea; rw [upd_at, upd_ne _ _ (Ne.symm hab)]; omega
    · by_cases eb : b = k
      · subst eb; rw [upd_at, upd_ne _ _ ea]; omega
      · rw [upd_ne _ _ ea, upd_ne _ _ eb]; exact this
end Go.Ab

/- The line: comes, puts, does, right. -/
namespace Go.Ab
open Go.Proofs Go.RowKit Go.Oct
set_option linter.unusedVariables false
set_option linter.unusedSimpArgs false
set_option maxRecDepth 100000
theorem one_minus {k : Nat} (hk : k < 2) (K : V → Res) : A.bin .sub (.int .i64 1) (.int .i64 (k : Nat)) K = K (.int .i64 ((1 - k : Nat) : Int)) := by
  rcases two_cases hk with rfl | rfl <;> rfl
theorem upd_upd {α : Type} (f : Nat → α) (k : Nat) (a b : α) : upd (upd f k a) k b = upd f k b := by
  funext i; unfold upd; split <;> rfl
/-- What came is put down, and the answers are sent. -/
theorem comes_end {ep : Nat → Nat} {x : Ln} {lid c : Nat} {ii ts : Nat → Nat} {k : Nat} (hk : k < 2) {ps : List Note} {ks : List (List UInt8)} (hps : ps = [] ∨ ps = [payN 5 (x.C k)]) (hks : ks.length ≤ 1) (hc : x.C k ≤ 1000) {st : St} (h : LnAt st lid ii ts x) (hcl : c < st.n) (hcn : c ≠ lid) (hob : st.ob c = some (.cells (cC ps 0 ks 0 false))) :
    ∃ st' ts', g28bz71 (.ptr lid 0) (.int .i64 (k : Nat)) (.ptr c 0) (.bool false) st = some (.ret (.tup []), st') ∧ LnAt st' lid ii ts' (sendsP { x with C := upd x.C k (x.C k + ps.length) } (1 - k) ks) ∧ st.n ≤ st'.n := by
  unfold g28bz71
  simp only [cond_false]
  unfold g28bz3j
  obtain ⟨f, hf⟩ : ∃ f, big = f + 1 + 1 := ⟨big - 2, by have := big_le; omega⟩
  rw [hf]
  obtain ⟨c0, c1, c2⟩ := came_ld hob
  have hk' := (two_sub hk).2
  rcases hps with rfl | rfl
  · unfold g28bzsa
    have nl : (notesV []).length = 0 := rfl
    obtain ⟨st', ts', q1, q2, q3⟩ := sends_s h hk' ks 0 (by omega)
    simp only [faddr_ptr, Nat.zero_add, c0, lenL_lst, nl, Int.natCast_zero, bin_lss, Int.lt_irrefl, decide_false, cond_false, one_minus hk, c1, er1_ptr, er1_int, er1_lst, q1, ret_ret]
    refine ⟨st', ts', rfl, ?_, q3⟩
    rw [List.length_nil, Nat.add_zero, upd_self]
    exact q2
  · rw [g28bzsa]
    have nl : (notesV [payN 5 (x.C k)]).length = 1 := rfl
    have ia : ∀ K, A.iaddr 4 (.lst (notesV [payN 5 (x.C k)]) 0) (.int .i64 0) K = K (.lptr (noteC (payN 5 (x.C k)))) := fun K => iaddr_notes (l := [payN 5 (x.C k)]) (i := 0) 0 (by simp) K
    have k0 : ∀ {st : St} K, (A.faddr 0 (.lptr (noteC (payN 5 (x.C k)))) fun a10 => A.load false 1 a10 st K) = K (.int .i64 5) st := fun K => rfl
    have k1 : ∀ {st : St} K, (A.faddr 1 (.lptr (noteC (payN 5 (x.C k)))) fun a10 => A.load false 1 a10 st K) = K (.lst (intsV [((x.C k : Nat) : Int)]) 0) st := fun K => rfl
    have i0 : ∀ K, A.iaddr 1 (.lst (intsV [((x.C k : Nat) : Int)]) 0) (.int .i64 0) K = K (.lptr [.int .i64 ((x.C k : Nat) : Int)]) := fun K => rfl
    have il : (intsV [((x.C k : Nat) : Int)]).length = 1 := rfl
    obtain ⟨l0, l1, l2, l3, l4⟩ := h.o.ld hk
    have tk := h.t.own (6 + k) (by omega)
    have ha : ∀ K, A.app 1 (.lst (intsV (natsZ (x.C k))) (ts (6 + k))) (some (intsV [((x.C k : Nat) : Int)])) st K = K (.lst (intsV (natsZ (x.C k + 1))) (st.nt + 3)) (appSt st (ts (6 + k)) 1) := fun K => by
      rw [app_tok K tk.tok (by simp [natsZ_len]; omega) (szok_ints _)]
      rw [← natsZ_snoc]; simp [intsV]
    have t1 := h.t.app (6 + k) (ts (6 + k)) (fun j hj e => h.t.dis j (6 + k) hj (by omega) e)
    have o1 : Obs (appSt st (ts (6 + k)) 1) lid ii ts x := h.o.same (fun i _ => by simp) (by simp)
    have e1 : ∀ K, A.bin .add (.int .i64 0) (.int .i64 1) K = K (.int .i64 1) := fun K => rfl
    simp only [faddr_ptr, Nat.zero_add, c0, lenL_lst, nl, bin_lss, show ((0 : Int) < ((1 : Nat) : Int)) from by omega, decide_true, cond_true, ia, k0, eql_int, if_true, bne_self_eq_false]
    unfold g28bz1ea8_8
    simp only [guard_ff, faddr_ptr, Nat.zero_add, c0, ia, k1, lenL_lst, il, eql_int, if_true, show (((1 : Nat) : Int) != 1) = false from rfl]
    unfold g28bz1ea9
    simp only [cond_false, nilc_ptr, faddr_ptr, Nat.zero_add, iad hk, l3, c0, ia, k1, i0, load_l1', bslice_int1, elemsOf_ints, ha, kid_eq, noP_ret, o1.stC hk, e1]
    have L1 : LnAt ((appSt st (ts (6 + k)) 1).put lid (.cells (lnC { x with C := upd x.C k (x.C k + 1) } ii (upd ts (6 + k) (st.nt + 3))))) lid ii (upd ts (6 + k) (st.nt + 3)) { x with C := upd x.C k (x.C k + 1) } := ⟨o1.put _ _ (fun _ _ => rfl) (fun i hi => upd_lt hi (by omega)), t1.same rfl rfl⟩
    have hob' : ((appSt st (ts (6 + k)) 1).put lid (.cells (lnC { x with C := upd x.C k (x.C k + 1) } ii (upd ts (6 + k) (st.nt + 3))))).ob c = some (.cells (cC [payN 5 (x.C k)] 0 ks 0 false)) := by rw [put_ne _ _ hcn, appSt_ob]; exact hob
    have hn' : ((appSt st (ts (6 + k)) 1).put lid (.cells (lnC { x with C := upd x.C k (x.C k + 1) } ii (upd ts (6 + k) (st.nt + 3))))).n = st.n := by simp
    generalize (appSt st (ts (6 + k)) 1).put lid (.cells (lnC { x with C := upd x.C k (x.C k + 1) } ii (upd ts (6 + k) (st.nt + 3)))) = st2 at L1 hob' hn'
    obtain ⟨d0, d1, d2⟩ := came_ld hob'
    obtain ⟨st', ts', q1, q2, q3⟩ := sends_s L1 hk' ks 0 (by omega)
    rw [g28bzsa]
    simp only [faddr_ptr, Nat.zero_add, d0, lenL_lst, nl, bin_lss, show ¬ ((1 : Int) < ((1 : Nat) : Int)) from by omega, decide_false, cond_false, one_minus hk, d1, er1_ptr, er1_int, er1_lst, q1, ret_ret]
    exact ⟨st', ts', rfl, q2, by omega⟩
/-- A packet is taken. -/
theorem comes_take {ep : Nat → Nat} {x : Ln} (g : Good ep x) {lid : Nat} {ii ts : Nat → Nat} {k : Nat} (hk : k < 2) {s : List UInt8} (hs : Old ep k x s) {st : St} (h : LnAt st lid ii ts x) :
    ∃ st' ts', g28b1111 (.ptr lid 0) (.int .i64 (k : Nat)) (.str s) st = some (.ret (.tup []), st') ∧ LnAt st' lid ii ts' (takesP x k s) ∧ st.n ≤ st'.n := by
  obtain ⟨l', ps, ks, a1, a2, a3, a4⟩ := g.took hk hs
  have hsl : s.length ≤ 1048584 := by
    rcases hs with ⟨o, _, rfl⟩ | ⟨o, j, m, _, rfl⟩ <;> exact pkt_len _
  obtain ⟨st1, ts1, q1, q2, q3⟩ := took_s h hk (g.ok hk) s (by omega)
  rw [a1] at q1 q2
  obtain ⟨l0, l1, l2, l3, l4⟩ := h.o.ld hk
  unfold g28b1111
  simp only [nilc_ptr, faddr_ptr, Nat.zero_add, iad hk]
  simp only [Nat.zero_add] at l0
  simp only [l0, er1_ptr, er1_str, q1, ret_ret, came_box]
  have L1 : LnAt ((st1.new (.cells (cC [] 1 [] 1 false))).put st1.n (.cells (cC ps 0 ks 0 false))) lid ii ts1 { x with E := upd x.E k l' } :=
    q2.same (fun j hj => by rw [put_ne _ _ (by omega), new_ne _ _ (by omega)]) (by simp) rfl rfl
  have oc := put_at (st1.new (.cells (cC [] 1 [] 1 false))) st1.n (.cells (cC ps 0 ks 0 false))
  have hn : st1.n < ((st1.new (.cells (cC [] 1 [] 1 false))).put st1.n (.cells (cC ps 0 ks 0 false))).n := by simp
  have hlid : st1.n ≠ lid := by have := q2.o.lt; omega
  generalize (st1.new (.cells (cC [] 1 [] 1 false))).put st1.n (.cells (cC ps 0 ks 0 false)) = st2 at L1 oc hn
  generalize st1.n = c at oc hn hlid q3
  obtain ⟨c0, c1, c2⟩ := came_ld oc
  have hc : x.C k ≤ 1000 := by have := g.c k hk; have := g.p (1 - k) (two_sub hk).2; omega
  obtain ⟨st', ts', r1, r2, r3⟩ := comes_end (ep := ep) (x := { x with E := upd x.E k l' }) hk a2 (by rcases a3 with rfl | rfl <;> simp) hc L1 hn hlid oc
  simp only [faddr_ptr, Nat.zero_add, c2, r1]
  refine ⟨st', ts', rfl, ?_, by omega⟩
  unfold takesP tookP
  rw [a1]
  exact r2
theorem comes_s {ep : Nat → Nat} {x : Ln} (g : Good ep x) {lid : Nat} {ii ts : Nat → Nat} {k : Nat} (hk : k < 2) (at_ : Int) (tw : Bool) (hU : (x.U k).length ≤ 5000) {st : St} (h : LnAt st lid ii ts x) :
    ∃ st' ts', s28 [.ptr lid 0, .int .i64 (k : Nat), .int .i64 at_, .bool tw] st = some (.ret (.tup []), st') ∧ LnAt st' lid ii ts' (comesP x k (low 65536 at_) tw) ∧ st.n ≤ st'.n := by
  rw [s28_eq]
  unfold f28
  obtain ⟨l0, l1, l2, l3, l4⟩ := h.o.ld hk
  unfold comesP
  by_cases h0 : (x.U k).length = 0
  · rw [if_pos h0]
    simp only [nilc_ptr, faddr_ptr, Nat.zero_add, iad hk, l1, lenL_lst, strsV_len, h0, Int.natCast_zero, eql_int, Bool.false_eq_true, if_false, beq_self_eq_true, cond_true]
    exact ⟨st, ts, rfl, h, Nat.le_refl _⟩
  · rw [if_neg h0]
    have hlt := Nat.mod_lt (low 65536 at_) (show 0 < (x.U k).length by omega)
    have hget : (x.U k).getD (low 65536 at_ % (x.U k).length) [] = (x.U k)[low 65536 at_ % (x.U k).length] := by rw [List.getD_eq_getElem?_getD, List.getElem?_eq_getElem hlt]; rfl
    have hold := g.u k hk _ (List.getElem_mem hlt)
    have er : ∀ K, A.bin .rem (.int .i64 (low 65536 at_ : Nat)) (.int .i64 ((x.U k).length : Nat)) K = K (.int .i64 ((low 65536 at_ % (x.U k).length : Nat) : Int)) := fun K => bin_remN _ _ K (by omega)
    have hne : (((x.U k).length : Int) == 0) = false := by rw [beq_eq_false_iff_ne]; omega
    simp only [nilc_ptr, faddr_ptr, Nat.zero_add, iad hk, l1, lenL_lst, strsV_len, eql_int, Bool.false_eq_true, if_false, hne, cond_false, bin_and65535, er]
    unfold g28b11
    simp only [nilc_ptr, faddr_ptr, Nat.zero_add, iad hk, l1, iaddr_strs _ hlt, load_l1', un_not]
    unfold g28b11101
    rw [hget]
    generalize hi : low 65536 at_ % (x.U k).length = i at hlt hold
    cases tw with
    | true =>
      simp only [Bool.not_true, cond_false, if_true]
      exact comes_take g hk hold h
    | false =>
      have e5 : ∀ K, A.bin .add (.int .i64 (i : Nat)) (.int .i64 1) K = K (.int .i64 ((i + 1 : Nat) : Int)) := fun K => bin_inc (by omega) K
      have o1 : Obs (appSt (appSt st 1 1) (st.nt + 3) 1) lid ii ts x := h.o.same (fun i _ => by simp) (by simp)
      have o0 : Obs (appSt st 1 1) lid ii ts x := h.o.same (fun i _ => by simp) (by simp)
      obtain ⟨m0, m1, m2, m3, m4⟩ := o0.ld hk
      have sf : ∀ K, A.slice 1 (.lst (strsV (x.U k)) (ts (2 + k))) (some (.int .i64 ((i + 1 : Nat) : Int))) none none K = K (.lst (strsV ((x.U k).drop (i + 1))) (ts (2 + k))) := fun K => by
        rw [slice_from _ _ _ _ K (by simp; omega) (szok_strs _)]; simp [strsV]
      have g1 : Good ep (lessP x k i) := g.less _ (fun s hs => by
        rcases List.mem_append.1 hs with g | g
        · exact List.mem_of_mem_take g
        · exact List.mem_of_mem_drop g)
      have L1 := h.join hk ((x.U k).take i) ((x.U k).drop (i + 1)) (by rw [List.length_take]; omega) (by rw [List.length_drop]; omega)
      simp only [Bool.not_false, cond_true, nilc_ptr, faddr_ptr, Nat.zero_add, iad hk, l1, slice_strs _ _ _ _ (Nat.le_of_lt hlt), elemsOf_strs, app_nil1 st _ (show ((x.U k).take i).length ≤ 100000 by rw [List.length_take]; omega)]
      unfold g28bzdn
      simp only [nilc_ptr, faddr_ptr, Nat.zero_add, iad hk, m1, e5, sf, elemsOf_strs, app_two st _ _ (show ((x.U k).take i).length ≤ 100000 by rw [List.length_take]; omega) (show ((x.U k).drop (i + 1)).length ≤ 100000 by rw [List.length_drop]; omega), kid_eq, noP_ret, o1.stU hk, Bool.false_eq_true, if_false]
      obtain ⟨st', ts', r1, r2, r3⟩ := comes_take g1 hk (hold.mono (Nat.le_refl _) (Nat.le_refl _)) L1
      exact ⟨st', ts', r1, r2, by simpa using r3⟩
end Go.Ab

/- The line: puts, does, right, begun; sinewlaw15.LinkOrder. -/
namespace Go.Ab
open Go.Proofs Go.RowKit Go.Oct
set_option linter.unusedVariables false
set_option linter.unusedSimpArgs false
set_option maxRecDepth 100000
theorem lputs_line {ep : Nat → Nat} {x : Ln} (g : Good ep x) {lid : Nat} {ii ts : Nat → Nat} {k : Nat} (hk : k < 2) (hp : x.P k < 1000) {st : St} (h : LnAt st lid ii ts x) :
    ∃ st' ts', s40 [.ptr lid 0, .int .i64 (k : Nat)] st = some (.ret (.tup []), st') ∧ LnAt st' lid ii ts' (putsP x k) ∧ st.n ≤ st'.n := by
  obtain ⟨a1, a2, a3⟩ := g.puts hk hp
  obtain ⟨p1, p2, p3, p4⟩ := pay_ok 5 (x.P k) (by omega) (by omega) (by omega)
  obtain ⟨st1, ts1, q1, q2, q3⟩ := lputs_s h hk (g.ok hk) (payN 5 (x.P k)) p1
  have he : (putP (x.E k) (payN 5 (x.P k))).2.2 = 0 := by rw [a1]
  rw [he] at q1
  rw [s40_eq]
  unfold f40
  obtain ⟨l0, l1, l2, l3, l4⟩ := h.o.ld hk
  simp only [Nat.zero_add] at l0
  have bl : ∀ K, (A.bslice 1 (.int .i64 0) 1 [(0, .int .i64 (x.P k : Nat))] fun a2 => A.build [.int .i64 0, .lst [] 1, .lst [] 1, .lst [] 1] [(0, 1, .int .i64 5), (1, 1, a2)] K) = K (.agg (nC 5 [(x.P k : Int)] 2 [] 1 [] 1)) := pay_built (x.P k)
  simp only [nilc_ptr, faddr_ptr, Nat.zero_add, iad hk, l2, lenL_lst, intsV_len, natsZ_len, l0, bl, er1_ptr, pay_er1, q1, ret_ret, ext_0, ext_1]
  unfold g40b11
  obtain ⟨m0, m1, m2, m3, m4⟩ := q2.o.ld hk
  have tk := q2.t.own (4 + k) (by omega)
  have ha : ∀ K, A.app 1 (.lst (intsV (natsZ (x.P k))) (ts1 (4 + k))) (some (intsV [((x.P k : Nat) : Int)])) st1 K = K (.lst (intsV (natsZ (x.P k + 1))) (st1.nt + 3)) (appSt st1 (ts1 (4 + k)) 1) := fun K => by
    rw [app_tok K tk.tok (by simp [natsZ_len]; omega) (szok_ints _)]
    rw [← natsZ_snoc]; simp [intsV]
  have t1 := q2.t.app (4 + k) (ts1 (4 + k)) (fun j hj e => q2.t.dis j (4 + k) hj (by omega) e)
  have o1 : Obs (appSt st1 (ts1 (4 + k)) 1) lid ii ts1 { x with E := upd x.E k (putP (x.E k) (payN 5 (x.P k))).1 } := q2.o.same (fun i _ => by simp) (by simp)
  simp only [Int.natCast_zero, eql_int, if_true, bne_self_eq_false, cond_false, nilc_ptr, faddr_ptr, Nat.zero_add, iad hk, m2, bslice_int1, elemsOf_ints, ha, kid_eq, noP_ret, o1.stP hk]
  unfold g40b1111
  have L1 : LnAt ((appSt st1 (ts1 (4 + k)) 1).put lid (.cells (lnC { x with E := upd x.E k (putP (x.E k) (payN 5 (x.P k))).1, P := upd x.P k (x.P k + 1) } ii (upd ts1 (4 + k) (st1.nt + 3))))) lid ii (upd ts1 (4 + k) (st1.nt + 3)) { x with E := upd x.E k (putP (x.E k) (payN 5 (x.P k))).1, P := upd x.P k (x.P k + 1) } := ⟨o1.put _ _ (fun _ _ => rfl) (fun i hi => upd_lt hi (by omega)), t1.same rfl rfl⟩
  have hn : ((appSt st1 (ts1 (4 + k)) 1).put lid (.cells (lnC { x with E := upd x.E k (putP (x.E k) (payN 5 (x.P k))).1, P := upd x.P k (x.P k + 1) } ii (upd ts1 (4 + k) (st1.nt + 3))))).n = st1.n := by simp
  have hl : (putP (x.E k) (payN 5 (x.P k))).2.1.length ≤ 1000 := by
    have hql := g.qlen hk
    have hP := put_pay (l := x.E k) p2 (by omega) (by have := g.f1 k hk; omega)
    rw [hP]
    simp only
    split <;> simp
  obtain ⟨st', ts', r1, r2, r3⟩ := sends_s L1 (two_sub hk).2 (putP (x.E k) (payN 5 (x.P k))).2.1 (tokP (putP (x.E k) (payN 5 (x.P k))).2.1) hl
  simp only [one_minus hk, er1_ptr, er1_int, er1_lst, r1, ret_ret]
  exact ⟨st', ts', rfl, r2, by omega⟩
theorem ticks_len (l : Lk) : (tickP l).length ≤ 64 := by unfold tickP; rw [List.length_map, List.length_range]; omega
theorem does_s {ep : Nat → Nat} {x : Ln} (g : Good ep x) {lid : Nat} {ii ts : Nat → Nat} (hp : ∀ k, x.P k < 1000) (hU : ∀ k, (x.U k).length ≤ 5000) (n : Nat) (hn : n < 1048576) {st : St} (h : LnAt st lid ii ts x) :
    ∃ st' ts', s25 [.ptr lid 0, .int .i64 (n : Nat)] st = some (.ret (.tup []), st') ∧ LnAt st' lid ii ts' (doesP x n) ∧ Good ep (doesP x n) := by
  have hk : n % 2 < 2 := Nat.mod_lt _ (by omega)
  rw [s25_eq]
  unfold f25 doesP
  have b1 : ∀ K, A.bin .and (.int .i64 (n : Nat)) (.int .i64 1) K = K (.int .i64 ((n % 2 : Nat) : Int)) := fun K => by
    rw [show (1 : Int) = ((1 : Nat) : Int) from rfl, bin_andN 1 1 rfl (by decide)]
    congr 2
  have sh : ∀ j, j ≤ 60 → ∀ K, A.bin .shr (.int .i64 (n : Nat)) (.int .u64 (j : Nat)) K = K (.int .i64 ((n / 2 ^ j : Nat) : Int)) := fun j hj K => bin_shrL n j .u64 K (by omega)
  have s1 : ∀ K, A.bin .shr (.int .i64 (n : Nat)) (.int .u64 1) K = K (.int .i64 ((n / 2 : Nat) : Int)) := sh 1 (by omega)
  have s3 : ∀ K, A.bin .shr (.int .i64 (n : Nat)) (.int .u64 3) K = K (.int .i64 ((n / 8 : Nat) : Int)) := sh 3 (by omega)
  have s4 : ∀ K, A.bin .shr (.int .i64 (n : Nat)) (.int .u64 4) K = K (.int .i64 ((n / 16 : Nat) : Int)) := sh 4 (by omega)
  have b3 : ∀ m : Nat, ∀ K, A.bin .and (.int .i64 (m : Nat)) (.int .i64 3) K = K (.int .i64 ((m % 4 : Nat) : Int)) := fun m K => by
    rw [show (3 : Int) = ((3 : Nat) : Int) from rfl, bin_andN 2 3 rfl (by decide)]
    congr 2
  have b11 : ∀ m : Nat, ∀ K, A.bin .and (.int .i64 (m : Nat)) (.int .i64 1) K = K (.int .i64 ((m % 2 : Nat) : Int)) := fun m K => by
    rw [show (1 : Int) = ((1 : Nat) : Int) from rfl, bin_andN 1 1 rfl (by decide)]
    congr 2
  have lw : low 65536 ((n / 16 : Nat) : Int) = n / 16 % 65536 := by show (((n / 16 : Nat) : Int) % ((65536 : Nat) : Int)).toNat = _; omega
  generalize hkk : n % 2 = k at hk
  have hq4 : n / 2 % 4 < 4 := Nat.mod_lt _ (by omega)
  generalize hqq : n / 2 % 4 = q at hq4
  simp only [b1, s1, b3, hkk, hqq, eql_int, Bool.false_eq_true, if_false]
  by_cases q0 : q = 0
  · subst q0
    obtain ⟨st', ts', r1, r2, r3⟩ := lputs_line g hk (hp k) h
    simp only [Int.natCast_zero, beq_self_eq_true, cond_true, er1_ptr, er1_int, r1, ret_ret, if_true]
    exact ⟨st', ts', rfl, r2, (g.puts hk (hp k)).2.2⟩
  · have n0 : ((q : Int) == 0) = false := by rw [beq_eq_false_iff_ne]; omega
    simp only [n0, cond_false, q0, if_false]
    by_cases q1 : q = 1
    · subst q1
      obtain ⟨st', ts', r1, r2, r3⟩ := comes_s g hk ((n / 16 : Nat) : Int) false (hU k) h
      rw [lw] at r2
      simp only [show ((((1 : Nat) : Int)) == 1) = true from rfl, cond_true, s4, er1_ptr, er1_int, er1_bool, r1, ret_ret, if_true]
      exact ⟨st', ts', rfl, r2, g.comes hk _ _⟩
    · have n1 : ((q : Int) == 1) = false := by rw [beq_eq_false_iff_ne]; omega
      simp only [n1, cond_false, q1, if_false]
      unfold g25bzdb
      by_cases q2 : q = 2
      · subst q2
        obtain ⟨st', ts', r1, r2, r3⟩ := comes_s g hk ((n / 16 : Nat) : Int) true (hU k) h
        rw [lw] at r2
        simp only [show ((((2 : Nat) : Int)) == 2) = true from rfl, cond_true, s4, er1_ptr, er1_int, er1_bool, r1, ret_ret, if_true]
        exact ⟨st', ts', rfl, r2, g.comes hk _ _⟩
      · have n2 : ((q : Int) == 2) = false := by rw [beq_eq_false_iff_ne]; omega
        obtain ⟨l0, l1, l2, l3, l4⟩ := h.o.ld hk
        simp only [Nat.zero_add] at l0
        have tick : ∃ st' ts', g25bz1hb (.ptr lid 0) (.int .i64 (k : Nat)) (.bool false) st = some (.ret (.tup []), st') ∧ LnAt st' lid ii ts' (ticksP x k) ∧ Good ep (ticksP x k) := by
          unfold g25bz1hb
          obtain ⟨st', ts', r1, r2, r3⟩ := sends_s h (two_sub hk).2 (tickP (x.E k)) 0 (by have := ticks_len (x.E k); omega)
          simp only [cond_false, one_minus hk, nilc_ptr, faddr_ptr, Nat.zero_add, iad hk, l0, er1_ptr, ltick_s (h.lat hk) (g.ok hk), ret_ret, er1_int, er1_lst, r1]
          exact ⟨st', ts', rfl, r2, g.ticks hk⟩
        simp only [n2, cond_false, q2, if_false, s3, b11, eql_int, Bool.false_eq_true]
        by_cases b : n / 8 % 2 = 1
        · simp only [b, show ((((1 : Nat) : Int)) == 1) = true from rfl, guard_tt, nilc_ptr, faddr_ptr, Nat.zero_add, iad hk, l1, lenL_lst, strsV_len, bin_gtr]
          by_cases hl : 0 < (x.U k).length
          · rw [if_pos ⟨trivial, hl⟩]
            unfold g25bz1hb
            have sf : ∀ K, A.slice 1 (.lst (strsV (x.U k)) (ts (2 + k))) (some (.int .i64 1)) none none K = K (.lst (strsV ((x.U k).drop 1)) (ts (2 + k))) := fun K => by
              have := slice_from (strsV (x.U k)) (ts (2 + k)) 1 1 K (by simp; omega) (szok_strs _)
              rw [show (1 : Int) = ((1 : Nat) : Int) from rfl, this]; simp [strsV]
            simp only [show ((0 : Int) < ((x.U k).length : Int)) from by omega, decide_true, cond_true, nilc_ptr, faddr_ptr, Nat.zero_add, iad hk, l1, sf, kid_eq, noP_ret, h.o.stU hk]
            refine ⟨_, _, rfl, ⟨h.o.put _ _ (fun _ _ => rfl) (fun i hi => upd_lt hi (by omega)), ?_⟩, g.less _ (fun s hs => List.mem_of_mem_drop hs)⟩
            rw [upd_self]
            exact h.t.same rfl rfl
          · rw [if_neg (fun e => hl e.2)]
            simp only [show ¬ ((0 : Int) < ((x.U k).length : Int)) from by omega, decide_false]
            exact tick
        · rw [if_neg (fun e => b e.1)]
          have n3 : (((n / 8 % 2 : Nat) : Int) == 1) = false := by rw [beq_eq_false_iff_ne]; omega
          simp only [n3, guard_ft]
          exact tick
/-- What has come is a beginning of what was put. -/
theorem right_inner {ep : Nat → Nat} {x : Ln} (g : Good ep x) {lid : Nat} {ii ts : Nat → Nat} {k : Nat} (hk : k < 2) (L : V → V → St → Res) {st : St} (h : LnAt st lid ii ts x) : ∀ (f i : Nat), i ≤ x.C k → x.C k < f + i → g26bz2li L f (.ptr lid 0) (.int .i64 (k : Nat)) (.int .i64 (i : Nat)) st = L (.ptr lid 0) (.int .i64 ((k + 1 : Nat) : Int)) st := by
  have hc := g.c k hk
  have hp := g.p (1 - k) (two_sub hk).2
  obtain ⟨l0, l1, l2, l3, l4⟩ := h.o.ld hk
  obtain ⟨m0, m1, m2, m3, m4⟩ := h.o.ld (two_sub hk).2
  intro f
  induction f with
  | zero => intro i hi hf; omega
  | succ f ih =>
    intro i hi hf
    unfold g26bz2li
    have ek : ∀ K, A.bin .add (.int .i64 (k : Nat)) (.int .i64 1) K = K (.int .i64 ((k + 1 : Nat) : Int)) := fun K => bin_inc (by omega) K
    by_cases hlt : i < x.C k
    · have e4 : ∀ K, A.bin .add (.int .i64 (i : Nat)) (.int .i64 1) K = K (.int .i64 ((i + 1 : Nat) : Int)) := fun K => bin_inc (by omega) K
      have h1 : i < (natsZ (x.C k)).length := by rw [natsZ_len]; exact hlt
      have h2 : i < (natsZ (x.P (1 - k))).length := by rw [natsZ_len]; omega
      simp only [nilc_ptr, faddr_ptr, Nat.zero_add, iad hk, l3, lenL_lst, intsV_len, natsZ_len, bin_lss, show ((i : Int) < (x.C k : Int)) from by omega, decide_true, cond_true, iaddr_ints _ h1, natsZ_at, load_l1', one_minus hk, iad (two_sub hk).2, m2, iaddr_ints _ h2, eql_int, if_true, bne_self_eq_false, cond_false, e4]
      exact ih (i + 1) (by omega) (by omega)
    · have : i = x.C k := by omega
      subst this
      simp only [nilc_ptr, faddr_ptr, Nat.zero_add, iad hk, l3, lenL_lst, intsV_len, natsZ_len, bin_lss, Int.lt_irrefl, decide_false, cond_false, ek]
theorem right_s {ep : Nat → Nat} {x : Ln} (g : Good ep x) {lid : Nat} {ii ts : Nat → Nat} {st : St} (h : LnAt st lid ii ts x) : s26 [.ptr lid 0] st = some (.ret (.bool true), st) := by
  rw [s26_eq]
  unfold f26
  obtain ⟨f, hf⟩ : ∃ f, big = f + 1 + 1 + 1 := ⟨big - 3, by have := big_le; omega⟩
  have step : ∀ (k : Nat) (hk : k < 2) (n : Nat), g26b1010 (n + 1) (.ptr lid 0) (.int .i64 (k : Nat)) st = g26b1010 n (.ptr lid 0) (.int .i64 ((k + 1 : Nat) : Int)) st := by
    intro k hk n
    have hc := g.c k hk
    obtain ⟨l0, l1, l2, l3, l4⟩ := h.o.ld hk
    obtain ⟨m0, m1, m2, m3, m4⟩ := h.o.ld (two_sub hk).2
    rw [g26b1010]
    simp only [bin_lss, show ((k : Int) < 2) from by omega, decide_true, cond_true, nilc_ptr, faddr_ptr, Nat.zero_add, iad hk, l3, lenL_lst, intsV_len, natsZ_len, one_minus hk, iad (two_sub hk).2, m2, bin_gtr, show ¬ ((x.P (1 - k) : Int) < (x.C k : Int)) from by omega, decide_false, cond_false]
    unfold g26bznd
    have hp := g.p (1 - k) (two_sub hk).2
    exact right_inner g hk (g26b1010 n) h big 0 (by omega) (lt_big (by omega))
  rw [hf, show (0 : Int) = ((0 : Nat) : Int) from rfl, step 0 (by omega), step 1 (by omega), g26b1010]
  obtain ⟨l0, l1, l2, l3, l4⟩ := h.o.ld (show 0 < 2 by omega)
  simp only [bin_lss, show ¬ (((1 + 1 : Nat) : Int) < 2) from by omega, decide_false, cond_false, nilc_ptr, faddr_ptr, Nat.zero_add, l4, er1_bool]
/-- The line that begins. -/
def beginP (ep : Nat → Nat) : Ln := ⟨fun k => newP (ep k), fun _ => [], fun _ => 0, fun _ => 0⟩
theorem begin_good (ep : Nat → Nat) (h1 : ∀ k, 1 ≤ ep k) (h2 : ∀ k, ep k ≤ 16) : Good ep (beginP ep) :=
  ⟨h1, h2, fun _ _ => rfl, fun _ _ => .inl ⟨rfl, rfl⟩, fun _ _ => rfl, fun _ _ => Nat.le_refl _, fun _ _ => Nat.le_refl _, fun _ _ => rfl, fun _ _ => Nat.le_refl _, fun _ _ => by simp [beginP], fun _ _ s hs => by cases hs⟩
theorem begun_s (epochs : Int) (st : St) : ∃ (ep : Nat → Nat) (st' : St) (lid : Nat) (ii ts : Nat → Nat), s24 [.int .i64 epochs] st = some (.ret (.ptr lid 0), st') ∧ LnAt st' lid ii ts (beginP ep) ∧ Good ep (beginP ep) := by
  rw [s24_eq]
  unfold f24
  obtain ⟨f, hf⟩ : ∃ f, big = f + 1 + 1 + 1 := ⟨big - 3, by have := big_le; omega⟩
  have hbx : ∀ K : V → St → Res, (A.build [.ptr0, .ptr0, .lst [] 1, .lst [] 1, .lst [] 1, .lst [] 1, .lst [] 1, .lst [] 1, .bool false] [(8, 1, .bool true)] fun a1 => A.box a1 st K) = K (.ptr st.n 0) (st.new (.cells [.ptr0, .ptr0, .lst [] 1, .lst [] 1, .lst [] 1, .lst [] 1, .lst [] 1, .lst [] 1, .bool true])) := fun K => rfl
  have and15 : ∀ (x : Int) K, A.bin .and (.int .i64 x) (.int .i64 15) K = K (.int .i64 (low 16 x : Nat)) := fun x K => bin_andN 4 15 rfl (by decide) K
  have l1 := low_lt 16 (epochs / (2 ^ 0 : Nat)) (by omega)
  have l2 := low_lt 16 (epochs / (2 ^ 4 : Nat)) (by omega)
  have a1 : ∀ K, A.bin .add (.int .i64 1) (.int .i64 (low 16 (epochs / (2 ^ 0 : Nat)) : Nat)) K = K (.int .i64 ((1 + low 16 (epochs / (2 ^ 0 : Nat)) : Nat) : Int)) := fun K => bin_addN 1 _ K (by omega)
  have a2 : ∀ K, A.bin .add (.int .i64 1) (.int .i64 (low 16 (epochs / (2 ^ 4 : Nat)) : Nat)) K = K (.int .i64 ((1 + low 16 (epochs / (2 ^ 4 : Nat)) : Nat) : Int)) := fun K => bin_addN 1 _ K (by omega)
  have m0 : ∀ K, A.bin .mul (.int .i64 4) (.int .i64 0) K = K (.int .i64 ((0 : Nat) : Int)) := fun K => rfl
  have m1 : ∀ K, A.bin .mul (.int .i64 4) (.int .i64 1) K = K (.int .i64 ((4 : Nat) : Int)) := fun K => rfl
  have sh0 : ∀ K, A.bin .shr (.int .i64 epochs) (.int .i64 ((0 : Nat) : Int)) K = K (.int .i64 (epochs / (2 ^ 0 : Nat))) := fun K => bin_shr K (by decide)
  have sh4 : ∀ K, A.bin .shr (.int .i64 epochs) (.int .i64 ((4 : Nat) : Int)) K = K (.int .i64 (epochs / (2 ^ 4 : Nat))) := fun K => bin_shr K (by decide)
  have i1 : ∀ K, A.bin .add (.int .i64 0) (.int .i64 1) K = K (.int .i64 1) := fun K => rfl
  have i2 : ∀ K, A.bin .add (.int .i64 1) (.int .i64 1) K = K (.int .i64 2) := fun K => rfl
  have d0 : ∀ id K, A.iaddrA 2 1 (.ptr id 0) (.int .i64 0) K = K (.ptr id 0) := fun id K => rfl
  have d1 : ∀ id K, A.iaddrA 2 1 (.ptr id 0) (.int .i64 1) K = K (.ptr id 1) := fun id K => rfl
  have ad0 := and15 (epochs / (2 ^ 0 : Nat))
  have ad4 := and15 (epochs / (2 ^ 4 : Nat))
  generalize low 16 (epochs / (2 ^ 0 : Nat)) = e0 at l1 a1 ad0
  generalize low 16 (epochs / (2 ^ 4 : Nat)) = e1 at l2 a2 ad4
  rw [hbx, hf]
  rw [g24b11010]
  simp only [bin_lss, show ((0 : Int) < 2) from by omega, decide_true, cond_true, m0, sh0, ad0, a1, er1_int, lnew_s (1 + e0) (by omega) (by omega), ret_ret, ext_0, ext_1]
  unfold g24bz1ft
  simp only [eql_int, if_true, bne_self_eq_false, guard_ff, eql_ptr]
  unfold g24bz5r9
  simp only [cond_false]
  unfold g24bz2vn
  have ob0 : ∀ o, ((st.new (.cells [.ptr0, .ptr0, .lst [] 1, .lst [] 1, .lst [] 1, .lst [] 1, .lst [] 1, .lst [] 1, .bool true])).new o).ob st.n = some (.cells [.ptr0, .ptr0, .lst [] 1, .lst [] 1, .lst [] 1, .lst [] 1, .lst [] 1, .lst [] 1, .bool true]) := fun o => by
    rw [new_ne _ _ (by simp), new_at]
  simp only [nilc_ptr, faddr_ptr, Nat.zero_add, d0, store_ptr, ob0, obo_some, List.length_cons, List.length_nil, show (0 < 0 + 1 + 1 + 1 + 1 + 1 + 1 + 1 + 1 + 1) = True by simp, if_true, List.set_cons_zero, i1]
  have ob1 := put_at ((st.new (.cells [.ptr0, .ptr0, .lst [] 1, .lst [] 1, .lst [] 1, .lst [] 1, .lst [] 1, .lst [] 1, .bool true])).new (.cells (lkC (newP (1 + e0)) 1))) st.n (.cells [.ptr (st.new (.cells [.ptr0, .ptr0, .lst [] 1, .lst [] 1, .lst [] 1, .lst [] 1, .lst [] 1, .lst [] 1, .bool true])).n 0, .ptr0, .lst [] 1, .lst [] 1, .lst [] 1, .lst [] 1, .lst [] 1, .lst [] 1, .bool true])
  have oe1 : (((st.new (.cells [.ptr0, .ptr0, .lst [] 1, .lst [] 1, .lst [] 1, .lst [] 1, .lst [] 1, .lst [] 1, .bool true])).new (.cells (lkC (newP (1 + e0)) 1))).put st.n (.cells [.ptr (st.new (.cells [.ptr0, .ptr0, .lst [] 1, .lst [] 1, .lst [] 1, .lst [] 1, .lst [] 1, .lst [] 1, .bool true])).n 0, .ptr0, .lst [] 1, .lst [] 1, .lst [] 1, .lst [] 1, .lst [] 1, .lst [] 1, .bool true])).ob (st.n + 1) = some (.cells (lkC (newP (1 + e0)) 1)) := by
    rw [put_ne _ _ (by omega)]
    exact new_at _ _
  have on1 : (((st.new (.cells [.ptr0, .ptr0, .lst [] 1, .lst [] 1, .lst [] 1, .lst [] 1, .lst [] 1, .lst [] 1, .bool true])).new (.cells (lkC (newP (1 + e0)) 1))).put st.n (.cells [.ptr (st.new (.cells [.ptr0, .ptr0, .lst [] 1, .lst [] 1, .lst [] 1, .lst [] 1, .lst [] 1, .lst [] 1, .bool true])).n 0, .ptr0, .lst [] 1, .lst [] 1, .lst [] 1, .lst [] 1, .lst [] 1, .lst [] 1, .bool true])).n = st.n + 1 + 1 := by simp
  rw [new_n] at ob1
  simp only [new_n] at oe1 on1 ⊢
  generalize ((st.new (.cells [.ptr0, .ptr0, .lst [] 1, .lst [] 1, .lst [] 1, .lst [] 1, .lst [] 1, .lst [] 1, .bool true])).new (.cells (lkC (newP (1 + e0)) 1))).put st.n (.cells [.ptr (st.n + 1) 0, .ptr0, .lst [] 1, .lst [] 1, .lst [] 1, .lst [] 1, .lst [] 1, .lst [] 1, .bool true]) = st1 at ob1 oe1 on1
  rw [g24b11010]
  simp only [bin_lss, show ((1 : Int) < 2) from by omega, decide_true, cond_true, m1, sh4, ad4, a2, er1_int, lnew_s (1 + e1) (by omega) (by omega), ret_ret, ext_0, ext_1]
  unfold g24bz1ft
  simp only [eql_int, if_true, bne_self_eq_false, guard_ff, eql_ptr]
  unfold g24bz5r9
  simp only [cond_false]
  unfold g24bz2vn
  have ob2 : (st1.new (.cells (lkC (newP (1 + e1)) 1))).ob st.n = some (.cells [.ptr (st.n + 1) 0, .ptr0, .lst [] 1, .lst [] 1, .lst [] 1, .lst [] 1, .lst [] 1, .lst [] 1, .bool true]) := by
    rw [new_ne _ _ (by omega)]; exact ob1
  simp only [nilc_ptr, faddr_ptr, Nat.zero_add, d1, store_ptr, ob2, obo_some, List.length_cons, List.length_nil, show (1 < 0 + 1 + 1 + 1 + 1 + 1 + 1 + 1 + 1 + 1) = True by simp, if_true, List.set_cons_succ, List.set_cons_zero, i2]
  rw [g24b11010]
  simp only [bin_lss, show ¬ ((2 : Int) < 2) from by omega, decide_false, cond_false, er1_ptr]
  refine ⟨fun k => if k = 0 then 1 + e0 else 1 + e1, _, st.n, fun k => if k = 0 then st.n + 1 else st.n + 1 + 1, fun _ => 1, rfl, ⟨⟨?_, ?_, ?_, ?_, ?_, ?_⟩, ?_⟩, begin_good _ (fun k => by split <;> omega) (fun k => by split <;> omega)⟩
  · rw [put_at, on1]; rfl
  · simp; omega
  · intro k hk
    rcases two_cases hk with rfl | rfl
    · simp only [if_true]
      rw [put_ne _ _ (by omega), new_ne _ _ (by omega), oe1]; rfl
    · simp only [show ¬ ((1 : Nat) = 0) from by omega, if_false]
      rw [put_ne _ _ (by omega), ← on1, new_at]; rfl
  · intro k hk
    rcases two_cases hk with rfl | rfl
    · simp; omega
    · simp; omega
  · simp
  · intro k hk
    rcases two_cases hk with rfl | rfl
    · simp
    · simp; omega
  · exact ⟨fun i _ => .inl rfl, fun i j _ _ _ => .inl (by omega)⟩
/-! what a script leaves -/
theorem does_p (x : Ln) (n : Nat) : ∀ k, (doesP x n).P k ≤ x.P k + 1 := by
  have hs : ∀ (y : Ln) (to : Nat) l, (sendsP y to l).P = y.P := fun y to l => by unfold sendsP; split <;> rfl
  have hc : ∀ (a b : Nat) (tw : Bool), (comesP x a b tw).P = x.P := fun a b tw => by
    unfold comesP
    split
    · rfl
    · unfold takesP
      rw [hs]
      cases tw <;> rfl
  intro k
  unfold doesP
  split
  · unfold putsP
    rw [hs]
    show upd x.P _ _ k ≤ _
    by_cases e : k = n % 2
    · subst e; rw [upd_at]; omega
    · rw [upd_ne _ _ e]; omega
  · split
    · rw [hc]; omega
    · split
      · rw [hc]; omega
      · split
        · show x.P k ≤ _; omega
        · unfold ticksP; rw [hs]; omega
theorem sends_u (y : Ln) (to : Nat) (l : List (List UInt8)) (hl : l.length ≤ 64) (k m : Nat) (hm : 400 ≤ m) (h : ∀ k, (y.U k).length ≤ m) : ((sendsP y to l).U k).length ≤ m := by
  unfold sendsP
  split
  · show (upd y.U _ _ k).length ≤ _
    by_cases e : k = to
    · subst e; rw [upd_at, List.length_append]; omega
    · rw [upd_ne _ _ e]; exact h k
  · exact h k
theorem put_len1 (l : Lk) (n : Note) : (putP l n).2.1.length ≤ 64 := by
  unfold putP
  split
  · simp
  · split
    · simp
    · split <;> simp
theorem does_u (x : Ln) (n : Nat) (m : Nat) (hm : 400 ≤ m) (h : ∀ k, (x.U k).length ≤ m) : ∀ k, ((doesP x n).U k).length ≤ m := by
  have hless : ∀ a b k, ((lessP x a b).U k).length ≤ m := fun a b k => by
    show (upd x.U _ _ k).length ≤ _
    by_cases e : k = a
    · subst e; rw [upd_at, List.length_append, List.length_take, List.length_drop]
      have := h k; omega
    · rw [upd_ne _ _ e]; exact h k
  have hc : ∀ (a b : Nat) (tw : Bool) k, ((comesP x a b tw).U k).length ≤ m := fun a b tw k => by
    unfold comesP
    split
    · exact h k
    · unfold takesP
      refine sends_u _ _ _ (by have := (take_out ((if tw then x else lessP x a (b % (x.U a).length)).E a) ((x.U a).getD (b % (x.U a).length) [])).2.1; omega) k m hm (fun k => ?_)
      cases tw
      · exact hless _ _ k
      · exact h k
  intro k
  unfold doesP
  split
  · unfold putsP
    exact sends_u _ _ _ (put_len1 _ _) k m hm h
  · split
    · exact hc _ _ _ k
    · split
      · exact hc _ _ _ k
      · split
        · show (upd x.U _ _ k).length ≤ _
          by_cases e : k = n % 2
          · subst e; rw [upd_at, List.length_drop]; have := h (n % 2); omega
          · rw [upd_ne _ _ e]; exact h k
        · unfold ticksP
          exact sends_u _ _ _ (by have := ticks_len (x.E (n % 2)); omega) k m hm h
theorem and20 (x : Int) (K : V → Res) : A.bin .and (.int .i64 x) (.int .i64 1048575) K = K (.int .i64 (low 1048576 x : Nat)) := bin_andN 20 1048575 rfl (by decide) K
theorem order_loop {ep : Nat → Nat} (ks : List Int) {lid : Nat} {ii : Nat → Nat} (hlen : ks.length ≤ 9223372036854775807) : ∀ (f i : Nat) (ts : Nat → Nat) (x : Ln) (st : St), i ≤ 250 → 250 < f + i → i ≤ ks.length → Good ep x → LnAt st lid ii ts x → (∀ k, x.P k ≤ i) → (∀ k, (x.U k).length ≤ 400) →
    ∃ st', g4bz3e f (.lst (intsV ks) 0) (.ptr lid 0) (.int .i64 (i : Nat)) st = some (.ret (.bool true), st') := by
  intro f
  induction f with
  | zero => intro i ts x st hi hf; omega
  | succ f ih =>
    intro i ts x st hi hf hik g h hp hu
    unfold g4bz3e
    by_cases h1 : i < ks.length
    · by_cases h2 : i < 250
      · have hl := low_lt 1048576 ks[i] (by omega)
        obtain ⟨st1, ts1, r1, r2, r3⟩ := does_s g (fun k => by have := hp k; omega) (fun k => by have := hu k; omega) (low 1048576 ks[i]) hl h
        have e4 : ∀ K, A.bin .add (.int .i64 (i : Nat)) (.int .i64 1) K = K (.int .i64 ((i + 1 : Nat) : Int)) := fun K => bin_inc (by omega) K
        simp only [lenL_lst, intsV_len, bin_lss, show ((i : Int) < (ks.length : Int)) from by omega, decide_true, guard_tt, show ((i : Int) < 250) from by omega, cond_true]
        unfold g4bzdl
        simp only [iaddr_ints _ h1, load_l1', and20, er1_ptr, er1_int, r1, ret_ret, right_s r3 r2, un_not, Bool.not_true, cond_false, e4]
        exact ih (i + 1) ts1 _ st1 (by omega) (by omega) (by omega) r3 r2 (fun k => by have := does_p x (low 1048576 ks[i]) k; have := hp k; omega) (does_u x _ 400 (by omega) hu)
      · simp only [lenL_lst, intsV_len, bin_lss, show ((i : Int) < (ks.length : Int)) from by omega, decide_true, guard_tt, show ¬ ((i : Int) < 250) from by omega, decide_false, cond_false, s11_val, ret_ret, er1_bool]
        exact ⟨_, rfl⟩
    · simp only [lenL_lst, intsV_len, bin_lss, show ¬ ((i : Int) < (ks.length : Int)) from by omega, decide_false, guard_ft, s11_val, ret_ret, er1_bool]
      exact ⟨_, rfl⟩
theorem linkOrder_law (epochs : Int) (ks : List Int) (hlen : ks.length ≤ 9223372036854775807) (st : St) : ∃ st', s4 [.int .i64 epochs, .lst (intsV ks) 0] st = some (.ret (.bool true), st') := by
  rw [s4_eq]
  unfold f4
  obtain ⟨ep, st1, lid, ii, ts, q1, q2, q3⟩ := begun_s epochs st
  obtain ⟨l0, l1, l2, l3, l4⟩ := q2.o.ld (show 0 < 2 by omega)
  simp only [er1_int, q1, ret_ret, nilc_ptr, faddr_ptr, Nat.zero_add, l4, un_not, Bool.not_true, cond_false]
  unfold g4b11101
  exact order_loop ks hlen big 0 ts _ st1 (by omega) (lt_big (by omega)) (by omega) q3 q2 (fun k => by simp [beginP]) (fun k => by simp [beginP])
theorem linkOrder_row {W : World} {v0 v1 : Value} {x0 x1 : V} {n0 n1 : Nat}
    (r0 : Rs (E0 W) [x0] [v0]) (s0 : Sh Try.prog n0 3 x0.cells) (f0 : fit Try.prog 3 x0)
    (r1 : Rs (E0 W) [x1] [v1]) (s1 : Sh Try.prog n1 33 x1.cells) (f1 : fit Try.prog 33 x1) :
    Calls Try.prog 4 #[v0, v1] W fun e w' => e = .returned (.bool true) ∧ Below W.heap.size W w' := by
  obtain ⟨k, rfl, _⟩ := in_int s0 f0 Try.underlying3
  obtain ⟨ks, rfl, h1, _⟩ := in_ints s1 f1 Try.underlying33 Try.underlying3
  obtain ⟨st', hs⟩ := linkOrder_law k ks h1 St0
  exact bool_row sim4 W _ _ _ hs (Rs.cons r0 r1)
end Go.Ab

/- sinewlaw15.LinkAll: what a round brings. -/
namespace Go.Ab
open Go.Proofs Go.RowKit Go.Oct
set_option linter.unusedVariables false
set_option linter.unusedSimpArgs false
set_option maxRecDepth 100000
def wt (s : List UInt8) : Nat := if (oneN s).kind = 1 then 2 else 1
def wts (l : List (List UInt8)) : Nat := (l.map wt).sum
theorem wts_app (a b : List (List UInt8)) : wts (a ++ b) = wts a + wts b := by simp [wts]
theorem wts_cons (a : List UInt8) (b : List (List UInt8)) : wts (a :: b) = wt a + wts b := by simp [wts]
theorem wt_pos (s : List UInt8) : 1 ≤ wt s := by unfold wt; split <;> omega
theorem wts_len (l : List (List UInt8)) : l.length ≤ wts l := by
  induction l with
  | nil => exact Nat.le_refl _
  | cons a l ih => have := wt_pos a; rw [wts_cons, List.length_cons]; omega
theorem wt_pk2 {l : Lk} (h : LkOK l) : wt (pkt (pk2 l)) = 1 := by
  unfold wt; rw [(rd_pk2 h).2]; rfl
theorem wt_full {ep : Nat → Nat} {k : Nat} {x : Ln} {o : Lk} {j m : Nat} (h : Full ep k x o j m) (hm : m ≤ 1000) : wt (pkt (pk1 o j)) = 2 := by
  obtain ⟨p1, p2, p3, p4⟩ := pay_ok 5 m (by omega) (by omega) (by omega)
  unfold wt; rw [(rd_pk1 h.b.ok h.jl h.q p2 p3 (by omega)).2]; rfl
/-- A packet of this round. -/
def Cur (ep : Nat → Nat) (k : Nat) (x : Ln) (s : List UInt8) : Prop := (∃ o, Bare ep k x o ∧ o.other = ep k ∧ s = pkt (pk2 o)) ∨ ∃ o j m, Full ep k x o j m ∧ s = pkt (pk1 o j)
theorem Cur.old {ep : Nat → Nat} {k : Nat} {x : Ln} {s : List UInt8} (h : Cur ep k x s) : Old ep k x s := by
  rcases h with ⟨o, a, _, b⟩ | h
  · exact .inl ⟨o, a, b⟩
  · exact .inr h
theorem Cur.mono {ep : Nat → Nat} {k : Nat} {x y : Ln} {s : List UInt8} (h : Cur ep k x s) (hc : x.C (1 - k) ≤ y.C (1 - k)) (hp : x.P (1 - k) ≤ y.P (1 - k)) : Cur ep k y s := by
  rcases h with ⟨o, h, a, e⟩ | ⟨o, j, m, h, e⟩
  · exact .inl ⟨o, h.mono hc, a, e⟩
  · exact .inr ⟨o, j, m, h.mono hc hp, e⟩
theorem Good.fresh {ep : Nat → Nat} {x : Ln} (h : Good ep x) {k : Nat} (hk : k < 2) : freshP (x.E k) (ep (1 - k)) = ⟨ep k, ep (1 - k), (x.E k).first, x.C k + 1, (x.E k).q⟩ ∧ max (x.E k).other 1 ≤ ep (1 - k) := by
  have he := h.e k hk
  have ho := h.o k hk
  have hw := h.w k hk
  have e1' := h.ep1 (1 - k)
  refine ⟨?_, by rcases ho with ⟨a, _⟩ | a <;> omega⟩
  unfold freshP
  rcases ho with ⟨a, b⟩ | a
  · rw [if_pos (by omega), if_neg (by omega), he, b]
  · rw [if_neg (by omega)]
    generalize x.E k = l at *
    obtain ⟨l1, l2, l3, l4, l5⟩ := l
    simp only at *
    subst he a hw; rfl
/-- What a bare packet does. -/
theorem Good.took_b {ep : Nat → Nat} {x : Ln} (h : Good ep x) {k : Nat} (hk : k < 2) {o : Lk} (hb : Bare ep k x o) (ho : o.other = ep k) :
    (takeP (x.E k) (pkt (pk2 o))).1.other = ep (1 - k) ∧ (x.E k).first ≤ (takeP (x.E k) (pkt (pk2 o))).1.first ∧ (takeP (x.E k) (pkt (pk2 o))).2.2.1 = [] ∧ min o.want (x.P k + 1) ≤ (takeP (x.E k) (pkt (pk2 o))).1.first := by
  obtain ⟨fr, mx⟩ := h.fresh hk
  have ht := take_bare (l := x.E k) hb.ok (by rw [hb.e]; exact mx)
  have hql := h.qlen hk
  rw [hb.e, h.e k hk, if_neg (by rw [ho]; simp), fr] at ht
  rw [ht]
  refine ⟨rfl, ?_, rfl, ?_⟩ <;> simp only [ackP] <;> omega
/-- What a full packet does. -/
theorem Good.took_f {ep : Nat → Nat} {x : Ln} (h : Good ep x) {k : Nat} (hk : k < 2) {o : Lk} {j m : Nat} (hf : Full ep k x o j m) :
    (takeP (x.E k) (pkt (pk1 o j))).1.other = ep (1 - k) ∧ (x.E k).first ≤ (takeP (x.E k) (pkt (pk1 o j))).1.first ∧ (takeP (x.E k) (pkt (pk1 o j))).2.2.1 = [pkt (pk2 (takeP (x.E k) (pkt (pk1 o j))).1)] ∧ (o.other = ep k → o.first + j ≤ (x.E k).want → o.first + j < (takeP (x.E k) (pkt (pk1 o j))).1.want) := by
  obtain ⟨fr, mx⟩ := h.fresh hk
  have hb := hf.b
  have hpm : m ≤ 1000 := by have := hf.p; have := h.p (1 - k) (two_sub hk).2; omega
  obtain ⟨p1, p2, p3, p4⟩ := pay_ok 5 m (by omega) (by omega) (by omega)
  have ht := take_full (l := x.E k) hb.ok hf.jl hf.q p2 p3 (by omega) (by rw [hb.e]; exact mx)
  have hw := h.w k hk
  rw [hb.e, h.e k hk, fr] at ht
  by_cases hoo : o.other = ep k
  · rw [if_neg (by rw [hoo]; simp)] at ht
    by_cases hs : o.first + j = x.C k + 1
    · rw [if_pos hs] at ht
      rw [ht]
      refine ⟨rfl, ?_, rfl, fun _ _ => ?_⟩ <;> simp only [ackP, nextP] <;> omega
    · rw [if_neg hs] at ht
      rw [ht]
      refine ⟨rfl, ?_, rfl, fun _ _ => ?_⟩ <;> simp only [ackP] <;> omega
  · rw [if_pos hoo] at ht
    rw [ht]
    exact ⟨rfl, Nat.le_refl _, rfl, fun a => absurd a hoo⟩
/-- What comes, and stays not. -/
theorem comes_eq {x : Ln} {k : Nat} (hk : k < 2) (at_ : Nat) (h0 : x.U k ≠ []) (hl : (x.U (1 - k)).length < 300) :
    ∃ s a b, x.U k = a ++ s :: b ∧ comesP x k at_ false = ⟨upd x.E k (takeP (x.E k) s).1, upd (upd x.U k (a ++ b)) (1 - k) (x.U (1 - k) ++ (takeP (x.E k) s).2.2.1), x.P, upd x.C k (x.C k + (takeP (x.E k) s).2.1.length)⟩ := by
  have hpos : 0 < (x.U k).length := List.length_pos_iff.2 h0
  have hlt := Nat.mod_lt at_ hpos
  refine ⟨(x.U k)[at_ % (x.U k).length], (x.U k).take (at_ % (x.U k).length), (x.U k).drop (at_ % (x.U k).length + 1), by rw [← List.drop_eq_getElem_cons hlt, List.take_append_drop], ?_⟩
  have hget : (x.U k).getD (at_ % (x.U k).length) [] = (x.U k)[at_ % (x.U k).length] := by rw [List.getD_eq_getElem?_getD, List.getElem?_eq_getElem hlt]; rfl
  have hne : 1 - k ≠ k := by omega
  unfold comesP
  rw [if_neg (by omega), hget]
  simp only [Bool.false_eq_true, if_false, takesP, tookP, lessP, sendsP, upd_ne _ _ hne, if_pos hl]
/-- The round's state: f: where the ends' queues began, q: whether anything waited, n: whether the other end was known. -/
structure Rd (ep : Nat → Nat) (f : Nat → Nat) (q n : Nat → Prop) (x : Ln) : Prop where
  g : Good ep x
  cur : ∀ k, k < 2 → ∀ s ∈ x.U k, Cur ep k x s
  pa : ∀ a b, a + b = 1 → q a → (x.E a).other ≠ 0 ∨ (∃ s ∈ x.U b, ∃ o j m, Full ep b x o j m ∧ s = pkt (pk1 o j)) ∨ x.U a ≠ []
  pb : ∀ a b, a + b = 1 → q a → n a → f a < (x.E a).first ∨ (∃ s ∈ x.U b, ∃ o j m, Full ep b x o j m ∧ s = pkt (pk1 o j) ∧ o.other = ep b ∧ o.first + j = f a) ∨ (∃ s ∈ x.U a, ∃ o, Bare ep a x o ∧ o.other = ep a ∧ s = pkt (pk2 o) ∧ f a < o.want)
  ff : ∀ k, k < 2 → f k ≤ (x.E k).first
  nn : ∀ k, k < 2 → n k → (x.E k).other ≠ 0
  fp : ∀ k, k < 2 → q k → f k ≤ x.P k
def wtL (x : Ln) : Nat := wts (x.U 0) + wts (x.U 1)
theorem wtL_sym (x : Ln) {k : Nat} (hk : k < 2) : wtL x = wts (x.U k) + wts (x.U (1 - k)) := by
  rcases two_cases hk with rfl | rfl
  · rfl
  · exact Nat.add_comm _ _
theorem comes_nil {x : Ln} {k : Nat} (at_ : Nat) (tw : Bool) (h : x.U k = []) : comesP x k at_ tw = x := by
  unfold comesP; rw [if_pos (by rw [h]; rfl)]
theorem Rd.step {ep : Nat → Nat} {f : Nat → Nat} {q n : Nat → Prop} {x : Ln} (h : Rd ep f q n x) {k : Nat} (hk : k < 2) (at_ : Nat) (hw : wtL x ≤ 256) :
    Rd ep f q n (comesP x k at_ false) ∧ wtL (comesP x k at_ false) ≤ wtL x ∧ (x.U k ≠ [] → wtL (comesP x k at_ false) + 1 ≤ wtL x) := by
  by_cases h0 : x.U k = []
  · rw [comes_nil _ _ h0]
    exact ⟨h, Nat.le_refl _, fun g => absurd h0 g⟩
  have hk' := (two_sub hk).2
  have hkk := (two_sub hk).1
  have hne : 1 - k ≠ k := by omega
  have hwk := wtL_sym x hk
  have hl : (x.U (1 - k)).length < 300 := by have := wts_len (x.U (1 - k)); omega
  have hG := h.g.comes hk at_ false
  obtain ⟨s, a, b, hU, hY⟩ := comes_eq hk at_ h0 hl
  have hs : s ∈ x.U k := by rw [hU]; simp
  have hcur := h.cur k hk s hs
  -- what the packet does
  have hT : (takeP (x.E k) s).1.other = ep (1 - k) ∧ (x.E k).first ≤ (takeP (x.E k) s).1.first ∧ wts (takeP (x.E k) s).2.2.1 + 1 ≤ wt s ∧ (∀ z ∈ (takeP (x.E k) s).2.2.1, z = pkt (pk2 (takeP (x.E k) s).1)) ∧ (∀ o, Bare ep k x o → o.other = ep k → s = pkt (pk2 o) → min o.want (x.P k + 1) ≤ (takeP (x.E k) s).1.first) ∧ (∀ o j m, Full ep k x o j m → s = pkt (pk1 o j) → (takeP (x.E k) s).2.2.1 = [pkt (pk2 (takeP (x.E k) s).1)] ∧ (o.other = ep k → o.first + j ≤ (x.E k).want → o.first + j < (takeP (x.E k) s).1.want)) := by
    have hbs : ∀ o, Bare ep k x o → o.other = ep k → s = pkt (pk2 o) → min o.want (x.P k + 1) ≤ (takeP (x.E k) s).1.first := fun o ho ho' e => by rw [e]; exact (h.g.took_b hk ho ho').2.2.2
    have hfs : ∀ o j m, Full ep k x o j m → s = pkt (pk1 o j) → (takeP (x.E k) s).2.2.1 = [pkt (pk2 (takeP (x.E k) s).1)] ∧ (o.other = ep k → o.first + j ≤ (x.E k).want → o.first + j < (takeP (x.E k) s).1.want) := fun o j m ho e => by rw [e]; exact (h.g.took_f hk ho).2.2
    refine ⟨?_, ?_, ?_, ?_, hbs, hfs⟩
    all_goals rcases hcur with ⟨o, c1, c2, c3⟩ | ⟨o, j, m, c1, c3⟩
    · rw [c3]; exact (h.g.took_b hk c1 c2).1
    · rw [c3]; exact (h.g.took_f hk c1).1
    · rw [c3]; exact (h.g.took_b hk c1 c2).2.1
    · rw [c3]; exact (h.g.took_f hk c1).2.1
    · have := wt_pos s
      rw [c3] at this ⊢; rw [(h.g.took_b hk c1 c2).2.2.1]; simp [wts]; exact this
    · have hpm : m ≤ 1000 := by have := c1.p; have := h.g.p (1 - k) hk'; omega
      have ok : LkOK (takeP (x.E k) s).1 := by
        have := hG.ok hk
        rw [hY] at this
        simp only [upd_at] at this
        exact this
      have e := (hfs o j m c1 c3).1
      rw [e, c3, wt_full c1 hpm, wts_cons, ← c3, wt_pk2 ok]; simp [wts]
    · intro z hz; rw [c3, (h.g.took_b hk c1 c2).2.2.1] at hz; cases hz
    · intro z hz; rw [(hfs o j m c1 c3).1] at hz; exact List.mem_singleton.1 hz
  obtain ⟨t1, t2, t3, t4, t5, t6⟩ := hT
  have hgw := h.g.w k hk
  have hgf := h.g.f2 (1 - k) hk'
  rw [hkk] at hgf
  have e1' := h.g.ep1 (1 - k)
  have e1 := h.g.ep1 k
  -- the new state
  have yk : (comesP x k at_ false).E k = (takeP (x.E k) s).1 := by rw [hY]; exact upd_at _ _ _
  have yk' : (comesP x k at_ false).E (1 - k) = x.E (1 - k) := by rw [hY]; exact upd_ne _ _ hne
  have yu : (comesP x k at_ false).U k = a ++ b := by rw [hY]; show upd _ _ _ k = _; rw [upd_ne _ _ (Ne.symm hne), upd_at]
  have yu' : (comesP x k at_ false).U (1 - k) = x.U (1 - k) ++ (takeP (x.E k) s).2.2.1 := by rw [hY]; exact upd_at _ _ _
  have yp : (comesP x k at_ false).P = x.P := by rw [hY]
  have yc : ∀ i, x.C i ≤ (comesP x k at_ false).C i := fun i => by
    rw [hY]
    show _ ≤ upd x.C k _ i
    by_cases e : i = k
    · subst e; rw [upd_at]; omega
    · rw [upd_ne _ _ e]; omega
  clear hY
  generalize comesP x k at_ false = y at *
  have mb : ∀ {i o}, Bare ep i x o → Bare ep i y o := fun ho => ho.mono (yc _)
  have mf : ∀ {i o j m}, Full ep i x o j m → Full ep i y o j m := fun ho => ho.mono (yc _) (by rw [yp]; exact Nat.le_refl _)
  have hin : ∀ s', s' ∈ x.U k → s' = s ∨ s' ∈ y.U k := fun s' hs' => by
    rw [hU] at hs'; rw [yu]; simp only [List.mem_append, List.mem_cons] at hs' ⊢
    rcases hs' with g | g | g
    · exact .inr (.inl g)
    · exact .inl g
    · exact .inr (.inr g)
  have hout : ∀ s', s' ∈ y.U k → s' ∈ x.U k := fun s' hs' => by
    rw [yu] at hs'; rw [hU]; simp only [List.mem_append, List.mem_cons] at hs' ⊢
    rcases hs' with g | g
    · exact .inl g
    · exact .inr (.inr g)
  have hup : ∀ s', s' ∈ x.U (1 - k) → s' ∈ y.U (1 - k) := fun s' hs' => by rw [yu']; exact List.mem_append_left _ hs'
  have hW : wtL y + 1 ≤ wtL x := by
    rw [wtL_sym y hk, hwk, yu, yu', hU, wts_app, wts_app, wts_app, wts_cons]; omega
  refine ⟨⟨hG, ?_, ?_, ?_, ?_, ?_, ?_⟩, by omega, fun _ => hW⟩
  · intro i hi s' hs'
    by_cases e : i = k
    · subst e
      exact (h.cur i hi s' (hout _ hs')).mono (yc _) (by rw [yp]; exact Nat.le_refl _)
    · have e' : i = 1 - k := by omega
      subst e'
      rw [yu'] at hs'
      rcases List.mem_append.1 hs' with g | g
      · exact (h.cur _ hi s' g).mono (yc _) (by rw [yp]; exact Nat.le_refl _)
      · have := hG.bare hk
        rw [yk] at this
        exact .inl ⟨_, this, t1, t4 _ g⟩
  · intro i i' hii hq
    by_cases e : i = k
    · subst e
      left; rw [yk, t1]; omega
    · have e' : i = 1 - k := by omega
      have e'' : i' = k := by omega
      subst e''; subst e'
      rcases h.pa _ _ hii hq with g | ⟨s', g1, o, j, m, g2, g3⟩ | g
      · left; rw [yk']; exact g
      · rcases hin _ g1 with g | g
        · subst g
          right; right
          rw [yu', (t6 _ _ _ g2 g3).1]; simp
        · exact .inr (.inl ⟨s', g, o, j, m, mf g2, g3⟩)
      · right; right
        rw [yu']; simp [g]
  · intro i i' hii hq hn
    by_cases e : i = k
    · subst e
      have e'' : i' = 1 - i := by omega
      subst e''
      rcases h.pb _ _ hii hq hn with g | ⟨s', g1, o, j, m, g2, g3⟩ | ⟨s', g1, o, g2, g3, g4, g5⟩
      · left; rw [yk]; omega
      · exact .inr (.inl ⟨s', hup _ g1, o, j, m, mf g2, g3⟩)
      · rcases hin _ g1 with g | g
        · subst g
          left
          have := t5 _ g2 g3 g4
          have := h.fp i hk hq
          rw [yk]; omega
        · exact .inr (.inr ⟨s', g, o, mb g2, g3, g4, g5⟩)
    · have e' : i = 1 - k := by omega
      have e'' : i' = k := by omega
      subst e''; subst e'
      rcases h.pb _ _ hii hq hn with g | ⟨s', g1, o, j, m, g2, g3, g4, g5⟩ | ⟨s', g1, o, g2, g3, g4, g5⟩
      · left; rw [yk']; exact g
      · rcases hin _ g1 with g | g
        · subst g
          have hf1 := h.ff _ hk'
          obtain ⟨u1, u2⟩ := t6 _ _ _ g2 g3
          have u3 := u2 g4 (by omega)
          have hb := hG.bare hk
          rw [yk] at hb
          exact .inr (.inr ⟨_, by rw [yu', u1]; simp, _, hb, t1, rfl, by omega⟩)
        · exact .inr (.inl ⟨s', g, o, j, m, mf g2, g3, g4, g5⟩)
      · exact .inr (.inr ⟨s', hup _ g1, o, mb g2, g3, g4, g5⟩)
  · intro i hi
    by_cases e : i = k
    · subst e; rw [yk]; have := h.ff i hi; omega
    · have e' : i = 1 - k := by omega
      subst e'; rw [yk']; exact h.ff _ hi
  · intro i hi hn
    by_cases e : i = k
    · subst e; rw [yk, t1]; omega
    · have e' : i = 1 - k := by omega
      subst e'; rw [yk']; exact h.nn _ hi hn
  · intro i hi hq; rw [yp]; exact h.fp i hi hq
end Go.Ab

/- sinewlaw15.LinkAll: rounds. -/
namespace Go.Ab
open Go.Proofs Go.RowKit Go.Oct
set_option linter.unusedVariables false
set_option linter.unusedSimpArgs false
set_option maxRecDepth 100000
def clrP (x : Ln) (k : Nat) : Ln := { x with U := upd x.U k [] }
theorem Good.clr {ep : Nat → Nat} {x : Ln} (h : Good ep x) (k : Nat) : Good ep (clrP x k) := h.less _ (fun s hs => by cases hs)
theorem begin_u (x : Ln) : ticksP (ticksP (clrP (clrP x 0) 1) 0) 1 = ⟨x.E, upd (upd (upd (upd x.U 0 []) 1 []) 1 (tickP (x.E 0))) 0 (tickP (x.E 1)), x.P, x.C⟩ := by
  simp [ticksP, clrP, sendsP, upd]
theorem begin_u0 (x : Ln) : (ticksP (ticksP (clrP (clrP x 0) 1) 0) 1).U 0 = tickP (x.E 1) := by rw [begin_u]; simp [upd]
theorem begin_u1 (x : Ln) : (ticksP (ticksP (clrP (clrP x 0) 1) 0) 1).U 1 = tickP (x.E 0) := by rw [begin_u]; simp [upd]
theorem wts_tick {ep : Nat → Nat} {x : Ln} (g : Good ep x) {k : Nat} (hk : k < 2) : wts (tickP (x.E k)) ≤ 128 := by
  have h2 : ∀ s, wt s ≤ 2 := fun s => by unfold wt; split <;> omega
  have : ∀ l : List (List UInt8), wts l ≤ 2 * l.length := fun l => by
    induction l with
    | nil => exact Nat.le_refl _
    | cons a l ih => have := h2 a; rw [wts_cons, List.length_cons]; omega
  have h3 := this (tickP (x.E k))
  have h4 := ticks_len (x.E k)
  omega
theorem Rd.start {ep : Nat → Nat} {x : Ln} (g : Good ep x) : Rd ep (fun k => (x.E k).first) (fun k => (x.E k).q ≠ []) (fun k => (x.E k).other ≠ 0) (ticksP (ticksP (clrP (clrP x 0) 1) 0) 1) ∧ wtL (ticksP (ticksP (clrP (clrP x 0) 1) 0) 1) ≤ 256 := by
  have hG := ((((g.clr 0).clr 1).ticks (show 0 < 2 by omega)).ticks (show 1 < 2 by omega))
  have u0 := begin_u0 x
  have u1 := begin_u1 x
  have hE : (ticksP (ticksP (clrP (clrP x 0) 1) 0) 1).E = x.E := by rw [begin_u]
  have hP : (ticksP (ticksP (clrP (clrP x 0) 1) 0) 1).P = x.P := by rw [begin_u]
  generalize ticksP (ticksP (clrP (clrP x 0) 1) 0) 1 = y at *
  have un : ∀ a b, a + b = 1 → y.U b = tickP (y.E a) := fun a b h => by
    have : a = 0 ∨ a = 1 := by omega
    rcases this with rfl | rfl
    · have : b = 1 := by omega
      subst this; rw [u1, hE]
    · have : b = 0 := by omega
      subst this; rw [u0, hE]
  have hd : ∀ a b, a + b = 1 → (x.E a).q ≠ [] → ∃ s ∈ y.U b, ∃ m, Full ep b y (y.E a) 0 m ∧ s = pkt (pk1 (y.E a) 0) := fun a b h hq => by
    have hpos : 0 < (y.E a).q.length := by rw [hE]; exact List.length_pos_iff.2 hq
    have hb : b = 1 - a := by omega
    refine ⟨pkt (pk1 (y.E a) 0), ?_, _, by rw [hb]; exact hG.full (by omega) hpos, rfl⟩
    rw [un a b h]
    unfold tickP
    exact List.mem_map.2 ⟨0, List.mem_range.2 (by omega), rfl⟩
  refine ⟨⟨hG, ?_, ?_, ?_, ?_, ?_, ?_⟩, ?_⟩
  · intro k hk s hs
    rw [un (1 - k) k (by omega)] at hs
    unfold tickP at hs
    obtain ⟨j, hj, rfl⟩ := List.mem_map.1 hs
    have hj := List.mem_range.1 hj
    have := hG.full (two_sub hk).2 (j := j) (by omega)
    rw [(two_sub hk).1] at this
    exact .inr ⟨_, _, _, this, rfl⟩
  · intro a b hab hq
    obtain ⟨s, h1, m, h2, h3⟩ := hd a b hab hq
    exact .inr (.inl ⟨s, h1, _, _, _, h2, h3⟩)
  · intro a b hab hq hn
    obtain ⟨s, h1, m, h2, h3⟩ := hd a b hab hq
    have ho := hG.o a (by omega)
    have hb : 1 - a = b := by omega
    rw [hE] at ho h2 h3
    refine .inr (.inl ⟨s, h1, _, _, _, h2, h3, ?_, rfl⟩)
    rcases ho with ⟨o1, _⟩ | o2
    · exact absurd o1 hn
    · rw [hb] at o2; exact o2
  · intro k hk; rw [hE]; exact Nat.le_refl _
  · intro k hk hn; rw [hE]; exact hn
  · intro k hk hq
    have := g.qlen hk
    have : 0 < (x.E k).q.length := List.length_pos_iff.2 hq
    rw [hP]; omega
  · unfold wtL
    rw [u0, u1]
    have a := wts_tick g (show 0 < 2 by omega)
    have b := wts_tick g (show 1 < 2 by omega)
    omega
theorem comes_p (x : Ln) (a b : Nat) (tw : Bool) : (comesP x a b tw).P = x.P := by
  have hs : ∀ (y : Ln) (to : Nat) l, (sendsP y to l).P = y.P := fun y to l => by unfold sendsP; split <;> rfl
  unfold comesP
  split
  · rfl
  · unfold takesP
    rw [hs]
    cases tw <;> rfl
/-- The invariant of the rounds. -/
structure Rnd (ep : Nat → Nat) (r : Nat) (x : Ln) : Prop where
  g : Good ep x
  i : ∀ k, k < 2 → (x.E k).q ≠ [] → r = 0 ∨ ((x.E k).other ≠ 0 ∧ r ≤ (x.E k).first)
  p : ∀ k, k < 2 → x.P k ≤ 150
theorem Rnd.next {ep : Nat → Nat} {r : Nat} {x z : Ln} (h : Rnd ep r x) (hz : Rd ep (fun k => (x.E k).first) (fun k => (x.E k).q ≠ []) (fun k => (x.E k).other ≠ 0) z) (h0 : z.U 0 = []) (h1 : z.U 1 = []) (hp : z.P = x.P) : Rnd ep (r + 1) z := by
  have hu : ∀ k, k < 2 → z.U k = [] := fun k hk => by rcases two_cases hk with rfl | rfl <;> assumption
  refine ⟨hz.g, fun k hk hq => .inr ?_, fun k hk => by rw [hp]; exact h.p k hk⟩
  have l1 := hz.g.qlen hk
  have l2 := h.g.qlen hk
  have l3 := hz.ff k hk
  have l4 : 0 < (z.E k).q.length := List.length_pos_iff.2 hq
  rw [hp] at l1
  have hx : (x.E k).q ≠ [] := by
    intro e
    rw [e, List.length_nil] at l2
    omega
  have f1 := hz.g.f1 k hk
  have f2 := h.g.f1 k hk
  refine ⟨?_, ?_⟩
  · rcases hz.pa k (1 - k) (by omega) hx with g | ⟨s, g, _⟩ | g
    · exact g
    · rw [hu _ (two_sub hk).2] at g; cases g
    · exact absurd (hu k hk) g
  · rcases h.i k hk hx with g | ⟨g1, g2⟩
    · omega
    · rcases hz.pb k (1 - k) (by omega) hx g1 with g | ⟨s, g, _⟩ | ⟨s, g, _⟩
      · omega
      · rw [hu _ (two_sub hk).2] at g; cases g
      · rw [hu k hk] at g; cases g
theorem Rnd.done {ep : Nat → Nat} {x : Ln} (h : Rnd ep 200 x) : ∀ k, k < 2 → (x.E k).q = [] := by
  intro k hk
  by_cases hq : (x.E k).q = []
  · exact hq
  · have l2 := h.g.qlen hk
    have l4 : 0 < (x.E k).q.length := List.length_pos_iff.2 hq
    have := h.p k hk
    rcases h.i k hk hq with g | ⟨_, g⟩ <;> omega
theorem all_come {ep : Nat → Nat} {x : Ln} (h : Good ep x) (hq : ∀ k, k < 2 → (x.E k).q = []) : x.C 0 = x.P 1 ∧ x.C 1 = x.P 0 := by
  have a1 := h.qlen (show 0 < 2 by omega)
  have a2 := h.qlen (show 1 < 2 by omega)
  rw [hq 0 (by omega), List.length_nil] at a1
  rw [hq 1 (by omega), List.length_nil] at a2
  have b1 := h.f2 0 (by omega)
  have b2 := h.f2 1 (by omega)
  have c1 := h.c 0 (by omega)
  have c2 := h.c 1 (by omega)
  simp only [Nat.sub_zero, Nat.sub_self] at b1 b2 c1 c2
  omega
/-! the walk -/
theorem all_inner {ep f : Nat → Nat} {q n : Nat → Prop} (t : Int) (L : V → V → V → St → Res) {lid : Nat} {ii : Nat → Nat} (r : Nat) (hr : r ≤ 1000) : ∀ (fu i : Nat) (ts : Nat → Nat) (x : Ln) (st : St), wtL x + i ≤ 256 → 400 < fu + i → Rd ep f q n x → LnAt st lid ii ts x →
    ∃ st' ts' z, g5bz1dfy L fu (.int .i64 t) (.ptr lid 0) (.int .i64 (r : Nat)) (.int .i64 (i : Nat)) st = L (.int .i64 t) (.ptr lid 0) (.int .i64 ((r + 1 : Nat) : Int)) st' ∧ Rd ep f q n z ∧ z.U 0 = [] ∧ z.U 1 = [] ∧ z.P = x.P ∧ LnAt st' lid ii ts' z := by
  intro fu
  induction fu with
  | zero => intro i ts x st hw hf; omega
  | succ fu ih =>
    intro i ts x st hw hf hR h
    unfold g5bz1dfy
    obtain ⟨l0, l1, l2, l3, l4⟩ := h.o.ld (show 0 < 2 by omega)
    obtain ⟨m0, m1, m2, m3, m4⟩ := h.o.ld (show 1 < 2 by omega)
    have w0 := wts_len (x.U 0)
    have w1 := wts_len (x.U 1)
    have hwt : wtL x = wts (x.U 0) + wts (x.U 1) := rfl
    have d0 : ∀ id o K, A.iaddrA 2 1 (.ptr id o) (.int .i64 0) K = K (.ptr id (o + 0)) := fun id o K => iad (k := 0) (by omega) id o K
    have d1 : ∀ id o K, A.iaddrA 2 1 (.ptr id o) (.int .i64 1) K = K (.ptr id (o + 1)) := fun id o K => iad (k := 1) (by omega) id o K
    have ea : ∀ K, A.bin .add (.int .i64 ((x.U 0).length : Nat)) (.int .i64 ((x.U 1).length : Nat)) K = K (.int .i64 (((x.U 0).length + (x.U 1).length : Nat) : Int)) := fun K => bin_addN _ _ K (by omega)
    simp only [bin_lss, show ((i : Int) < 400) from by omega, decide_true, guard_tt, nilc_ptr, faddr_ptr, Nat.zero_add, d0, d1, l1, m1, lenL_lst, strsV_len, ea, bin_gtr]
    by_cases hz : (x.U 0).length + (x.U 1).length = 0
    · have e0 : x.U 0 = [] := List.eq_nil_of_length_eq_zero (by omega)
      have e1 : x.U 1 = [] := List.eq_nil_of_length_eq_zero (by omega)
      have er : ∀ K, A.bin .add (.int .i64 (r : Nat)) (.int .i64 1) K = K (.int .i64 ((r + 1 : Nat) : Int)) := fun K => bin_inc (by omega) K
      simp only [show ¬ ((0 : Int) < (((x.U 0).length + (x.U 1).length : Nat) : Int)) from by omega, decide_false, cond_false, er]
      exact ⟨st, ts, x, rfl, hR, e0, e1, rfl, h⟩
    · simp only [show ((0 : Int) < (((x.U 0).length + (x.U 1).length : Nat) : Int)) from by omega, decide_true, cond_true]
      unfold g5bz5hrt
      have n15 : ∀ K, A.bin .and (.int .i64 (i : Nat)) (.int .i64 15) K = K (.int .i64 (low 16 (i : Nat) : Nat)) := fun K => bin_andN 4 15 rfl (by decide) K
      have n7 : ∀ K, A.bin .and (.int .i64 (i : Nat)) (.int .i64 7) K = K (.int .i64 (low 8 (i : Nat) : Nat)) := fun K => bin_andN 3 7 rfl (by decide) K
      have b15 := low_lt 16 (i : Nat) (by omega)
      have b7 := low_lt 8 (i : Nat) (by omega)
      have s15 : ∀ K, A.bin .shr (.int .i64 t) (.int .i64 (low 16 (i : Nat) : Nat)) K = K (.int .i64 (t / (2 ^ low 16 (i : Nat) : Nat))) := fun K => bin_shr K (Nat.le_of_lt (Nat.lt_of_lt_of_le b15 (by decide)))
      have s7 : ∀ K, A.bin .shr (.int .i64 t) (.int .i64 (low 8 (i : Nat) : Nat)) K = K (.int .i64 (t / (2 ^ low 8 (i : Nat) : Nat))) := fun K => bin_shr K (Nat.le_of_lt (Nat.lt_of_lt_of_le b7 (by decide)))
      generalize t / (2 ^ low 16 (i : Nat) : Nat) = t0 at s15
      generalize t / (2 ^ low 8 (i : Nat) : Nat) = t1 at s7
      obtain ⟨st1, ts1, q1, q2, q3⟩ := comes_s hR.g (show 0 < 2 by omega) t0 false (by omega) h
      obtain ⟨R1, W1, W1'⟩ := hR.step (show 0 < 2 by omega) (low 65536 t0) (by omega)
      have P1 := comes_p x 0 (low 65536 t0) false
      -- the other side
      have u1 : x.U 0 = [] → (comesP x 0 (low 65536 t0) false).U 1 ≠ [] := fun e => by
        rw [comes_nil _ _ e]
        intro e'
        rw [e, e'] at hz
        exact hz rfl
      generalize comesP x 0 (low 65536 t0) false = y at *
      have v0 := wts_len (y.U 0)
      have v1 := wts_len (y.U 1)
      have hvt : wtL y = wts (y.U 0) + wts (y.U 1) := rfl
      obtain ⟨st2, ts2, p1, p2, p3⟩ := comes_s R1.g (show 1 < 2 by omega) t1 false (by omega) q2
      obtain ⟨R2, W2, W2'⟩ := R1.step (show 1 < 2 by omega) (low 65536 t1) (by omega)
      have P2 := comes_p y 1 (low 65536 t1) false
      generalize comesP y 1 (low 65536 t1) false = z at *
      have hlt : wtL z + 1 ≤ wtL x := by
        by_cases e : x.U 0 = []
        · have := W2' (u1 e); omega
        · have := W1' e; omega
      have e4 : ∀ K, A.bin .add (.int .i64 (i : Nat)) (.int .i64 1) K = K (.int .i64 ((i + 1 : Nat) : Int)) := fun K => bin_inc (by omega) K
      rw [show ((0 : Nat) : Int) = 0 from rfl] at q1
      rw [show ((1 : Nat) : Int) = 1 from rfl] at p1
      simp only [n15, s15, er1_ptr, er1_int, er1_bool, q1, ret_ret, n7, s7, p1, e4]
      obtain ⟨st', ts', w, r1, r2, r3, r4, r5, r6⟩ := ih (i + 1) ts2 z st2 (by omega) (by omega) R2 p2
      exact ⟨st', ts', w, r1, r2, r3, r4, by rw [r5, P2, P1], r6⟩
end Go.Ab
