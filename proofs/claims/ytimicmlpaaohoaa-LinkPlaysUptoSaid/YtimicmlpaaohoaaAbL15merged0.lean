import Derived.Test.YtimicmlpaaohoaaAbX15d
import Derived.Test.YtimicmlpaaohoaaAbX15e
/- sinew/link: packets. -/
namespace Go.Ab
open Go.Proofs Go.RowKit Go.Oct
set_option linter.unusedVariables false
set_option linter.unusedSimpArgs false
set_option maxRecDepth 100000
/-- A note as bytes, none if it may not be. -/
def pkt (n : Note) : List UInt8 := if packOK n = true then packB n else []
theorem pkt_s (n : Note) (hn : NoteOK n) (st : St) : s44 [noteV n] st = some (.ret (.str (pkt n)), st) := by
  rw [s44_eq]
  refine fg_of (st' := st.new (.cells (noteC n))) (v := .str (pkt n)) ?_ ((Ks.refl st).new _) rfl
  unfold f44
  have bx : ∀ K, A.box (noteV n) st K = K (.ptr st.n 0) (st.new (.cells (noteC n))) := fun K => rfl
  have hnv : (V.agg (noteC n)).er1 = noteV n := rfl
  simp only [bx, load_noteb (new_at st _), hnv, pack_s n hn, ret_ret]
  unfold pkt
  cases packOK n <;> simp [P2]
structure Lk where
  epoch : Nat
  other : Nat
  first : Nat
  want : Nat
  q : List (List UInt8)
def lkC (l : Lk) (t : Nat) : List V := [.int .i64 (l.epoch : Nat), .int .i64 (l.other : Nat), .int .i64 (l.first : Nat), .int .i64 (l.want : Nat), .lst (strsV l.q) t]
/-- Its numbers are few enough. -/
structure LkOK (l : Lk) : Prop where
  e1 : 1 ≤ l.epoch
  e2 : l.epoch ≤ 1099511627776
  o : l.other ≤ 4611686018427387903
  f : l.first ≤ 1000000000000
  w : l.want ≤ 1000000000000
  q : l.q.length ≤ 4096
def pk1 (l : Lk) (k : Nat) : Note := ⟨1, [(l.epoch : Int), (l.other : Int), ((l.first + k : Nat) : Int), (l.want : Int)], [l.q.getD k []], []⟩
def pk2 (l : Lk) : Note := ⟨2, [(l.epoch : Int), (l.other : Int), (l.want : Int)], [], []⟩
theorem pk1_ok (l : Lk) (k : Nat) : NoteOK (pk1 l k) := ⟨by simp [pk1], by simp [pk1], by simp [pk1], by simp [pk1]⟩
theorem pk2_ok (l : Lk) : NoteOK (pk2 l) := ⟨by simp [pk2], by simp [pk2], by simp [pk2], by simp [pk2]⟩
theorem lload {st : St} {id t : Nat} {l : Lk} (h : st.ob id = some (.cells (lkC l t))) : (∀ K, A.load false 1 (.ptr id 0) st K = K (.int .i64 (l.epoch : Nat)) st) ∧ (∀ K, A.load false 1 (.ptr id 1) st K = K (.int .i64 (l.other : Nat)) st) ∧ (∀ K, A.load false 1 (.ptr id 2) st K = K (.int .i64 (l.first : Nat)) st) ∧ (∀ K, A.load false 1 (.ptr id 3) st K = K (.int .i64 (l.want : Nat)) st) ∧ (∀ K, A.load false 1 (.ptr id 4) st K = K (.lst (strsV l.q) t) st) := by
  refine ⟨fun K => ?_, fun K => ?_, fun K => ?_, fun K => ?_, fun K => ?_⟩ <;> simp [h, lkC]
theorem lat_s {st : St} {id t : Nat} {l : Lk} (h : st.ob id = some (.cells (lkC l t))) (hl : LkOK l) (k : Nat) (hk : k < l.q.length) : s32 [.ptr id 0, .int .i64 (k : Nat)] st = some (.ret (.str (pkt (pk1 l k))), st) := by
  rw [s32_eq]
  refine fg_of (st' := st) (v := .str (pkt (pk1 l k))) ?_ (Ks.refl st) rfl
  unfold f32
  obtain ⟨l0, l1, l2, l3, l4⟩ := lload h
  have hq := hl.q
  have hf := hl.f
  have ea : ∀ K, A.bin .add (.int .i64 (l.first : Nat)) (.int .i64 (k : Nat)) K = K (.int .i64 ((l.first + k : Nat) : Int)) := fun K => bin_addN _ _ K (by omega)
  have b4 : ∀ (a b c d : Int) K, A.bslice 1 (.int .i64 0) 4 [(0, .int .i64 a), (1, .int .i64 b), (2, .int .i64 c), (3, .int .i64 d)] K = K (.lst (intsV [a, b, c, d]) 2) := fun a b c d K => rfl
  have b1 : ∀ (s : List UInt8) K, A.bslice 1 (.str []) 1 [(0, .str s)] K = K (.lst (strsV [s]) 2) := fun s K => rfl
  have bu : ∀ (xs : List Int) (ss : List (List UInt8)) K, A.build [.int .i64 0, .lst [] 1, .lst [] 1, .lst [] 1] [(0, 1, .int .i64 1), (1, 1, .lst (intsV xs) 2), (2, 1, .lst (strsV ss) 2)] K = K (.agg (nC 1 xs 2 ss 2 [] 1)) := fun xs ss K => rfl
  have er : (V.agg (nC 1 [(l.epoch : Int), (l.other : Int), ((l.first + k : Nat) : Int), (l.want : Int)] 2 [l.q[k]] 2 [] 1)).er1 = noteV (pk1 l k) := by
    show noteV ⟨1, [(l.epoch : Int), (l.other : Int), ((l.first + k : Nat) : Int), (l.want : Int)], [l.q[k]], []⟩ = _
    unfold pk1
    rw [List.getD_eq_getElem?_getD, List.getElem?_eq_getElem hk]; rfl
  simp only [nilc_ptr, faddr_ptr, Nat.zero_add, l0, l1, l2, ea, l3, b4, l4, iaddr_strs t hk, load_l1', b1, bu, er, pkt_s _ (pk1_ok l k), ret_ret, kid_eq, noP_ret, er1_str]
theorem lstands_s {st : St} {id t : Nat} {l : Lk} (h : st.ob id = some (.cells (lkC l t))) : s36 [.ptr id 0] st = some (.ret (.lst (strsV [pkt (pk2 l)]) 0), st) := by
  rw [s36_eq]
  refine fg_of (st' := st) (v := .lst (strsV [pkt (pk2 l)]) 2) ?_ (Ks.refl st) (by simp)
  unfold f36
  obtain ⟨l0, l1, l2, l3, l4⟩ := lload h
  have b3 : ∀ (a b c : Int) K, A.bslice 1 (.int .i64 0) 3 [(0, .int .i64 a), (1, .int .i64 b), (2, .int .i64 c)] K = K (.lst (intsV [a, b, c]) 2) := fun a b c K => rfl
  have b1 : ∀ (s : List UInt8) K, A.bslice 1 (.str []) 1 [(0, .str s)] K = K (.lst (strsV [s]) 2) := fun s K => rfl
  have bu : ∀ (xs : List Int) K, A.build [.int .i64 0, .lst [] 1, .lst [] 1, .lst [] 1] [(0, 1, .int .i64 2), (1, 1, .lst (intsV xs) 2)] K = K (.agg (nC 2 xs 2 [] 1 [] 1)) := fun xs K => rfl
  have er : (V.agg (nC 2 [(l.epoch : Int), (l.other : Int), (l.want : Int)] 2 [] 1 [] 1)).er1 = noteV (pk2 l) := rfl
  simp only [nilc_ptr, faddr_ptr, Nat.zero_add, l0, l1, l3, b3, bu, er, pkt_s _ (pk2_ok l), ret_ret, kid_eq, noP_ret, b1, er1_lst]
/-- The only note of bytes. -/
def oneO (s : List UInt8) : Bool := decide ((unpL s).2.2 = 0) && decide ((unpL s).2.1 = s.length)
def oneN (s : List UInt8) : Note := (unpL s).1
theorem one_small (s : List UInt8) (hs : s.length ≤ 9223372036854775807) : NoteSmall (oneN s) := (unp_s s hs St0).2
theorem one_s (s : List UInt8) (hs : s.length ≤ 9223372036854775807) (st : St) : s48 [.str s] st = some (.ret (.tup [noteV (oneN s), .bool (oneO s)]), st) := by
  rw [s48_eq]
  have key : ∃ st', f48 (.str s) st = some (.ret (.tup [noteV (oneN s), .bool (oneO s)]), st') ∧ Ks st st' := by
    unfold f48
    simp only [box_zero, er1_str, (unp_s s hs _).1, ret_ret, U3, ext_0, ext_1, ext_2, store_note (new_at _ _)]
    unfold g48b11
    have k0 := (Ks.refl st).new (.cells (nC 0 [] 1 [] 1 [] 1))
    have o0 := new_at st (.cells (nC 0 [] 1 [] 1 [] 1))
    have n0 : st.n < (st.new (.cells (nC 0 [] 1 [] 1 [] 1))).n := by simp
    generalize st.new (.cells (nC 0 [] 1 [] 1 [] 1)) = st1 at k0 o0 n0
    have k1 := k0.new (.cells (nC 0 [] 1 [] 1 [] 1))
    have hle := k0.n
    have k2 := k1.put hle (.cells (noteC (oneN s)))
    have o1 : ((st1.new (.cells (nC 0 [] 1 [] 1 [] 1))).put st1.n (.cells (noteC (oneN s)))).ob st.n = some (.cells (nC 0 [] 1 [] 1 [] 1)) := by
      rw [put_ne _ _ (by omega), new_ne _ _ (by omega)]; exact o0
    have o2 := put_at (st1.new (.cells (nC 0 [] 1 [] 1 [] 1))) st1.n (.cells (noteC (oneN s)))
    show ∃ st', (A.load true 4 (.ptr st1.n 0) ((st1.new (.cells (nC 0 [] 1 [] 1 [] 1))).put st1.n (.cells (noteC (oneN s)))) _) = _ ∧ _
    generalize (st1.new (.cells (nC 0 [] 1 [] 1 [] 1))).put st1.n (.cells (noteC (oneN s))) = st2 at k2 o1 o2
    have sn : ∀ K, A.store 4 (.ptr st.n 0) (.agg (noteC (oneN s))) st2 K = K (st2.put st.n (.cells (noteC (oneN s)))) := fun K => store_note o1 _ K
    have ld : ∀ K, A.load true 4 (.ptr st.n 0) (st2.put st.n (.cells (noteC (oneN s)))) K = K (.agg (noteC (oneN s))) (st2.put st.n (.cells (noteC (oneN s)))) := fun K => load_noteb (put_at _ _ _) K
    have her : (V.agg (noteC (oneN s))).er1 = noteV (oneN s) := rfl
    have e1 : oneO s = (decide ((unpL s).2.2 = 0) && decide ((unpL s).2.1 = s.length)) := rfl
    refine ⟨st2.put st.n (.cells (noteC (oneN s))), ?_, k2.put (Nat.le_refl _) _⟩
    by_cases h0 : (unpL s).2.2 = 0
    · have e2 : decide ((((unpL s).2.1 : Nat) : Int) = (s.length : Int)) = decide ((unpL s).2.1 = s.length) := by apply decide_eq_decide.2; omega
      have e3 : ((((unpL s).2.1 : Nat) : Int) == (s.length : Int)) = decide ((unpL s).2.1 = s.length) := by rw [← e2]; rfl
      simp only [load_noteb o2, eql_int, Bool.false_eq_true, if_false, h0, show (((0 : Nat) : Int) == 0) = true from rfl, guard_tt, lenS_str, sn, ld, kid_eq, rtmp_some, rcell_some, res_two, her, er1_bool, e3, e1, decide_true, Bool.true_and]
    · have e3 : (((((unpL s).2.2 : Nat) : Int)) == 0) = false := by
        rw [beq_eq_false_iff_ne]; omega
      simp only [load_noteb o2, eql_int, Bool.false_eq_true, if_false, e3, guard_ft, lenS_str, sn, ld, kid_eq, rtmp_some, rcell_some, res_two, her, er1_bool, e1, h0, decide_false, Bool.false_and]
  obtain ⟨st', h1, h2⟩ := key
  have hp := pu_note (oneN s)
  have := fg_of h1 h2 (by
    show V.pu (V.tup [noteV (oneN s), .bool (oneO s)]).era = true
    have e : (V.tup [noteV (oneN s), .bool (oneO s)]).era = .tup [noteV (oneN s), .bool (oneO s)] := rfl
    rw [e]; simp [hp])
  exact this
end Go.Ab

/- sinew/link: what each function does. -/
namespace Go.Ab
open Go.Proofs Go.RowKit Go.Oct
set_option linter.unusedVariables false
set_option linter.unusedSimpArgs false
set_option maxRecDepth 100000
/-- A packet, its payload, whether it is one. -/
def rdN (s : List UInt8) : Note × Bool :=
  if oneO s = true ∧ (oneN s).rows.length = 0 then
    (if (oneN s).kind = 2 ∧ (oneN s).nums.length = 3 ∧ (oneN s).texts.length = 0 then (emptyN, true)
     else if (oneN s).kind = 1 ∧ (oneN s).nums.length = 4 ∧ (oneN s).texts.length = 1 then (oneN ((oneN s).texts.getD 0 []), oneO ((oneN s).texts.getD 0 []))
     else (emptyN, false))
  else (emptyN, false)
theorem eq_nat (a b : Nat) : ((a : Int) == (b : Int)) = decide (a = b) := by
  rw [show ((a : Int) == (b : Int)) = decide ((a : Int) = (b : Int)) from rfl]
  apply decide_eq_decide.2; omega
theorem eq_int (a b : Int) : (a == b) = decide (a = b) := rfl
theorem ldv_note {st : St} {p : Nat} {n : Note} (h : st.ob p = some (.cells (noteC n))) : ldv true 4 (.ptr p 0) st = some (noteV n) := by
  unfold ldv
  rw [load_noteb h]; rfl
theorem unp_len (s : List UInt8) : ∀ t ∈ (unpL s).1.texts, t.length ≤ 65536 := by
  by_cases h : (unpL s).2.2 = 0
  · have := (unp_back h).2
    simp only [packOK, Bool.and_eq_true] at this
    have hf := this.1
    unfold fitsW at hf
    simp only [Bool.and_eq_true, Bool.not_eq_true', decide_eq_false_iff_not, Int.not_lt, Nat.not_lt, decide_eq_true_eq] at hf
    obtain ⟨k1, k2, k3, k4, k5, k6, k7, k8⟩ := hf
    exact longT_iff k7
  · unfold unpL at h ⊢
    split
    · simp [emptyN]
    · split
      · simp [emptyN]
      · split
        · simp [emptyN]
        · split
          · simp [emptyN]
          · rename_i c1 c2 c3 c4
            rw [if_neg c1, if_neg c2, if_neg c3, if_neg c4] at h
            cases hp : parseO ((s.drop 8).take (of4 s)) with
            | none => simp [emptyN]
            | some n => rw [hp] at h; simp at h
theorem lread_s (s : List UInt8) (hs : s.length ≤ 9223372036854775807) (st : St) : s35 [.str s] st = some (.ret (.tup [noteV (oneN s), noteV (rdN s).1, .bool (rdN s).2]), st) := by
  rw [s35_eq]
  have key : ∃ st', f35 (.str s) st = some (.ret (.tup [noteV (oneN s), noteV (rdN s).1, .bool (rdN s).2]), st') ∧ Ks st st' := by
    unfold f35
    have oa : ((st.new (.cells (nC 0 [] 1 [] 1 [] 1))).new (.cells (nC 0 [] 1 [] 1 [] 1))).ob st.n = some (.cells (nC 0 [] 1 [] 1 [] 1)) := by simp [new_ob]
    have ob : ((st.new (.cells (nC 0 [] 1 [] 1 [] 1))).new (.cells (nC 0 [] 1 [] 1 [] 1))).ob (st.n + 1) = some (.cells (nC 0 [] 1 [] 1 [] 1)) := by simp [new_ob]
    have k0 := ((Ks.refl st).new (.cells (nC 0 [] 1 [] 1 [] 1))).new (.cells (nC 0 [] 1 [] 1 [] 1))
    simp only [box_zero, new_n]
    generalize (st.new (.cells (nC 0 [] 1 [] 1 [] 1))).new (.cells (nC 0 [] 1 [] 1 [] 1)) = st1 at oa ob k0
    have hpq : st.n + 1 ≠ st.n := by omega
    have kp : st.n ≤ st.n := Nat.le_refl _
    have kq : st.n ≤ st.n + 1 := by omega
    generalize st.n + 1 = q at ob hpq kq
    generalize hpn : st.n = p at oa hpq kp kq
    simp only [er1_str, one_s s hs, ret_ret, ext_0, ext_1, store_note oa]
    have oa1 := put_at st1 p (.cells (noteC (oneN s)))
    have ob1 : (st1.put p (.cells (noteC (oneN s)))).ob q = some (.cells (nC 0 [] 1 [] 1 [] 1)) := by rw [put_ne _ _ hpq]; exact ob
    have k1 := k0.put (i := p) (by omega) (.cells (noteC (oneN s)))
    generalize st1.put p (.cells (noteC (oneN s))) = st2 at oa1 ob1 k1
    -- the end
    have fin1 : ∀ (n : Note) (b : Bool) (st3 : St), st3.ob p = some (.cells (noteC (oneN s))) → st3.ob q = some (.cells (noteC n)) → Ks st st3 → ∃ st', (A.load true 4 (.ptr p 0) st3 fun a1 _ => A.load true 4 (.ptr q 0) st3 fun a2 _ => A.noP (A.store 4 (.ptr p 0) a1 st3 fun s => kid (.tup []) s) fun a3 z4 => A.chk (ldv true 4 (.ptr q 0) z4) a2 (A.noP (A.store 4 (.ptr q 0) a2 z4 fun s => kid (.tup []) s) fun a5 z6 => A.res (rcell (A.load true 4 (.ptr p 0) z6 kid) (rcell (A.load true 4 (.ptr q 0) z6 kid) (rtmp (.bool b) (some [])))) z6)) = some (.ret (.tup [noteV (oneN s), noteV n, .bool b]), st') ∧ Ks st st' := by
      intro n b st3 h1 h2 k3
      have sg : ∀ {st : St} {p : Nat} {m : Note} (h : st.ob p = some (.cells (noteC m))) (n : Note) (K : St → Res), A.store 4 (.ptr p 0) (.agg (noteC n)) st K = K (st.put p (.cells (noteC n))) := fun {st p m} h n K => by
        rw [store_agg, h, obo_some]; simp [noteC, Go.Ab.putL]
      have h3 : (st3.put p (.cells (noteC (oneN s)))).ob q = some (.cells (noteC n)) := by rw [put_ne _ _ hpq]; exact h2
      have h4 := put_at st3 p (.cells (noteC (oneN s)))
      have h5 : ((st3.put p (.cells (noteC (oneN s)))).put q (.cells (noteC n))).ob p = some (.cells (noteC (oneN s))) := by rw [put_ne _ _ (Ne.symm hpq)]; exact h4
      have h6 := put_at (st3.put p (.cells (noteC (oneN s)))) q (.cells (noteC n))
      have c : ∀ k : Res, A.chk (ldv true 4 (.ptr q 0) (st3.put p (.cells (noteC (oneN s))))) (.agg (noteC n)) k = k := fun k => by rw [ldv_note h3]; exact chk_same _ _
      have hnv : ∀ n : Note, (V.agg (noteC n)).er1 = noteV n := fun n => rfl
      simp only [load_noteb h1, load_noteb h2, sg h1, kid_eq, noP_ret, c, sg h3, load_noteb h5, load_noteb h6, rtmp_some, rcell_some, res_two, hnv, er1_bool]
      exact ⟨_, rfl, (k3.put (by omega) _).put (by omega) _⟩
    have hem : (nC 0 [] 1 [] 1 [] 1) = nC 0 [] 1 [] 1 [] 1 := rfl
    -- where the second cell is still the empty note (its lists are nil)
    have fin0 : ∀ (b : Bool), ∃ st', (A.load true 4 (.ptr p 0) st2 fun a1 _ => A.load true 4 (.ptr q 0) st2 fun a2 _ => A.noP (A.store 4 (.ptr p 0) a1 st2 fun s => kid (.tup []) s) fun a3 z4 => A.chk (ldv true 4 (.ptr q 0) z4) a2 (A.noP (A.store 4 (.ptr q 0) a2 z4 fun s => kid (.tup []) s) fun a5 z6 => A.res (rcell (A.load true 4 (.ptr p 0) z6 kid) (rcell (A.load true 4 (.ptr q 0) z6 kid) (rtmp (.bool b) (some [])))) z6)) = some (.ret (.tup [noteV (oneN s), noteV emptyN, .bool b]), st') ∧ Ks st st' := by
      intro b
      have lz : ∀ {st : St} (h : st.ob q = some (.cells (nC 0 [] 1 [] 1 [] 1))) (K : V → St → Res), A.load true 4 (.ptr q 0) st K = K (.agg (nC 0 [] 1 [] 1 [] 1)) st := fun {st} h K => by
        rw [load_obA, h, obo_some]; rfl
      have sg : ∀ {st : St} {p : Nat} {m : Note} (h : st.ob p = some (.cells (noteC m))) (n : Note) (K : St → Res), A.store 4 (.ptr p 0) (.agg (noteC n)) st K = K (st.put p (.cells (noteC n))) := fun {st p m} h n K => by
        rw [store_agg, h, obo_some]; simp [noteC, Go.Ab.putL]
      have sz : ∀ {st : St} (h : st.ob q = some (.cells (nC 0 [] 1 [] 1 [] 1))) (K : St → Res), A.store 4 (.ptr q 0) (.agg (nC 0 [] 1 [] 1 [] 1)) st K = K (st.put q (.cells (nC 0 [] 1 [] 1 [] 1))) := fun {st} h K => by
        rw [store_agg, h, obo_some]; simp [nC, Go.Ab.putL]
      have h3 : (st2.put p (.cells (noteC (oneN s)))).ob q = some (.cells (nC 0 [] 1 [] 1 [] 1)) := by rw [put_ne _ _ hpq]; exact ob1
      have h4 := put_at st2 p (.cells (noteC (oneN s)))
      have h5 : ((st2.put p (.cells (noteC (oneN s)))).put q (.cells (nC 0 [] 1 [] 1 [] 1))).ob p = some (.cells (noteC (oneN s))) := by rw [put_ne _ _ (Ne.symm hpq)]; exact h4
      have h6 := put_at (st2.put p (.cells (noteC (oneN s)))) q (.cells (nC 0 [] 1 [] 1 [] 1))
      have c : ∀ k : Res, A.chk (ldv true 4 (.ptr q 0) (st2.put p (.cells (noteC (oneN s))))) (.agg (nC 0 [] 1 [] 1 [] 1)) k = k := fun k => by
        have : ldv true 4 (.ptr q 0) (st2.put p (.cells (noteC (oneN s)))) = some (.agg (nC 0 [] 1 [] 1 [] 1)) := by unfold ldv; rw [lz h3]; rfl
        rw [this]; exact chk_same _ _
      have hnv : ∀ n : Note, (V.agg (noteC n)).er1 = noteV n := fun n => rfl
      have hne : (V.agg (nC 0 [] 1 [] 1 [] 1)).er1 = noteV emptyN := rfl
      simp only [load_noteb oa1, lz ob1, sg oa1, kid_eq, noP_ret, c, sz h3, load_noteb h5, lz h6, rtmp_some, rcell_some, res_two, hnv, hne, er1_bool]
      exact ⟨_, rfl, (k1.put (by omega) _).put (by omega) _⟩
    have l0 : ∀ K, A.load false 1 (.ptr p 0) st2 K = K (.int .i64 (oneN s).kind) st2 := fun K => by simp [oa1, noteC]
    have l1 : ∀ K, A.load false 1 (.ptr p 1) st2 K = K (.lst (intsV (oneN s).nums) 0) st2 := fun K => by simp [oa1, noteC]
    have l2 : ∀ K, A.load false 1 (.ptr p 2) st2 K = K (.lst (strsV (oneN s).texts) 0) st2 := fun K => by simp [oa1, noteC]
    have l3 : ∀ K, A.load false 1 (.ptr p 3) st2 K = K (.lst (rowsV (oneN s).rows) 0) st2 := fun K => by simp [oa1, noteC]
    unfold rdN
    cases ho : oneO s with
    | false =>
      simp only [un_not, Bool.not_false, guard_tf, Bool.false_eq_true, false_and, if_false]
      unfold g35b1101
      simp only [cond_true]
      exact fin0 false
    | true =>
      simp only [un_not, Bool.not_true, guard_ff, faddr_ptr, Nat.zero_add, l3, lenL_lst, rowsV_len, bin_gtr, true_and]
      unfold g35b1101
      by_cases hr : (oneN s).rows.length = 0
      · simp only [hr, Int.natCast_zero, Int.lt_irrefl, decide_false, cond_false, if_true]
        unfold g35b111
        simp only [faddr_ptr, Nat.zero_add, l0, l1, l2, eql_int, Bool.false_eq_true, if_false, eq_int, lenL_lst, intsV_len, strsV_len]
        -- bare
        have e3 : decide (((oneN s).nums.length : Int) = 3) = decide ((oneN s).nums.length = 3) := by apply decide_eq_decide.2; omega
        have e0 : decide (((oneN s).texts.length : Int) = 0) = decide ((oneN s).texts.length = 0) := by apply decide_eq_decide.2; omega
        have e4 : decide (((oneN s).nums.length : Int) = 4) = decide ((oneN s).nums.length = 4) := by apply decide_eq_decide.2; omega
        have e1 : decide (((oneN s).texts.length : Int) = 1) = decide ((oneN s).texts.length = 1) := by apply decide_eq_decide.2; omega
        have full : ∃ st', g35bz3d (.ptr p 0) (.ptr q 0) (.bool true) (.bool false) st2 = some (.ret (.tup [noteV (oneN s), noteV (if (oneN s).kind = 1 ∧ (oneN s).nums.length = 4 ∧ (oneN s).texts.length = 1 then (oneN ((oneN s).texts.getD 0 []), oneO ((oneN s).texts.getD 0 [])) else (emptyN, false)).1, .bool (if (oneN s).kind = 1 ∧ (oneN s).nums.length = 4 ∧ (oneN s).texts.length = 1 then (oneN ((oneN s).texts.getD 0 []), oneO ((oneN s).texts.getD 0 [])) else (emptyN, false)).2]), st') ∧ Ks st st' := by
          unfold g35bz3d
          simp only [cond_false, faddr_ptr, Nat.zero_add, l0, l1, l2, eql_int, Bool.false_eq_true, if_false, eq_int, lenL_lst, intsV_len, strsV_len]
          by_cases hk : (oneN s).kind = 1
          · simp only [hk, decide_true, guard_tt, true_and, e4]
            unfold g35bzdi_10
            by_cases h4 : (oneN s).nums.length = 4
            · simp only [h4, decide_true, guard_tt, true_and, faddr_ptr, Nat.zero_add, l2, lenL_lst, strsV_len, eql_int, Bool.false_eq_true, if_false, eq_int, e1]
              unfold g35bzdj
              by_cases h1 : (oneN s).texts.length = 1
              · have hlt : 0 < (oneN s).texts.length := by omega
                have hg : (oneN s).texts.getD 0 [] = (oneN s).texts[0] := by rw [List.getD_eq_getElem?_getD, List.getElem?_eq_getElem hlt]; rfl
                have hlen := unp_len s _ (List.getElem_mem hlt)
                have ia : ∀ K, A.iaddr 1 (.lst (strsV (oneN s).texts) 0) (.int .i64 0) K = K (.lptr [.str (oneN s).texts[0]]) := fun K => iaddr_strs 0 hlt K
                simp only [h1, decide_true, cond_true, faddr_ptr, Nat.zero_add, l2, ia, load_l1', er1_str, one_s _ (show ((oneN s).texts[0]).length ≤ 9223372036854775807 by have : ((oneN s).texts[0]).length ≤ 65536 := hlen; omega), ret_ret, ext_0, ext_1, store_note ob1, if_true, hg]
                unfold g35b1111
                exact fin1 _ _ _ (by rw [put_ne _ _ (Ne.symm hpq)]; exact oa1) (put_at _ _ _) (k1.put (by omega) _)
              · simp only [h1, decide_false, cond_false, if_false]
                unfold g35b1111
                exact fin0 false
            · simp only [h4, decide_false, guard_ft, false_and, if_false]
              unfold g35bzdj
              simp only [cond_false]
              unfold g35b1111
              exact fin0 false
          · simp only [hk, decide_false, guard_ft, false_and, if_false]
            unfold g35bzdi_10
            simp only [guard_ft]
            unfold g35bzdj
            simp only [cond_false]
            unfold g35b1111
            exact fin0 false
        have bare : g35bz3d (.ptr p 0) (.ptr q 0) (.bool true) (.bool true) st2 = g35b1111 (.ptr p 0) (.ptr q 0) (.bool true) st2 := by
          unfold g35bz3d; simp only [cond_true]
        by_cases hk : (oneN s).kind = 2
        · simp only [hk, decide_true, guard_tt, true_and, e3]
          unfold g35bz3c_10
          by_cases h3 : (oneN s).nums.length = 3
          · simp only [h3, decide_true, guard_tt, true_and, faddr_ptr, Nat.zero_add, l2, lenL_lst, strsV_len, eql_int, Bool.false_eq_true, if_false, eq_int, e0]
            by_cases h0 : (oneN s).texts.length = 0
            · simp only [h0, decide_true, if_true, bare]
              unfold g35b1111
              exact fin0 true
            · simp only [h0, decide_false, if_false]
              simpa [hk, h3] using full
          · simp only [h3, decide_false, guard_ft, false_and, if_false]
            simpa [hk, h3] using full
        · simp only [hk, decide_false, guard_ft, false_and, if_false]
          unfold g35bz3c_10
          simp only [guard_ft]
          exact full
      · have : (0 : Int) < ((oneN s).rows.length : Int) := by omega
        simp only [this, decide_true, cond_true, hr, if_false]
        exact fin0 false
  obtain ⟨st', h1, h2⟩ := key
  have hp := pu_note (oneN s)
  have hp2 := pu_note (rdN s).1
  have := fg_of h1 h2 (by
    have e : (V.tup [noteV (oneN s), noteV (rdN s).1, .bool (rdN s).2]).era = .tup [noteV (oneN s), noteV (rdN s).1, .bool (rdN s).2] := rfl
    rw [e]; simp [hp, hp2])
  exact this
end Go.Ab

/- sinew/link: Take. -/
namespace Go.Ab
open Go.Proofs Go.RowKit Go.Oct
set_option linter.unusedVariables false
set_option linter.unusedSimpArgs false
set_option maxRecDepth 100000
def OwnN (st : St) (sz t : Nat) : Prop := t = 1 ∨ t = 2 ∨ ∃ k, t = k + 3 ∧ k < st.nt ∧ st.tk k = some sz
structure LAt (st : St) (id t : Nat) (l : Lk) : Prop where
  ob : st.ob id = some (.cells (lkC l t))
  lt : id < st.n
  own : OwnN st 1 t
/-- One object is other, no right is. -/
structure TFr (st st' : St) (id : Nat) : Prop where
  tk : st'.tk = st.tk
  nt : st'.nt = st.nt
  n : st.n ≤ st'.n
  ob : ∀ i, i < st.n → i ≠ id → st'.ob i = st.ob i
theorem TFr.refl (st : St) (id : Nat) : TFr st st id := ⟨rfl, rfl, Nat.le_refl _, fun _ _ _ => rfl⟩
theorem TFr.new {a b : St} {id : Nat} (h : TFr a b id) (o : Ob) : TFr a (b.new o) id := ⟨h.tk, h.nt, by rw [new_n]; have := h.n; omega, fun i hi hd => by have := h.n; rw [new_ne _ _ (by omega)]; exact h.ob i hi hd⟩
theorem TFr.put {a b : St} {id j : Nat} (h : TFr a b id) (hj : j = id ∨ a.n ≤ j) (o : Ob) : TFr a (b.put j o) id := ⟨h.tk, h.nt, h.n, fun i hi hd => by rw [put_ne _ _ (by rcases hj with g | g <;> omega)]; exact h.ob i hi hd⟩
theorem TFr.own {st st' : St} {id sz t : Nat} (h : TFr st st' id) (ho : OwnN st sz t) : OwnN st' sz t := by
  rcases ho with g | g | ⟨k, g1, g2, g3⟩
  · exact .inl g
  · exact .inr (.inl g)
  · exact .inr (.inr ⟨k, g1, by rw [h.nt]; exact g2, by rw [h.tk]; exact g3⟩)
def nth (n : Note) (i : Nat) : Nat := (n.nums.getD i 0).toNat
/-- What a packet is. -/
structure Pkt (n : Note) : Prop where
  nums : ∀ x ∈ n.nums, 0 ≤ x ∧ x ≤ 4611686018427387903
  kind : (n.kind = 2 ∧ n.nums.length = 3) ∨ (n.kind = 1 ∧ n.nums.length = 4)
theorem one_nums {s : List UInt8} (h : oneO s = true) : ∀ x ∈ (oneN s).nums, 0 ≤ x ∧ x ≤ 4611686018427387903 := by
  unfold oneO at h
  simp only [Bool.and_eq_true, decide_eq_true_eq] at h
  have := (unp_back h.1).2
  simp only [packOK, Bool.and_eq_true] at this
  have hf := this.1
  unfold fitsW at hf
  simp only [Bool.and_eq_true, Bool.not_eq_true', decide_eq_false_iff_not, Int.not_lt, Nat.not_lt, decide_eq_true_eq] at hf
  obtain ⟨k1, k2, k3, k4, k5, k6, k7, k8⟩ := hf
  intro x hx
  have := List.any_eq_false.1 k5 x hx
  simp only [oddN, Bool.or_eq_true, decide_eq_true_eq, not_or, Int.not_lt] at this
  exact this
theorem rd_pkt {s : List UInt8} (h : (rdN s).2 = true) : Pkt (oneN s) := by
  unfold rdN at h
  split at h
  · rename_i h0
    refine ⟨one_nums h0.1, ?_⟩
    split at h
    · rename_i h1; exact .inl ⟨h1.1, h1.2.1⟩
    · split at h
      · rename_i h1; exact .inr ⟨h1.1, h1.2.1⟩
      · cases h
  · cases h
theorem Pkt.at {n : Note} (h : Pkt n) {i : Nat} (hi : i < n.nums.length) : n.nums[i] = ((nth n i : Nat) : Int) ∧ nth n i ≤ 4611686018427387903 := by
  obtain ⟨a, b⟩ := h.nums _ (List.getElem_mem hi)
  have e : nth n i = n.nums[i].toNat := by unfold nth; rw [List.getD_eq_getElem?_getD, List.getElem?_eq_getElem hi]; rfl
  exact ⟨by omega, by omega⟩
def freshP (l : Lk) (o : Nat) : Lk := if l.other < o then (if 0 < l.other then ⟨l.epoch, o, 1, 1, []⟩ else ⟨l.epoch, o, l.first, 1, l.q⟩) else l
def ackP (l : Lk) (w : Nat) : Lk := ⟨l.epoch, l.other, l.first + min (w - l.first) l.q.length, l.want, l.q.drop (min (w - l.first) l.q.length)⟩
def nextP (l : Lk) : Lk := ⟨l.epoch, l.other, l.first, l.want + 1, l.q⟩
/-- What Take does: the end, payloads, packets, whether the other one is new. -/
def takeP (l : Lk) (s : List UInt8) : Lk × List Note × List (List UInt8) × Bool :=
  if (rdN s).2 = false ∨ nth (oneN s) 0 < max l.other 1 then (l, [], [], false)
  else if nth (oneN s) 1 ≠ l.epoch then (freshP l (nth (oneN s) 0), [], [pkt (pk2 (freshP l (nth (oneN s) 0)))], decide (l.other < nth (oneN s) 0) && decide (0 < l.other))
  else if (oneN s).kind = 1 then
    (if nth (oneN s) 2 = (freshP l (nth (oneN s) 0)).want then (nextP (ackP (freshP l (nth (oneN s) 0)) (nth (oneN s) ((oneN s).nums.length - 1))), [(rdN s).1], [pkt (pk2 (nextP (ackP (freshP l (nth (oneN s) 0)) (nth (oneN s) ((oneN s).nums.length - 1)))))], decide (l.other < nth (oneN s) 0) && decide (0 < l.other))
     else (ackP (freshP l (nth (oneN s) 0)) (nth (oneN s) ((oneN s).nums.length - 1)), [], [pkt (pk2 (ackP (freshP l (nth (oneN s) 0)) (nth (oneN s) ((oneN s).nums.length - 1))))], decide (l.other < nth (oneN s) 0) && decide (0 < l.other)))
  else (ackP (freshP l (nth (oneN s) 0)) (nth (oneN s) ((oneN s).nums.length - 1)), [], [], decide (l.other < nth (oneN s) 0) && decide (0 < l.other))
/-- What a packet brought. -/
def cameV (ps : List Note) (ks : List (List UInt8)) (a : Bool) : V := .agg [.lst (notesV ps) 0, .lst (strsV ks) 0, .bool a]
def cC (ps : List Note) (u : Nat) (ks : List (List UInt8)) (w : Nat) (a : Bool) : List V := [.lst (notesV ps) u, .lst (strsV ks) w, .bool a]
theorem took {st : St} {c : Nat} {ps : List Note} {u : Nat} {ks : List (List UInt8)} {w : Nat} {a : Bool} (h : st.ob c = some (.cells (cC ps u ks w a))) :
    (A.load true 3 (.ptr c 0) st fun a z => A.store 3 (.ptr c 0) a z fun z' => A.res (rcell (A.load true 3 (.ptr c 0) z' kid) (some [])) z') = some (.ret (cameV ps ks a), st.put c (.cells (cC ps u ks w a))) := by
  have l1 : ∀ {st : St} (h : st.ob c = some (.cells (cC ps u ks w a))) (K : V → St → Res), A.load true 3 (.ptr c 0) st K = K (.agg (cC ps u ks w a)) st := fun {st} h K => by
    rw [load_obA, h, obo_some]; rfl
  have s1 : ∀ K, A.store 3 (.ptr c 0) (.agg (cC ps u ks w a)) st K = K (st.put c (.cells (cC ps u ks w a))) := fun K => by
    rw [store_agg, h, obo_some]; simp [cC, Go.Ab.putL]
  have her : (V.agg (cC ps u ks w a)).er1 = cameV ps ks a := rfl
  simp only [l1 h, s1, l1 (put_at st c _), kid_eq, rcell_some, res_one, her]
/-- Behind what a packet tells to have come. -/
theorem take_tail {st0 st : St} {id t c nn pp : Nat} {l : Lk} {n p : Note} {a : Bool} (h : st.ob id = some (.cells (lkC l t))) (hl : LkOK l) (hp : Pkt n) (hc : st.ob c = some (.cells (cC [] 1 [] 1 a))) (hn : st.ob nn = some (.cells (noteC n))) (hpp : st.ob pp = some (.cells (noteC p)))
    (hid : id < st0.n) (hc0 : st0.n ≤ c) (hn0 : st0.n ≤ nn) (hp0 : st0.n ≤ pp) (hcn : c ≠ nn) (hcp : c ≠ pp) (fr : TFr st0 st id) (hw : nth n 1 = l.epoch) :
    ∃ st', g19b11111 (.ptr id 0) (.ptr c 0) (.ptr nn 0) (.ptr pp 0) st = some (.ret (if n.kind = 1 then (if nth n 2 = l.want then cameV [p] [pkt (pk2 (nextP (ackP l (nth n (n.nums.length - 1)))))] a else cameV [] [pkt (pk2 (ackP l (nth n (n.nums.length - 1))))] a) else cameV [] [] a), st') ∧
      st'.ob id = some (.cells (lkC (if n.kind = 1 then (if nth n 2 = l.want then nextP (ackP l (nth n (n.nums.length - 1))) else ackP l (nth n (n.nums.length - 1))) else ackP l (nth n (n.nums.length - 1))) t)) ∧ TFr st0 st' id := by
  unfold g19b11111
  have hlen : 3 ≤ n.nums.length ∧ n.nums.length ≤ 4 := by rcases hp.kind with ⟨_, g⟩ | ⟨_, g⟩ <;> omega
  have m1 : ∀ {st : St} (h : st.ob nn = some (.cells (noteC n))) K, A.load false 1 (.ptr nn 1) st K = K (.lst (intsV n.nums) 0) st := fun {st} h K => by simp [h, noteC]
  have m0 : ∀ {st : St} (h : st.ob nn = some (.cells (noteC n))) K, A.load false 1 (.ptr nn 0) st K = K (.int .i64 n.kind) st := fun {st} h K => by simp [h, noteC]
  obtain ⟨l0, l1, l2, l3, l4⟩ := lload h
  have hlast : n.nums.length - 1 < n.nums.length := by omega
  obtain ⟨x1, x2⟩ := hp.at hlast
  have es : ∀ K, A.bin .sub (.int .i64 (n.nums.length : Nat)) (.int .i64 1) K = K (.int .i64 ((n.nums.length - 1 : Nat) : Int)) := fun K => bin_subN n.nums.length 1 K (by omega) (by omega)
  have hf := hl.f
  have hq := hl.q
  have ed : ∀ K, A.bin .sub (.int .i64 (nth n (n.nums.length - 1) : Nat)) (.int .i64 (l.first : Nat)) K = K (.int .i64 ((nth n (n.nums.length - 1) : Int) - (l.first : Int))) := fun K => bin_sub K (by omega) (by omega)
  have em : ∀ K, (A.min (.int .i64 ((nth n (n.nums.length - 1) : Int) - (l.first : Int))) (.int .i64 (l.q.length : Nat)) fun a17 => A.max (.int .i64 0) a17 K) = K (.int .i64 ((min (nth n (n.nums.length - 1) - l.first) l.q.length : Nat) : Int)) := fun K => by
    show K (.int .i64 (if (if (l.q.length : Int) < (nth n (n.nums.length - 1) : Int) - (l.first : Int) then (l.q.length : Int) else (nth n (n.nums.length - 1) : Int) - (l.first : Int)) > 0 then (if (l.q.length : Int) < (nth n (n.nums.length - 1) : Int) - (l.first : Int) then (l.q.length : Int) else (nth n (n.nums.length - 1) : Int) - (l.first : Int)) else 0)) = _
    congr 2
    split <;> split <;> omega
  simp only [faddr_ptr, Nat.zero_add, m1 hn, lenL_lst, intsV_len, es, iaddr_ints 0 hlast, x1, load_l1', nilc_ptr, l2, ed, l4, strsV_len, em]
  unfold g19bz3j
  generalize hk : min (nth n (n.nums.length - 1) - l.first) l.q.length = k
  have hkl : k ≤ l.q.length := by omega
  have hsl : ∀ K, A.slice 1 (.lst (strsV l.q) t) (some (.int .i64 (k : Nat))) none none K = K (.lst (strsV (l.q.drop k)) t) := fun K => by
    rw [slice_from (strsV l.q) t 1 k K (by simpa using hkl) (szok_strs _)]
    simp [strsV, List.map_drop]
  have hack : ackP l (nth n (n.nums.length - 1)) = ⟨l.epoch, l.other, l.first + k, l.want, l.q.drop k⟩ := by unfold ackP; rw [hk]
  have sq : ∀ K, A.store 1 (.ptr id 4) (.lst (strsV (l.q.drop k)) t) st K = K (st.put id (.cells (lkC ⟨l.epoch, l.other, l.first, l.want, l.q.drop k⟩ t))) := fun K => by
    simp [h, lkC]
  have o1 := put_at st id (.cells (lkC ⟨l.epoch, l.other, l.first, l.want, l.q.drop k⟩ t))
  obtain ⟨k0, k1, k2, k3, k4⟩ := lload o1
  have ef : ∀ K, A.bin .add (.int .i64 (l.first : Nat)) (.int .i64 (k : Nat)) K = K (.int .i64 ((l.first + k : Nat) : Int)) := fun K => bin_addN _ _ K (by omega)
  have sf : ∀ K, A.store 1 (.ptr id 2) (.int .i64 (l.first + k : Nat)) (st.put id (.cells (lkC ⟨l.epoch, l.other, l.first, l.want, l.q.drop k⟩ t))) K = K (st.put id (.cells (lkC (ackP l (nth n (n.nums.length - 1))) t))) := fun K => by
    rw [hack]; simp [lkC]
  simp only [nilc_ptr, faddr_ptr, Nat.zero_add, l4, hsl, sq, k2, ef, sf]
  have fr1 := fr.put (.inl rfl) (.cells (lkC (ackP l (nth n (n.nums.length - 1))) t))
  have oi := put_at st id (.cells (lkC (ackP l (nth n (n.nums.length - 1))) t))
  have oc : (st.put id (.cells (lkC (ackP l (nth n (n.nums.length - 1))) t))).ob c = some (.cells (cC [] 1 [] 1 a)) := by rw [put_ne _ _ (by omega)]; exact hc
  have on : (st.put id (.cells (lkC (ackP l (nth n (n.nums.length - 1))) t))).ob nn = some (.cells (noteC n)) := by rw [put_ne _ _ (by omega)]; exact hn
  have op : (st.put id (.cells (lkC (ackP l (nth n (n.nums.length - 1))) t))).ob pp = some (.cells (noteC p)) := by rw [put_ne _ _ (by omega)]; exact hpp
  have hwant : (ackP l (nth n (n.nums.length - 1))).want = l.want := rfl
  have hwl := hl.w
  generalize st.put id (.cells (lkC (ackP l (nth n (n.nums.length - 1))) t)) = st1 at fr1 oi oc on op
  generalize ackP l (nth n (n.nums.length - 1)) = l2' at oi hwant
  unfold g19bze7
  obtain ⟨j0, j1, j2, j3, j4⟩ := lload oi
  simp only [faddr_ptr, Nat.zero_add, m0 on, eql_int, Bool.false_eq_true, if_false, eq_int]
  have sc : ∀ {st : St} (ps : List Note) (u : Nat) (ho : st.ob c = some (.cells (cC ps u [] 1 a))) (ks : List (List UInt8)) K, A.store 1 (.ptr c 1) (.lst (strsV ks) 0) st K = K (st.put c (.cells (cC ps u ks 0 a))) := fun {st} ps u ho ks K => by
    simp [ho, cC]
  by_cases h1 : n.kind = 1
  · have h4 : 2 < n.nums.length := by omega
    obtain ⟨y1, y2⟩ := hp.at h4
    simp only [h1, decide_true, cond_true, m1 on, iaddr_ints 0 h4, y1, load_l1', nilc_ptr, faddr_ptr, Nat.zero_add, j3, hwant, eql_int, Bool.false_eq_true, if_false, eq_nat, if_true]
    have ia2 : ∀ K, A.iaddr 1 (.lst (intsV n.nums) 0) (.int .i64 2) K = K (.lptr [.int .i64 n.nums[2]]) := fun K => iaddr_ints 0 h4 K
    simp only [ia2, y1, load_l1', nilc_ptr, faddr_ptr, Nat.zero_add, j3, hwant, eql_int, Bool.false_eq_true, if_false, eq_nat]
    unfold g19bzcmh
    by_cases h2 : nth n 2 = l.want
    · have bs : ∀ K, A.bslice 4 (.agg [.int .i64 0, .lst [] 1, .lst [] 1, .lst [] 1]) 1 [(0, .agg (noteC p))] K = K (.lst (notesV [p]) 2) := fun K => bslice_note p K
      have sp : ∀ K, A.store 1 (.ptr c 0) (.lst (notesV [p]) 2) st1 K = K (st1.put c (.cells (cC [p] 2 [] 1 a))) := fun K => by simp [oc, cC]
      have oi2 : (st1.put c (.cells (cC [p] 2 [] 1 a))).ob id = some (.cells (lkC l2' t)) := by rw [put_ne _ _ (by omega)]; exact oi
      obtain ⟨i0, i1, i2, i3, i4⟩ := lload oi2
      have ew : ∀ K, A.bin .add (.int .i64 (l.want : Nat)) (.int .i64 1) K = K (.int .i64 ((l.want + 1 : Nat) : Int)) := fun K => bin_inc (by omega) K
      have sw : ∀ K, A.store 1 (.ptr id 3) (.int .i64 (l.want + 1 : Nat)) (st1.put c (.cells (cC [p] 2 [] 1 a))) K = K ((st1.put c (.cells (cC [p] 2 [] 1 a))).put id (.cells (lkC (nextP l2') t))) := fun K => by
        rw [show (l.want + 1 : Nat) = l2'.want + 1 by rw [hwant]]
        simp [oi2, lkC, nextP]
      have oi3 := put_at (st1.put c (.cells (cC [p] 2 [] 1 a))) id (.cells (lkC (nextP l2') t))
      have oc3 : ((st1.put c (.cells (cC [p] 2 [] 1 a))).put id (.cells (lkC (nextP l2') t))).ob c = some (.cells (cC [p] 2 [] 1 a)) := by rw [put_ne _ _ (by omega)]; exact put_at _ _ _
      have fr3 := (fr1.put (.inr hc0) (.cells (cC [p] 2 [] 1 a))).put (.inl rfl) (.cells (lkC (nextP l2') t))
      simp only [h2, decide_true, cond_true, load_noteb op, bs, faddr_ptr, Nat.zero_add, sp, nilc_ptr, i3, hwant, ew, sw, er1_ptr, if_true]
      generalize (st1.put c (.cells (cC [p] 2 [] 1 a))).put id (.cells (lkC (nextP l2') t)) = st3 at oi3 oc3 fr3
      simp only [lstands_s oi3, ret_ret, faddr_ptr, Nat.zero_add, sc [p] 2 oc3, took (put_at _ _ _)]
      exact ⟨_, rfl, by rw [put_ne _ _ (by omega), put_ne _ _ (by omega)]; exact oi3, (fr3.put (.inr hc0) _).put (.inr hc0) _⟩
    · simp only [h2, decide_false, cond_false, er1_ptr, lstands_s oi, ret_ret, faddr_ptr, Nat.zero_add, sc [] 1 oc, took (put_at _ _ _), if_false]
      exact ⟨_, rfl, by rw [put_ne _ _ (by omega), put_ne _ _ (by omega)]; exact oi, (fr1.put (.inr hc0) _).put (.inr hc0) _⟩
  · simp only [h1, decide_false, cond_false, took oc, if_false]
    exact ⟨_, rfl, by rw [put_ne _ _ (by omega)]; exact oi, fr1.put (.inr hc0) _⟩
end Go.Ab

/- sinew/link: Take, the whole. -/
namespace Go.Ab
open Go.Proofs Go.RowKit Go.Oct
set_option linter.unusedVariables false
set_option linter.unusedSimpArgs false
set_option maxRecDepth 100000
theorem lgiven_s {st : St} {id t : Nat} {l : Lk} (h : st.ob id = some (.cells (lkC l t))) (hl : 1 ≤ l.epoch) : s31 [.ptr id 0] st = some (.ret (.bool true), st) := by
  rw [s31_eq]
  unfold f31
  obtain ⟨l0, _⟩ := lload h
  simp only [eql_ptr, guard_tt, nilc_ptr, faddr_ptr, Nat.zero_add, l0, bin_gtr, show ((0 : Int) < (l.epoch : Int)) from by omega, decide_true, er1_bool]
/-- Behind the epochs. -/
theorem take_mid {st0 st : St} {id t c nn pp : Nat} {l : Lk} {n p : Note} {a : Bool} (h : st.ob id = some (.cells (lkC l t))) (hl : LkOK l) (hp : Pkt n) (hc : st.ob c = some (.cells (cC [] 1 [] 1 a))) (hn : st.ob nn = some (.cells (noteC n))) (hpp : st.ob pp = some (.cells (noteC p)))
    (hid : id < st0.n) (hc0 : st0.n ≤ c) (hn0 : st0.n ≤ nn) (hp0 : st0.n ≤ pp) (hcn : c ≠ nn) (hcp : c ≠ pp) (fr : TFr st0 st id) :
    ∃ st', g19b1111 (.ptr id 0) (.ptr c 0) (.ptr nn 0) (.ptr pp 0) st = some (.ret (if nth n 1 ≠ l.epoch then cameV [] [pkt (pk2 l)] a else if n.kind = 1 then (if nth n 2 = l.want then cameV [p] [pkt (pk2 (nextP (ackP l (nth n (n.nums.length - 1)))))] a else cameV [] [pkt (pk2 (ackP l (nth n (n.nums.length - 1))))] a) else cameV [] [] a), st') ∧
      st'.ob id = some (.cells (lkC (if nth n 1 ≠ l.epoch then l else if n.kind = 1 then (if nth n 2 = l.want then nextP (ackP l (nth n (n.nums.length - 1))) else ackP l (nth n (n.nums.length - 1))) else ackP l (nth n (n.nums.length - 1))) t)) ∧ TFr st0 st' id := by
  unfold g19b1111
  have hlen : 3 ≤ n.nums.length ∧ n.nums.length ≤ 4 := by rcases hp.kind with ⟨_, g⟩ | ⟨_, g⟩ <;> omega
  have m1 : ∀ K, A.load false 1 (.ptr nn 1) st K = K (.lst (intsV n.nums) 0) st := fun K => by simp [hn, noteC]
  obtain ⟨l0, l1, l2, l3, l4⟩ := lload h
  have h1 : 1 < n.nums.length := by omega
  obtain ⟨y1, y2⟩ := hp.at h1
  have ia : ∀ K, A.iaddr 1 (.lst (intsV n.nums) 0) (.int .i64 1) K = K (.lptr [.int .i64 n.nums[1]]) := fun K => iaddr_ints 0 h1 K
  have e : ((((nth n 1 : Nat) : Int)) != (l.epoch : Int)) = decide (nth n 1 ≠ l.epoch) := by
    rw [bne, eq_nat]
    by_cases g : nth n 1 = l.epoch <;> simp [g]
  simp only [faddr_ptr, Nat.zero_add, m1, ia, y1, load_l1', nilc_ptr, l0, eql_int, if_true, e]
  by_cases hw : nth n 1 = l.epoch
  · simp only [hw, ne_eq, not_true_eq_false, decide_false, cond_false, if_false]
    exact take_tail h hl hp hc hn hpp hid hc0 hn0 hp0 hcn hcp fr hw
  · have sc : ∀ (ks : List (List UInt8)) K, A.store 1 (.ptr c 1) (.lst (strsV ks) 0) st K = K (st.put c (.cells (cC [] 1 ks 0 a))) := fun ks K => by
      simp [hc, cC]
    simp only [hw, ne_eq, not_false_eq_true, decide_true, cond_true, if_true, er1_ptr, lstands_s h, ret_ret, faddr_ptr, Nat.zero_add, sc, took (put_at _ _ _)]
    exact ⟨_, rfl, by rw [put_ne _ _ (by omega), put_ne _ _ (by omega)]; exact h, (fr.put (.inr hc0) _).put (.inr hc0) _⟩
theorem take_s {st : St} {id t : Nat} {l : Lk} (h : LAt st id t l) (hl : LkOK l) (s : List UInt8) (hs : s.length ≤ 9223372036854775807) :
    ∃ st' t', s19 [.ptr id 0, .str s] st = some (.ret (cameV (takeP l s).2.1 (takeP l s).2.2.1 (takeP l s).2.2.2), st') ∧ LAt st' id t' (takeP l s).1 ∧ TFr st st' id ∧ (t' = t ∨ t' = 1) := by
  rw [s19_eq]
  unfold f19
  have hid := h.lt
  have bx : ∀ K, A.box (.agg [.lst [] 1, .lst [] 1, .bool false]) st K = K (.ptr st.n 0) (st.new (.cells (cC [] 1 [] 1 false))) := fun K => rfl
  have f0 := (TFr.refl st id).new (.cells (cC [] 1 [] 1 false))
  have c0 := new_at st (.cells (cC [] 1 [] 1 false))
  have n0 : (st.new (.cells (cC [] 1 [] 1 false))).n = st.n + 1 := by simp
  have i0 : (st.new (.cells (cC [] 1 [] 1 false))).ob id = some (.cells (lkC l t)) := by rw [new_ne _ _ (by omega)]; exact h.ob
  simp only [bx]
  generalize st.new (.cells (cC [] 1 [] 1 false)) = st1 at f0 c0 n0 i0
  simp only [er1_str, lread_s s hs, ret_ret, ext_0, ext_1, ext_2, box_zero, new_n, n0]
  have f1 := (f0.new (.cells (nC 0 [] 1 [] 1 [] 1))).new (.cells (nC 0 [] 1 [] 1 [] 1))
  have c1 : ((st1.new (.cells (nC 0 [] 1 [] 1 [] 1))).new (.cells (nC 0 [] 1 [] 1 [] 1))).ob st.n = some (.cells (cC [] 1 [] 1 false)) := by rw [new_ne _ _ (by simp; omega), new_ne _ _ (by omega)]; exact c0
  have i1 : ((st1.new (.cells (nC 0 [] 1 [] 1 [] 1))).new (.cells (nC 0 [] 1 [] 1 [] 1))).ob id = some (.cells (lkC l t)) := by rw [new_ne _ _ (by simp; omega), new_ne _ _ (by omega)]; exact i0
  have a1 : ((st1.new (.cells (nC 0 [] 1 [] 1 [] 1))).new (.cells (nC 0 [] 1 [] 1 [] 1))).ob (st.n + 1) = some (.cells (nC 0 [] 1 [] 1 [] 1)) := by rw [new_ne _ _ (by simp; omega), ← n0]; exact new_at _ _
  have b1 : ((st1.new (.cells (nC 0 [] 1 [] 1 [] 1))).new (.cells (nC 0 [] 1 [] 1 [] 1))).ob (st.n + 1 + 1) = some (.cells (nC 0 [] 1 [] 1 [] 1)) := by
    have : st.n + 1 + 1 = (st1.new (.cells (nC 0 [] 1 [] 1 [] 1))).n := by simp [n0]
    rw [this]; exact new_at _ _
  generalize (st1.new (.cells (nC 0 [] 1 [] 1 [] 1))).new (.cells (nC 0 [] 1 [] 1 [] 1)) = st2 at f1 c1 a1 b1 i1
  have b2 : (st2.put (st.n + 1) (.cells (noteC (oneN s)))).ob (st.n + 1 + 1) = some (.cells (nC 0 [] 1 [] 1 [] 1)) := by rw [put_ne _ _ (by omega)]; exact b1
  simp only [store_note a1, store_note b2]
  have f3 := (f1.put (j := st.n + 1) (.inr (by omega)) (.cells (noteC (oneN s)))).put (j := st.n + 1 + 1) (.inr (by omega)) (.cells (noteC (rdN s).1))
  have c3 : ((st2.put (st.n + 1) (.cells (noteC (oneN s)))).put (st.n + 1 + 1) (.cells (noteC (rdN s).1))).ob st.n = some (.cells (cC [] 1 [] 1 false)) := by rw [put_ne _ _ (by omega), put_ne _ _ (by omega)]; exact c1
  have a3 : ((st2.put (st.n + 1) (.cells (noteC (oneN s)))).put (st.n + 1 + 1) (.cells (noteC (rdN s).1))).ob (st.n + 1) = some (.cells (noteC (oneN s))) := by rw [put_ne _ _ (by omega)]; exact put_at _ _ _
  have b3 := put_at (st2.put (st.n + 1) (.cells (noteC (oneN s)))) (st.n + 1 + 1) (.cells (noteC (rdN s).1))
  have i3 : ((st2.put (st.n + 1) (.cells (noteC (oneN s)))).put (st.n + 1 + 1) (.cells (noteC (rdN s).1))).ob id = some (.cells (lkC l t)) := by rw [put_ne _ _ (by omega), put_ne _ _ (by omega)]; exact i1
  generalize (st2.put (st.n + 1) (.cells (noteC (oneN s)))).put (st.n + 1 + 1) (.cells (noteC (rdN s).1)) = st3 at f3 c3 a3 b3 i3
  unfold g19b11
  simp only [er1_ptr, lgiven_s i3 hl.e1, ret_ret, kid_eq, noP_ret, un_not, Bool.not_true, guard_ff]
  have ow := fun st' (f : TFr st st' id) => f.own h.own
  have nothing : ∀ (hq : (rdN s).2 = false ∨ nth (oneN s) 0 < max l.other 1), ∃ st' t', (A.build [.lst [] 1, .lst [] 1, .bool false] [] fun a13 => A.store 3 (.ptr st.n 0) a13 st3 fun z14 => A.res (rcell (A.load true 3 (.ptr st.n 0) z14 kid) (some [])) z14) = some (.ret (cameV (takeP l s).2.1 (takeP l s).2.2.1 (takeP l s).2.2.2), st') ∧ LAt st' id t' (takeP l s).1 ∧ TFr st st' id ∧ (t' = t ∨ t' = 1) := by
    intro hq
    have hT : takeP l s = (l, [], [], false) := by unfold takeP; rw [if_pos hq]
    have b : ∀ K, A.build [.lst [] 1, .lst [] 1, .bool false] [] K = K (.agg (cC [] 1 [] 1 false)) := fun K => rfl
    have s1 : ∀ K, A.store 3 (.ptr st.n 0) (.agg (cC [] 1 [] 1 false)) st3 K = K (st3.put st.n (.cells (cC [] 1 [] 1 false))) := fun K => by
      rw [store_agg, c3, obo_some]; simp [cC, Go.Ab.putL]
    have l1 : ∀ K, A.load true 3 (.ptr st.n 0) (st3.put st.n (.cells (cC [] 1 [] 1 false))) K = K (.agg (cC [] 1 [] 1 false)) (st3.put st.n (.cells (cC [] 1 [] 1 false))) := fun K => by
      rw [load_obA, put_at, obo_some]; rfl
    have her : (V.agg (cC [] 1 [] 1 false)).er1 = cameV [] [] false := rfl
    have ff := f3.put (j := st.n) (.inr (Nat.le_refl _)) (.cells (cC [] 1 [] 1 false))
    simp only [b, s1, l1, kid_eq, rcell_some, res_one, her, hT]
    exact ⟨_, t, rfl, ⟨by rw [put_ne _ _ (by omega)]; exact i3, by have := ff.n; omega, ow _ ff⟩, ff, .inl rfl⟩
  cases hr : (rdN s).2 with
  | false =>
    simp only [Bool.not_false]
    unfold g19b1100_8
    simp only [guard_tf]
    exact nothing (.inl hr)
  | true =>
    have hp := rd_pkt hr
    simp only [Bool.not_true]
    unfold g19b1100_8
    have hlen : 3 ≤ (oneN s).nums.length := by rcases hp.kind with ⟨_, g⟩ | ⟨_, g⟩ <;> omega
    have h0 : 0 < (oneN s).nums.length := by omega
    obtain ⟨y1, y2⟩ := hp.at h0
    have ia : ∀ K, A.iaddr 1 (.lst (intsV (oneN s).nums) 0) (.int .i64 0) K = K (.lptr [.int .i64 (oneN s).nums[0]]) := fun K => iaddr_ints 0 h0 K
    have m1 : ∀ K, A.load false 1 (.ptr (st.n + 1) 1) st3 K = K (.lst (intsV (oneN s).nums) 0) st3 := fun K => by simp [a3, noteC]
    obtain ⟨l0, l1, l2, l3, l4⟩ := lload i3
    have em : ∀ K, A.max (.int .i64 (l.other : Nat)) (.int .i64 1) K = K (.int .i64 ((max l.other 1 : Nat) : Int)) := fun K => by
      show K (.int .i64 (if (1 : Int) > (l.other : Int) then 1 else (l.other : Int))) = _
      congr 2
      split <;> omega
    have ec : decide (((nth (oneN s) 0 : Nat) : Int) < ((max l.other 1 : Nat) : Int)) = decide (nth (oneN s) 0 < max l.other 1) := by apply decide_eq_decide.2; omega
    simp only [guard_ff, faddr_ptr, Nat.zero_add, m1, ia, y1, load_l1', nilc_ptr, l1, em, bin_lss, ec]
    by_cases hq : nth (oneN s) 0 < max l.other 1
    · simp only [hq, decide_true, cond_true]
      exact nothing (.inr hq)
    · simp only [hq, decide_false, cond_false]
      unfold g19b111
      have eg : decide ((l.other : Int) < ((nth (oneN s) 0 : Nat) : Int)) = decide (l.other < nth (oneN s) 0) := by apply decide_eq_decide.2; omega
      simp only [faddr_ptr, Nat.zero_add, m1, ia, y1, load_l1', nilc_ptr, l1, bin_gtr, eg]
      -- the rest, of the end that is known now
      have rest : ∀ (l' : Lk) (t' : Nat) (a : Bool) (st4 : St), l' = freshP l (nth (oneN s) 0) → a = (decide (l.other < nth (oneN s) 0) && decide (0 < l.other)) → LkOK l' → (t' = t ∨ t' = 1) → st4.ob id = some (.cells (lkC l' t')) → st4.ob st.n = some (.cells (cC [] 1 [] 1 a)) → st4.ob (st.n + 1) = some (.cells (noteC (oneN s))) → st4.ob (st.n + 1 + 1) = some (.cells (noteC (rdN s).1)) → TFr st st4 id →
          ∃ st' t', g19b1111 (.ptr id 0) (.ptr st.n 0) (.ptr (st.n + 1) 0) (.ptr (st.n + 1 + 1) 0) st4 = some (.ret (cameV (takeP l s).2.1 (takeP l s).2.2.1 (takeP l s).2.2.2), st') ∧ LAt st' id t' (takeP l s).1 ∧ TFr st st' id ∧ (t' = t ∨ t' = 1) := by
        intro l' t' a st4 e1 e2 hl' ht' q1 q2 q3 q4 q5
        obtain ⟨st', r1, r2, r3⟩ := take_mid q1 hl' hp q2 q3 q4 hid (Nat.le_refl _) (by omega) (by omega) (by omega) (by omega) q5
        have hep : l'.epoch = l.epoch := by rw [e1]; unfold freshP; split <;> (try split) <;> rfl
        have hnot : ¬ ((rdN s).2 = false ∨ nth (oneN s) 0 < max l.other 1) := by
          rw [hr]; intro g; rcases g with g | g
          · cases g
          · exact hq g
        have ho' : OwnN st' 1 t' := by
          rcases ht' with g | g
          · rw [g]; exact ow _ r3
          · exact .inl g
        refine ⟨st', t', ?_, ⟨?_, by have := r3.n; omega, ho'⟩, r3, ht'⟩
        · rw [r1]
          unfold takeP
          rw [if_neg hnot, ← e1, ← e2, hep]
          split
          · rfl
          · split
            · split <;> rfl
            · rfl
        · rw [r2]
          unfold takeP
          rw [if_neg hnot, ← e1, ← e2, hep]
          split
          · rfl
          · split
            · split <;> rfl
            · rfl
      by_cases hg : l.other < nth (oneN s) 0
      · have sa : ∀ (a : Bool) K, A.store 1 (.ptr st.n 2) (.bool a) st3 K = K (st3.put st.n (.cells (cC [] 1 [] 1 a))) := fun a K => by simp [c3, cC]
        have eo : decide ((0 : Int) < (l.other : Int)) = decide (0 < l.other) := by apply decide_eq_decide.2; omega
        simp only [hg, decide_true, cond_true, nilc_ptr, faddr_ptr, Nat.zero_add, l1, bin_gtr, eo, sa]
        have f4 := f3.put (j := st.n) (.inr (Nat.le_refl _)) (.cells (cC [] 1 [] 1 (decide (0 < l.other))))
        have c4 := put_at st3 st.n (.cells (cC [] 1 [] 1 (decide (0 < l.other))))
        have a4 : (st3.put st.n (.cells (cC [] 1 [] 1 (decide (0 < l.other))))).ob (st.n + 1) = some (.cells (noteC (oneN s))) := by rw [put_ne _ _ (by omega)]; exact a3
        have b4 : (st3.put st.n (.cells (cC [] 1 [] 1 (decide (0 < l.other))))).ob (st.n + 1 + 1) = some (.cells (noteC (rdN s).1)) := by rw [put_ne _ _ (by omega)]; exact b3
        have i4 : (st3.put st.n (.cells (cC [] 1 [] 1 (decide (0 < l.other))))).ob id = some (.cells (lkC l t)) := by rw [put_ne _ _ (by omega)]; exact i3
        generalize st3.put st.n (.cells (cC [] 1 [] 1 (decide (0 < l.other)))) = st4 at f4 c4 a4 b4 i4
        unfold g19bzdl
        have lc : ∀ K, A.load false 1 (.ptr st.n 2) st4 K = K (.bool (decide (0 < l.other))) st4 := fun K => by simp [c4, cC]
        have m4 : ∀ {st5 : St} (hh : st5.ob (st.n + 1) = some (.cells (noteC (oneN s)))) K, A.load false 1 (.ptr (st.n + 1) 1) st5 K = K (.lst (intsV (oneN s).nums) 0) st5 := fun {st5} hh K => by simp [hh, noteC]
        simp only [faddr_ptr, Nat.zero_add, lc]
        by_cases hz : 0 < l.other
        · have sq : ∀ K, A.store 1 (.ptr id 4) (.lst [] 1) st4 K = K (st4.put id (.cells (lkC ⟨l.epoch, l.other, l.first, l.want, []⟩ 1))) := fun K => by simp [i4, lkC]
          have sf : ∀ K, A.store 1 (.ptr id 2) (.int .i64 1) (st4.put id (.cells (lkC ⟨l.epoch, l.other, l.first, l.want, []⟩ 1))) K = K (st4.put id (.cells (lkC ⟨l.epoch, l.other, 1, l.want, []⟩ 1))) := fun K => by simp [lkC]
          simp only [hz, decide_true, cond_true, nilc_ptr, faddr_ptr, Nat.zero_add, sq, sf]
          unfold g19bz6t
          have a5 : (st4.put id (.cells (lkC ⟨l.epoch, l.other, 1, l.want, []⟩ 1))).ob (st.n + 1) = some (.cells (noteC (oneN s))) := by rw [put_ne _ _ (by omega)]; exact a4
          have so : ∀ K, A.store 1 (.ptr id 1) (.int .i64 (nth (oneN s) 0 : Nat)) (st4.put id (.cells (lkC ⟨l.epoch, l.other, 1, l.want, []⟩ 1))) K = K (st4.put id (.cells (lkC ⟨l.epoch, nth (oneN s) 0, 1, l.want, []⟩ 1))) := fun K => by simp [lkC]
          have sw : ∀ K, A.store 1 (.ptr id 3) (.int .i64 1) (st4.put id (.cells (lkC ⟨l.epoch, nth (oneN s) 0, 1, l.want, []⟩ 1))) K = K (st4.put id (.cells (lkC ⟨l.epoch, nth (oneN s) 0, 1, 1, []⟩ 1))) := fun K => by simp [lkC]
          simp only [faddr_ptr, Nat.zero_add, m4 a5, ia, y1, load_l1', nilc_ptr, so, sw]
          refine rest ⟨l.epoch, nth (oneN s) 0, 1, 1, []⟩ 1 true _ (by unfold freshP; rw [if_pos hg, if_pos hz]) (by simp [hg, hz]) ⟨hl.e1, hl.e2, y2, by show 1 ≤ 1000000000000; omega, by show 1 ≤ 1000000000000; omega, by simp⟩ (.inr rfl) (put_at _ _ _) ?_ ?_ ?_ (f4.put (.inl rfl) _)
          · rw [put_ne _ _ (by omega), c4]; simp [hz]
          · rw [put_ne _ _ (by omega)]; exact a4
          · rw [put_ne _ _ (by omega)]; exact b4
        · simp only [hz, decide_false, cond_false]
          unfold g19bz6t
          have so : ∀ K, A.store 1 (.ptr id 1) (.int .i64 (nth (oneN s) 0 : Nat)) st4 K = K (st4.put id (.cells (lkC ⟨l.epoch, nth (oneN s) 0, l.first, l.want, l.q⟩ t))) := fun K => by simp [i4, lkC]
          have sw : ∀ K, A.store 1 (.ptr id 3) (.int .i64 1) (st4.put id (.cells (lkC ⟨l.epoch, nth (oneN s) 0, l.first, l.want, l.q⟩ t))) K = K (st4.put id (.cells (lkC ⟨l.epoch, nth (oneN s) 0, l.first, 1, l.q⟩ t))) := fun K => by simp [lkC]
          simp only [faddr_ptr, Nat.zero_add, m4 a4, ia, y1, load_l1', nilc_ptr, so, sw]
          refine rest ⟨l.epoch, nth (oneN s) 0, l.first, 1, l.q⟩ t false _ (by unfold freshP; rw [if_pos hg, if_neg hz]) (by simp [hg, hz]) ⟨hl.e1, hl.e2, y2, hl.f, by show 1 ≤ 1000000000000; omega, hl.q⟩ (.inl rfl) (put_at _ _ _) ?_ ?_ ?_ (f4.put (.inl rfl) _)
          · rw [put_ne _ _ (by omega), c4]; simp [hz]
          · rw [put_ne _ _ (by omega)]; exact a4
          · rw [put_ne _ _ (by omega)]; exact b4
      · simp only [hg, decide_false, cond_false]
        exact rest l t false st3 (by unfold freshP; rw [if_neg hg]) (by simp [hg]) hl (.inl rfl) i3 c3 a3 b3 f3
end Go.Ab

/- sinew/link: New, Put, Tick, Waits, Other; ends that nobody made. -/
namespace Go.Ab
open Go.Proofs Go.RowKit Go.Oct
set_option linter.unusedVariables false
set_option linter.unusedSimpArgs false
set_option maxRecDepth 100000
def newP (e : Nat) : Lk := ⟨e, 0, 1, 1, []⟩
theorem newP_ok {e : Nat} (h1 : 1 ≤ e) (h2 : e ≤ 1099511627776) : LkOK (newP e) := ⟨h1, h2, by simp [newP], by simp [newP], by simp [newP], by simp [newP]⟩
theorem lnew_s (e : Nat) (h1 : 1 ≤ e) (h2 : e ≤ 1099511627776) (st : St) : s9 [.int .i64 (e : Nat)] st = some (.ret (.tup [.ptr st.n 0, .int .i64 0]), st.new (.cells (lkC (newP e) 1))) := by
  rw [s9_eq]
  unfold f9
  simp only [bin_lss, show ¬ ((e : Int) < 1) from by omega, decide_false, guard_ff, bin_gtr, show ¬ ((1099511627776 : Int) < (e : Int)) from by omega, cond_false]
  unfold g9b11
  have b : ∀ K, A.build [.int .i64 0, .int .i64 0, .int .i64 0, .int .i64 0, .lst [] 1] [(0, 1, .int .i64 (e : Nat)), (2, 1, .int .i64 1), (3, 1, .int .i64 1)] K = K (.agg (lkC (newP e) 1)) := fun K => rfl
  have bx : ∀ K, A.box (.agg (lkC (newP e) 1)) st K = K (.ptr st.n 0) (st.new (.cells (lkC (newP e) 1))) := fun K => rfl
  simp only [b, bx, er1_ptr, er1_int]
theorem lnew_bad (e : Int) (h : e < 1 ∨ 1099511627776 < e) (st : St) : s9 [.int .i64 e] st = some (.ret (.tup [.ptr0, .int .i64 1]), st) := by
  rw [s9_eq]
  unfold f9
  by_cases h1 : e < 1
  · simp only [bin_lss, h1, decide_true, guard_tf, er1_ptr0, er1_int]
  · simp only [bin_lss, h1, decide_false, guard_ff, bin_gtr, h.resolve_left h1, decide_true, cond_true, er1_ptr0, er1_int]
theorem lnew_at (e : Nat) (st : St) : LAt (st.new (.cells (lkC (newP e) 1))) st.n 1 (newP e) := ⟨new_at _ _, by simp, .inl rfl⟩
theorem lwaits_s {st : St} {id t : Nat} {l : Lk} (h : LAt st id t l) (hl : 1 ≤ l.epoch) : s22 [.ptr id 0] st = some (.ret (.int .i64 (l.q.length : Nat)), st) := by
  rw [s22_eq]
  unfold f22
  obtain ⟨l0, l1, l2, l3, l4⟩ := lload h.ob
  simp only [er1_ptr, lgiven_s h.ob hl, ret_ret, un_not, Bool.not_true, cond_false, nilc_ptr, faddr_ptr, Nat.zero_add, l4, lenL_lst, strsV_len, er1_int]
theorem lother_s {st : St} {id t : Nat} {l : Lk} (h : LAt st id t l) (hl : 1 ≤ l.epoch) : s23 [.ptr id 0] st = some (.ret (.int .i64 (l.other : Nat)), st) := by
  rw [s23_eq]
  unfold f23
  obtain ⟨l0, l1, l2, l3, l4⟩ := lload h.ob
  simp only [er1_ptr, lgiven_s h.ob hl, ret_ret, un_not, Bool.not_true, cond_false, nilc_ptr, faddr_ptr, Nat.zero_add, l1, er1_int]
def tickP (l : Lk) : List (List UInt8) := (List.range (min l.q.length 64)).map fun k => pkt (pk1 l k)
theorem tick_loop {st0 : St} {id t : Nat} {l : Lk} (hob : st0.ob id = some (.cells (lkC l t))) (hid : id < st0.n) (hl : LkOK l) (m : Nat) (hm : m ≤ l.q.length) : ∀ (f k u : Nat) (st : St), k ≤ m → m < f + k → Ks st0 st → Own st0 st 1 u →
    ∃ st' u', g16bz3e f (.ptr id 0) (.lst (strsV ((List.range k).map fun k => pkt (pk1 l k))) u) (.int .i64 (m : Nat)) (.int .i64 (k : Nat)) st = some (.ret (.lst (strsV ((List.range m).map fun k => pkt (pk1 l k))) u'), st') ∧ Ks st0 st' := by
  intro f
  induction f with
  | zero => intro k u st hk hf; omega
  | succ f ih =>
    intro k u st hk hf ks ho
    have hq := hl.q
    unfold g16bz3e
    by_cases h : k < m
    · have e4 : ∀ K, A.bin .add (.int .i64 (k : Nat)) (.int .i64 1) K = K (.int .i64 ((k + 1 : Nat) : Int)) := fun K => bin_inc (by omega) K
      have ob : st.ob id = some (.cells (lkC l t)) := by rw [ks.ob id hid]; exact hob
      have b1 : ∀ (s : List UInt8) K, A.bslice 1 (.str []) 1 [(0, .str s)] K = K (.lst (strsV [s]) 2) := fun s K => rfl
      simp only [bin_lss, show ((k : Int) < (m : Int)) from by omega, decide_true, cond_true, er1_ptr, er1_int, lat_s ob hl k (by omega), ret_ret, b1, elemsOf_strs]
      rw [app_own _ ho (by simp; omega) (szok_strs _), ← strsV_app]
      obtain ⟨k2, o2⟩ := ho.app ks
      simp only [e4]
      have e : ((List.range k).map fun k => pkt (pk1 l k)) ++ [pkt (pk1 l k)] = (List.range (k + 1)).map fun k => pkt (pk1 l k) := by
        rw [List.range_succ, List.map_append]; rfl
      rw [e]
      exact ih (k + 1) _ _ (by omega) (by omega) k2 o2
    · have : k = m := by omega
      subst this
      simp only [bin_lss, Int.lt_irrefl, decide_false, cond_false, er1_lst]
      exact ⟨st, u, rfl, ks⟩
theorem ltick_s {st : St} {id t : Nat} {l : Lk} (h : LAt st id t l) (hl : LkOK l) : s16 [.ptr id 0] st = some (.ret (.lst (strsV (tickP l)) 0), st) := by
  rw [s16_eq]
  have key : ∃ st' u', f16 (.ptr id 0) st = some (.ret (.lst (strsV (tickP l)) u'), st') ∧ Ks st st' := by
    unfold f16
    have hq := hl.q
    obtain ⟨l0, l1, l2, l3, l4⟩ := lload h.ob
    have em : ∀ K, A.min (.int .i64 (l.q.length : Nat)) (.int .i64 64) K = K (.int .i64 ((min l.q.length 64 : Nat) : Int)) := fun K => by
      show K (.int .i64 (if (64 : Int) < (l.q.length : Int) then 64 else (l.q.length : Int))) = _
      congr 2
      split <;> omega
    have hsl : ∀ K, A.slice 1 (.lst (strsV l.q) t) none (some (.int .i64 (min l.q.length 64 : Nat))) (some (.int .i64 (l.q.length : Nat))) K = K (.lst (strsV (l.q.take (min l.q.length 64))) (if min l.q.length 64 = l.q.length then 2 else 0)) := fun K => by
      have e : ((strsV l.q).take (min l.q.length 64)).drop 0 = strsV (l.q.take (min l.q.length 64)) := by rw [List.drop_zero, strsV_take]
      have c : 0 ≤ min l.q.length 64 ∧ min l.q.length 64 ≤ l.q.length ∧ l.q.length ≤ (strsV l.q).length ∧ szok 1 (strsV l.q) = true ∧ (some (V.int .i64 ((min l.q.length 64 : Nat) : Int))).isSome = true := ⟨Nat.zero_le _, Nat.min_le_left _ _, by simp, szok_strs _, rfl⟩
      unfold A.slice
      simp only [bnd, Int.toNat_natCast, show ((0 : Int) ≤ ((min l.q.length 64 : Nat) : Int)) from by omega, show ((0 : Int) ≤ (l.q.length : Int)) from by omega, if_true]
      rw [if_pos c, e]
    have hlen : (l.q.take (min l.q.length 64)).length = min l.q.length 64 := by rw [List.length_take]; omega
    simp only [er1_ptr, lgiven_s h.ob hl.e1, ret_ret, un_not, Bool.not_true, cond_false, nilc_ptr, faddr_ptr, Nat.zero_add, l4, lenL_lst, strsV_len, em, hsl, hlen]
    unfold g16b11101
    obtain ⟨st', u', q1, q2⟩ := tick_loop h.ob h.lt hl (min l.q.length 64) (by omega) big 0 1 st (by omega) (lt_big (by omega)) (Ks.refl st) (.nil _ _ _)
    exact ⟨st', u', q1, q2⟩
  obtain ⟨st', u', h1, h2⟩ := key
  exact fg_of h1 h2 (by simp)
/-- Where Put leaves the others. -/
structure PFr (st st' : St) (id t t' : Nat) : Prop where
  n : st.n ≤ st'.n
  nt : st.nt ≤ st'.nt
  ob : ∀ i, i < st.n → i ≠ id → st'.ob i = st.ob i
  tk : ∀ k, k < st.nt → t ≠ k + 3 → st'.tk k = st.tk k
  tt : t' = t ∨ t' ≤ 2 ∨ st.nt + 3 ≤ t'
theorem TFr.pfr {st st' : St} {id t t' : Nat} (h : TFr st st' id) (ht : t' = t ∨ t' ≤ 2) : PFr st st' id t t' := ⟨h.n, by rw [h.nt]; exact Nat.le_refl _, h.ob, fun k _ _ => by rw [h.tk], ht.elim .inl (fun g => .inr (.inl g))⟩
theorem PFr.own {st st' : St} {id sz t t' u : Nat} (h : PFr st st' id t t') (hu : OwnN st sz u) (hne : u ≤ 2 ∨ u ≠ t) : OwnN st' sz u := by
  rcases hu with g | g | ⟨k, g1, g2, g3⟩
  · exact .inl g
  · exact .inr (.inl g)
  · exact .inr (.inr ⟨k, g1, Nat.lt_of_lt_of_le g2 h.nt, by rw [h.tk k g2 (by omega)]; exact g3⟩)
/-- What Put does: the end, a packet, the error. -/
def putP (l : Lk) (n : Note) : Lk × List (List UInt8) × Nat :=
  if packOK n = false ∨ 32768 < (packB n).length then (l, [], 1)
  else if 4096 ≤ l.q.length then (l, [], 2)
  else if 64 < l.q.length + 1 then (⟨l.epoch, l.other, l.first, l.want, l.q ++ [packB n]⟩, [], 0)
  else (⟨l.epoch, l.other, l.first, l.want, l.q ++ [packB n]⟩, [pkt (pk1 ⟨l.epoch, l.other, l.first, l.want, l.q ++ [packB n]⟩ l.q.length)], 0)
def tokP (ps : List (List UInt8)) : Nat := if ps = [] then 1 else 2
theorem lput_s {st : St} {id t : Nat} {l : Lk} (h : LAt st id t l) (hl : LkOK l) (n : Note) (hn : NoteOK n) :
    ∃ st' t', s13 [.ptr id 0, noteV n] st = some (.ret (.tup [.lst (strsV (putP l n).2.1) (tokP (putP l n).2.1), .int .i64 ((putP l n).2.2 : Nat)]), st') ∧ LAt st' id t' (putP l n).1 ∧ PFr st st' id t t' := by
  rw [s13_eq]
  unfold f13
  have hid := h.lt
  have hq := hl.q
  have bx : ∀ K, A.box (noteV n) st K = K (.ptr st.n 0) (st.new (.cells (noteC n))) := fun K => rfl
  have hob := new_at st (.cells (noteC n))
  have hnv : (V.agg (noteC n)).er1 = noteV n := rfl
  have f1 := (TFr.refl st id).new (.cells (noteC n))
  have i1 : (st.new (.cells (noteC n))).ob id = some (.cells (lkC l t)) := by rw [new_ne _ _ (by omega)]; exact h.ob
  simp only [bx, load_noteb hob, hnv, pack_s n hn, ret_ret]
  generalize st.new (.cells (noteC n)) = st1 at f1 i1
  have fail : ∀ (x6 : V), putP l n = (l, [], 1) → ∃ st' t', g13b11001 (.ptr id 0) x6 (.bool true) st1 = some (.ret (.tup [.lst (strsV (putP l n).2.1) (tokP (putP l n).2.1), .int .i64 ((putP l n).2.2 : Nat)]), st') ∧ LAt st' id t' (putP l n).1 ∧ PFr st st' id t t' := by
    intro x6 hp
    unfold g13b11001
    rw [hp]
    simp only [cond_true, er1_lst, er1_int]
    exact ⟨st1, t, rfl, ⟨i1, by have := f1.n; omega, f1.own h.own⟩, f1.pfr (.inl rfl)⟩
  cases hp : packOK n with
  | false =>
    simp only [Bool.false_eq_true, if_false, P2, ext_0, ext_1, er1_ptr, lgiven_s i1 hl.e1, ret_ret, un_not, Bool.not_true, guard_ff, eql_int, if_true, show (((1 : Nat) : Int) != 0) = true from rfl, guard_tf]
    exact fail _ (by unfold putP; rw [if_pos (.inl hp)])
  | true =>
    have hpl := packB_le hp
    simp only [if_true, P2, ext_0, ext_1, er1_ptr, lgiven_s i1 hl.e1, ret_ret, un_not, Bool.not_true, guard_ff, eql_int, show (((0 : Nat) : Int) != 0) = false from rfl, lenS_str, bin_gtr]
    by_cases hlong : 32768 < (packB n).length
    · simp only [show ((32768 : Int) < ((packB n).length : Int)) from by omega, decide_true]
      exact fail _ (by unfold putP; rw [if_pos (.inr hlong)])
    · have hnot : ¬ (packOK n = false ∨ 32768 < (packB n).length) := by rw [hp]; simpa using hlong
      simp only [show ¬ ((32768 : Int) < ((packB n).length : Int)) from by omega, decide_false]
      unfold g13b11001
      obtain ⟨l0, l1, l2, l3, l4⟩ := lload i1
      simp only [cond_false, nilc_ptr, faddr_ptr, Nat.zero_add, l4, lenL_lst, strsV_len, bin_geq]
      by_cases hfull : 4096 ≤ l.q.length
      · have hP : putP l n = (l, [], 2) := by unfold putP; rw [if_neg hnot, if_pos hfull]
        rw [hP]
        simp only [show ((4096 : Int) ≤ (l.q.length : Int)) from by omega, decide_true, cond_true, er1_lst, er1_int]
        exact ⟨st1, t, rfl, ⟨i1, by have := f1.n; omega, f1.own h.own⟩, f1.pfr (.inl rfl)⟩
      · simp only [show ¬ ((4096 : Int) ≤ (l.q.length : Int)) from by omega, decide_false, cond_false]
        unfold g13b111
        have b1 : ∀ (s : List UInt8) K, A.bslice 1 (.str []) 1 [(0, .str s)] K = K (.lst (strsV [s]) 2) := fun s K => rfl
        have hown := f1.own h.own
        have htok : Tok st1 1 t := by
          rcases hown with g | g | ⟨k, g1, g2, g3⟩
          · exact .inl g
          · exact .inr (.inl g)
          · exact .inr (.inr ⟨k, g1, g3⟩)
        simp only [nilc_ptr, faddr_ptr, Nat.zero_add, l4, b1, elemsOf_strs]
        rw [app_tok _ htok (by simp; omega) (szok_strs _), ← strsV_app]
        have i2 : (appSt st1 t 1).ob id = some (.cells (lkC l t)) := by rw [appSt_ob]; exact i1
        have sq : ∀ K, A.store 1 (.ptr id 4) (.lst (strsV (l.q ++ [packB n])) (st1.nt + 3)) (appSt st1 t 1) K = K ((appSt st1 t 1).put id (.cells (lkC ⟨l.epoch, l.other, l.first, l.want, l.q ++ [packB n]⟩ (st1.nt + 3)))) := fun K => by
          simp [i1, lkC]
        simp only [sq]
        have i3 := put_at (appSt st1 t 1) id (.cells (lkC ⟨l.epoch, l.other, l.first, l.want, l.q ++ [packB n]⟩ (st1.nt + 3)))
        have hn1 := f1.n
        have hnt1 := f1.nt
        have at3 : LAt ((appSt st1 t 1).put id (.cells (lkC ⟨l.epoch, l.other, l.first, l.want, l.q ++ [packB n]⟩ (st1.nt + 3)))) id (st1.nt + 3) ⟨l.epoch, l.other, l.first, l.want, l.q ++ [packB n]⟩ :=
          ⟨i3, by rw [put_n, appSt_n]; omega, .inr (.inr ⟨st1.nt, rfl, by rw [put_nt, appSt_nt]; omega, by rw [put_tk]; exact appSt_new _ _ _⟩)⟩
        have fr3 : PFr st ((appSt st1 t 1).put id (.cells (lkC ⟨l.epoch, l.other, l.first, l.want, l.q ++ [packB n]⟩ (st1.nt + 3)))) id t (st1.nt + 3) := by
          refine ⟨by rw [put_n, appSt_n]; exact hn1, by rw [put_nt, appSt_nt]; omega, fun i hi hd => by rw [put_ne _ _ hd, appSt_ob]; exact f1.ob i hi hd, fun k hk ht => ?_, .inr (.inr (by omega))⟩
          rw [put_tk, appSt_tk _ _ _ _ (by omega) ht, f1.tk]
        have hl3 : LkOK ⟨l.epoch, l.other, l.first, l.want, l.q ++ [packB n]⟩ := ⟨hl.e1, hl.e2, hl.o, hl.f, hl.w, by simp; omega⟩
        generalize (appSt st1 t 1).put id (.cells (lkC ⟨l.epoch, l.other, l.first, l.want, l.q ++ [packB n]⟩ (st1.nt + 3))) = st3 at i3 at3 fr3
        unfold g13b1111
        obtain ⟨k0, k1, k2, k3, k4⟩ := lload i3
        have hlen : (l.q ++ [packB n]).length = l.q.length + 1 := by simp
        simp only [nilc_ptr, faddr_ptr, Nat.zero_add, k4, lenL_lst, strsV_len, hlen, bin_gtr]
        by_cases h64 : 64 < l.q.length + 1
        · have hP : putP l n = (⟨l.epoch, l.other, l.first, l.want, l.q ++ [packB n]⟩, [], 0) := by unfold putP; rw [if_neg hnot, if_neg hfull, if_pos h64]
          rw [hP]
          simp only [show ((64 : Int) < ((l.q.length + 1 : Nat) : Int)) from by omega, decide_true, cond_true, er1_lst, er1_int]
          exact ⟨st3, _, rfl, at3, fr3⟩
        · have hP : putP l n = (⟨l.epoch, l.other, l.first, l.want, l.q ++ [packB n]⟩, [pkt (pk1 ⟨l.epoch, l.other, l.first, l.want, l.q ++ [packB n]⟩ l.q.length)], 0) := by unfold putP; rw [if_neg hnot, if_neg hfull, if_neg h64]
          rw [hP]
          have es : ∀ K, A.bin .sub (.int .i64 (l.q.length + 1 : Nat)) (.int .i64 1) K = K (.int .i64 (l.q.length : Nat)) := fun K => bin_subN (l.q.length + 1) 1 K (by omega) (by omega)
          simp only [show ¬ ((64 : Int) < ((l.q.length + 1 : Nat) : Int)) from by omega, decide_false, cond_false, k4, lenL_lst, strsV_len, hlen, es, er1_ptr, er1_int, lat_s i3 hl3 l.q.length (by show l.q.length < (l.q ++ [packB n]).length; omega), ret_ret, b1, er1_lst]
          exact ⟨st3, _, rfl, at3, fr3⟩
/-! ### ends that nobody made -/
def lk0 : Lk := ⟨0, 0, 0, 0, []⟩
structure LNo (st : St) (v : V) : Prop where
  v : v = .ptr0 ∨ ∃ p, v = .ptr p 0 ∧ st.ob p = some (.cells (lkC lk0 1)) ∧ p < st.n
theorem LNo.er1 {st : St} {v : V} (h : LNo st v) : v.er1 = v := by
  rcases h.v with g | ⟨p, g1, _, _⟩ <;> (first | rw [g] | rw [g1]) <;> rfl
theorem LNo.old {st st' : St} {v : V} (h : LNo st v) (hn : st.n ≤ st'.n) (k : ∀ i, i < st.n → st'.ob i = st.ob i) : LNo st' v := by
  rcases h.v with g | ⟨p, g1, g2, g3⟩
  · exact ⟨.inl g⟩
  · exact ⟨.inr ⟨p, g1, by rw [k p g3]; exact g2, Nat.lt_of_lt_of_le g3 hn⟩⟩
theorem lno_given {st : St} {v : V} (h : LNo st v) : s31 [v] st = some (.ret (.bool false), st) := by
  rw [s31_eq]
  unfold f31
  rcases h.v with rfl | ⟨p, rfl, h2, _⟩
  · simp only [eql_ptr0, Bool.not_true, guard_ft, er1_bool]
  · obtain ⟨l0, _⟩ := lload h2
    simp only [eql_ptr, guard_tt, nilc_ptr, faddr_ptr, Nat.zero_add, l0, bin_gtr, show ¬ ((0 : Int) < ((lk0.epoch : Nat) : Int)) from by simp [lk0], decide_false, er1_bool]
theorem lno_waits {st : St} {v : V} (h : LNo st v) : s22 [v] st = some (.ret (.int .i64 0), st) := by
  rw [s22_eq]
  unfold f22
  simp only [h.er1, lno_given h, ret_ret, un_not, Bool.not_false, cond_true, er1_int]
theorem lno_other {st : St} {v : V} (h : LNo st v) : s23 [v] st = some (.ret (.int .i64 0), st) := by
  rw [s23_eq]
  unfold f23
  simp only [h.er1, lno_given h, ret_ret, un_not, Bool.not_false, cond_true, er1_int]
theorem lno_tick {st : St} {v : V} (h : LNo st v) : s16 [v] st = some (.ret (.lst [] 0), st) := by
  rw [s16_eq]
  refine fg_of (st' := st) (v := .lst [] 1) ?_ (Ks.refl st) rfl
  unfold f16
  simp only [h.er1, lno_given h, ret_ret, un_not, Bool.not_false, cond_true, er1_lst]
theorem lno_put {st : St} {v : V} (h : LNo st v) (n : Note) (hn : NoteOK n) : ∃ st', s13 [v, noteV n] st = some (.ret (.tup [.lst [] 1, .int .i64 1]), st') ∧ st.n ≤ st'.n ∧ ∀ i, i < st.n → st'.ob i = st.ob i := by
  rw [s13_eq]
  unfold f13
  have bx : ∀ K, A.box (noteV n) st K = K (.ptr st.n 0) (st.new (.cells (noteC n))) := fun K => rfl
  have hob := new_at st (.cells (noteC n))
  have hnv : (V.agg (noteC n)).er1 = noteV n := rfl
  have h1 := h.old (st' := st.new (.cells (noteC n))) (by simp) (fun i hi => new_ne _ _ (by omega))
  simp only [bx, load_noteb hob, hnv, pack_s n hn, ret_ret, h.er1, lno_given h1, un_not, Bool.not_false, guard_tf]
  refine ⟨_, ?_, by simp, fun i hi => new_ne (st := st) (.cells (noteC n)) (by omega)⟩
  cases packOK n <;> simp only [Bool.false_eq_true, if_false, if_true, P2, ext_0, ext_1] <;> unfold g13b11001 <;> simp only [cond_true, er1_lst, er1_int]
theorem lno_take {st : St} {v : V} (h : LNo st v) (s : List UInt8) (hs : s.length ≤ 9223372036854775807) : ∃ st', s19 [v, .str s] st = some (.ret (cameV [] [] false), st') ∧ st.n ≤ st'.n ∧ ∀ i, i < st.n → st'.ob i = st.ob i := by
  rw [s19_eq]
  unfold f19
  have bx : ∀ K, A.box (.agg [.lst [] 1, .lst [] 1, .bool false]) st K = K (.ptr st.n 0) (st.new (.cells (cC [] 1 [] 1 false))) := fun K => rfl
  have f0 := (TFr.refl st st.n).new (.cells (cC [] 1 [] 1 false))
  have c0 := new_at st (.cells (cC [] 1 [] 1 false))
  have n0 : (st.new (.cells (cC [] 1 [] 1 false))).n = st.n + 1 := by simp
  simp only [bx]
  generalize st.new (.cells (cC [] 1 [] 1 false)) = st1 at f0 c0 n0
  simp only [er1_str, lread_s s hs, ret_ret, ext_0, ext_1, ext_2, box_zero, new_n, n0]
  have f1 := (f0.new (.cells (nC 0 [] 1 [] 1 [] 1))).new (.cells (nC 0 [] 1 [] 1 [] 1))
  have c1 : ((st1.new (.cells (nC 0 [] 1 [] 1 [] 1))).new (.cells (nC 0 [] 1 [] 1 [] 1))).ob st.n = some (.cells (cC [] 1 [] 1 false)) := by rw [new_ne _ _ (by simp; omega), new_ne _ _ (by omega)]; exact c0
  have a1 : ((st1.new (.cells (nC 0 [] 1 [] 1 [] 1))).new (.cells (nC 0 [] 1 [] 1 [] 1))).ob (st.n + 1) = some (.cells (nC 0 [] 1 [] 1 [] 1)) := by rw [new_ne _ _ (by simp; omega), ← n0]; exact new_at _ _
  have b1 : ((st1.new (.cells (nC 0 [] 1 [] 1 [] 1))).new (.cells (nC 0 [] 1 [] 1 [] 1))).ob (st.n + 1 + 1) = some (.cells (nC 0 [] 1 [] 1 [] 1)) := by
    have : st.n + 1 + 1 = (st1.new (.cells (nC 0 [] 1 [] 1 [] 1))).n := by simp [n0]
    rw [this]; exact new_at _ _
  generalize (st1.new (.cells (nC 0 [] 1 [] 1 [] 1))).new (.cells (nC 0 [] 1 [] 1 [] 1)) = st2 at f1 c1 a1 b1
  have b2 : (st2.put (st.n + 1) (.cells (noteC (oneN s)))).ob (st.n + 1 + 1) = some (.cells (nC 0 [] 1 [] 1 [] 1)) := by rw [put_ne _ _ (by omega)]; exact b1
  simp only [store_note a1, store_note b2]
  have f3 := (f1.put (j := st.n + 1) (.inr (by omega)) (.cells (noteC (oneN s)))).put (j := st.n + 1 + 1) (.inr (by omega)) (.cells (noteC (rdN s).1))
  have c3 : ((st2.put (st.n + 1) (.cells (noteC (oneN s)))).put (st.n + 1 + 1) (.cells (noteC (rdN s).1))).ob st.n = some (.cells (cC [] 1 [] 1 false)) := by rw [put_ne _ _ (by omega), put_ne _ _ (by omega)]; exact c1
  generalize (st2.put (st.n + 1) (.cells (noteC (oneN s)))).put (st.n + 1 + 1) (.cells (noteC (rdN s).1)) = st3 at f3 c3
  have h3 := h.old f3.n (fun i hi => f3.ob i hi (by omega))
  unfold g19b11
  simp only [h.er1, lno_given h3, ret_ret, kid_eq, noP_ret, un_not, Bool.not_false, guard_tf]
  unfold g19b1100_8
  have b : ∀ K, A.build [.lst [] 1, .lst [] 1, .bool false] [] K = K (.agg (cC [] 1 [] 1 false)) := fun K => rfl
  have s1 : ∀ K, A.store 3 (.ptr st.n 0) (.agg (cC [] 1 [] 1 false)) st3 K = K (st3.put st.n (.cells (cC [] 1 [] 1 false))) := fun K => by
    rw [store_agg, c3, obo_some]; simp [cC, Go.Ab.putL]
  have l1 : ∀ K, A.load true 3 (.ptr st.n 0) (st3.put st.n (.cells (cC [] 1 [] 1 false))) K = K (.agg (cC [] 1 [] 1 false)) (st3.put st.n (.cells (cC [] 1 [] 1 false))) := fun K => by
    rw [load_obA, put_at, obo_some]; rfl
  have her : (V.agg (cC [] 1 [] 1 false)).er1 = cameV [] [] false := rfl
  have ff := f3.put (j := st.n) (.inr (Nat.le_refl _)) (.cells (cC [] 1 [] 1 false))
  simp only [guard_tf, b, s1, l1, kid_eq, rcell_some, res_one, her]
  exact ⟨_, rfl, ff.n, fun i hi => ff.ob i hi (by omega)⟩
end Go.Ab

/- sinewlaw15.LinkNobody. -/
namespace Go.Ab
open Go.Proofs Go.RowKit Go.Oct
set_option linter.unusedVariables false
set_option linter.unusedSimpArgs false
set_option maxRecDepth 100000
structure Kp (st st' : St) : Prop where
  n : st.n ≤ st'.n
  ob : ∀ i, i < st.n → st'.ob i = st.ob i
theorem Kp.refl (st : St) : Kp st st := ⟨Nat.le_refl _, fun _ _ => rfl⟩
theorem Kp.trans {a b c : St} (h : Kp a b) (k : Kp b c) : Kp a c := ⟨Nat.le_trans h.n k.n, fun i hi => (k.ob i (Nat.lt_of_lt_of_le hi h.n)).trans (h.ob i hi)⟩
theorem lnobody_step (s : List UInt8) (hs : s.length ≤ 9223372036854775807) (n : Note) (hn : NoteOK n) (p : Nat) (v0 v1 v : V) (i : Nat) (hv : [v0, v1][i]? = some v) (L : V → V → V → V → St → Res) (st : St) (hj : LNo st v) (hi : i < 2) :
    ∃ st', g7bz1ft L (.str s) (.ptr p 0) (.lst [v0, v1] 2) (.int .i64 (i : Nat)) (.lst [] 1) (.int .i64 1) st = L (.str s) (.ptr p 0) (.lst [v0, v1] 2) (.int .i64 ((i + 1 : Nat) : Int)) st' ∧ Kp st st' := by
  have hc : v.cells = [v] := by rcases hj.v with g | ⟨_, g, _, _⟩ <;> rw [g] <;> rfl
  have ia : ∀ K, A.iaddr 1 (.lst [v0, v1] 2) (.int .i64 (i : Nat)) K = K (.lptr [v]) := fun K => by
    have := iaddr_lst (l := [v0, v1]) (t := 2) (sz := 1) K hv (by rw [hc]; rfl)
    rw [this, hc]
  have e4 : ∀ K, A.bin .add (.int .i64 (i : Nat)) (.int .i64 1) K = K (.int .i64 ((i + 1 : Nat) : Int)) := fun K => bin_inc (by omega) K
  obtain ⟨st1, t1, t2, t3⟩ := lno_take hj s hs
  have hj1 := hj.old t2 t3
  have bx : ∀ K, A.box (.agg [.lst [] 1, .lst [] 1, .bool false]) st1 K = K (.ptr st1.n 0) (st1.new (.cells (cC [] 1 [] 1 false))) := fun K => rfl
  have sc : ∀ K, A.store 3 (.ptr st1.n 0) (cameV [] [] false) (st1.new (.cells (cC [] 1 [] 1 false))) K = K ((st1.new (.cells (cC [] 1 [] 1 false))).put st1.n (.cells (cC [] 0 [] 0 false))) := fun K => by
    unfold cameV
    rw [store_agg, new_at, obo_some]; simp [cC, Go.Ab.putL]
  have k2 : Kp st1 ((st1.new (.cells (cC [] 1 [] 1 false))).put st1.n (.cells (cC [] 0 [] 0 false))) := ⟨by simp, fun i hi => by rw [put_ne _ _ (by omega), new_ne _ _ (by omega)]⟩
  have hj2 := hj1.old k2.n k2.ob
  have oc := put_at (st1.new (.cells (cC [] 1 [] 1 false))) st1.n (.cells (cC [] 0 [] 0 false))
  unfold g7bz1ft
  simp only [ia, load_l1', hj.er1, er1_str, t1, ret_ret, bx, sc, lenL_lst, List.length_nil, Int.natCast_zero, bin_gtr, Int.lt_irrefl, decide_false, guard_ff, eql_int, if_true, bne_self_eq_false]
  generalize (st1.new (.cells (cC [] 1 [] 1 false))).put st1.n (.cells (cC [] 0 [] 0 false)) = st2 at k2 hj2 oc
  generalize st1.n = c at oc
  have c0 : ∀ K, A.load false 1 (.ptr c 0) st2 K = K (.lst [] 0) st2 := fun K => by simp [oc, cC, notesV]
  have c1 : ∀ K, A.load false 1 (.ptr c 1) st2 K = K (.lst [] 0) st2 := fun K => by simp [oc, cC]
  have c2 : ∀ K, A.load false 1 (.ptr c 2) st2 K = K (.bool false) st2 := fun K => by simp [oc, cC]
  have ez : ∀ K, A.bin .add (.int .i64 0) (.int .i64 0) K = K (.int .i64 0) := fun K => rfl
  unfold g7bz5ra_8
  simp only [guard_ff, ia, load_l1', hj2.er1, lno_tick hj2, ret_ret, lenL_lst, List.length_nil, Int.natCast_zero, bin_gtr, Int.lt_irrefl, decide_false]
  unfold g7bz5ra_17
  simp only [guard_ff, faddr_ptr, Nat.zero_add, c0, c1, lenL_lst, List.length_nil, Int.natCast_zero, ez, bin_gtr, Int.lt_irrefl, decide_false]
  unfold g7bz5ra_27
  simp only [guard_ff, faddr_ptr, Nat.zero_add, c2, ia, load_l1', hj2.er1, lno_waits hj2, ret_ret, eql_int, if_true, bne_self_eq_false]
  unfold g7bz5ra_39
  simp only [guard_ff, ia, load_l1', hj2.er1, lno_other hj2, ret_ret, eql_int, if_true, bne_self_eq_false, cond_false, e4]
  exact ⟨st2, rfl, (Kp.mk t2 t3).trans k2⟩
theorem linkNobody_law (n : Note) (hn : NoteOK n) (s : List UInt8) (hs : s.length ≤ 9223372036854775807) (st : St) : ∃ st', s7 [noteV n, .str s] st = some (.ret (.bool true), st') := by
  rw [s7_eq]
  unfold f7
  have bx : ∀ K, A.box (noteV n) st K = K (.ptr st.n 0) (st.new (.cells (noteC n))) := fun K => rfl
  have b : ∀ K, A.build [.int .i64 0, .int .i64 0, .int .i64 0, .int .i64 0, .lst [] 1] [] K = K (.agg (lkC lk0 1)) := fun K => rfl
  have bj : ∀ (st : St) K, A.box (.agg (lkC lk0 1)) st K = K (.ptr st.n 0) (st.new (.cells (lkC lk0 1))) := fun st K => rfl
  have bs : ∀ (q : Nat) K, A.bslice 1 .ptr0 2 [(0, .ptr0), (1, .ptr q 0)] K = K (.lst [.ptr0, .ptr q 0] 2) := fun q K => rfl
  simp only [bx, b, bj, bs, new_n]
  have hp : ((st.new (.cells (noteC n))).new (.cells (lkC lk0 1))).ob st.n = some (.cells (noteC n)) := by simp [new_ob]
  have hq : ((st.new (.cells (noteC n))).new (.cells (lkC lk0 1))).ob (st.n + 1) = some (.cells (lkC lk0 1)) := by simp [new_ob]
  have hN : ((st.new (.cells (noteC n))).new (.cells (lkC lk0 1))).n = st.n + 2 := by simp
  generalize (st.new (.cells (noteC n))).new (.cells (lkC lk0 1)) = st1 at hp hq hN
  have h0 : LNo st1 .ptr0 := ⟨.inl rfl⟩
  have h1 : LNo st1 (.ptr (st.n + 1) 0) := ⟨.inr ⟨_, rfl, hq, by omega⟩⟩
  have step : ∀ (f i : Nat) (st2 : St), i ≤ 2 → 2 < f + i → Kp st1 st2 → ∃ st', g7b11010 f (.str s) (.ptr st.n 0) (.lst [.ptr0, .ptr (st.n + 1) 0] 2) (.int .i64 (i : Nat)) st2 = some (.ret (.bool true), st') := by
    intro f
    induction f with
    | zero => intro i st2 hi hf; omega
    | succ f ih =>
      intro i st2 hi hf ho
      unfold g7b11010
      by_cases hlt : i < 2
      · obtain ⟨v, hv⟩ : ∃ v, [V.ptr0, .ptr (st.n + 1) 0][i]? = some v := ⟨_, List.getElem?_eq_getElem hlt⟩
        have hj : LNo st2 v := by
          match i, hlt with
          | 0, _ => cases hv; exact h0.old ho.n ho.ob
          | 1, _ => cases hv; exact h1.old ho.n ho.ob
        have hc : v.cells = [v] := by rcases hj.v with g | ⟨_, g, _, _⟩ <;> rw [g] <;> rfl
        have ia : ∀ K, A.iaddr 1 (.lst [.ptr0, .ptr (st.n + 1) 0] 2) (.int .i64 (i : Nat)) K = K (.lptr [v]) := fun K => by
          have := iaddr_lst (l := [.ptr0, .ptr (st.n + 1) 0]) (t := 2) (sz := 1) K hv (by rw [hc]; rfl)
          rw [this, hc]
        have hnv : (V.agg (noteC n)).er1 = noteV n := rfl
        have hp2 : st2.ob st.n = some (.cells (noteC n)) := by rw [ho.ob _ (by omega)]; exact hp
        obtain ⟨st3, w1, w2, w3⟩ := lno_put hj n hn
        have k3 : Kp st1 st3 := ho.trans ⟨w2, w3⟩
        have hj3 := hj.old w2 w3
        simp only [lenL_lst, List.length_cons, List.length_nil, bin_lss, show ((i : Int) < ((0 + 1 + 1 : Nat) : Int)) from by omega, decide_true, cond_true, ia, load_l1', load_noteb hp2, hj.er1, hnv, w1, ret_ret, kid_eq, noP_ret, ext_0, ext_1]
        obtain ⟨st4, q1, q2⟩ := lnobody_step s hs n hn st.n .ptr0 (.ptr (st.n + 1) 0) v i hv (g7b11010 f) st3 hj3 hlt
        rw [q1]
        exact ih (i + 1) st4 (by omega) (by omega) (k3.trans q2)
      · have : i = 2 := by omega
        subst this
        simp only [lenL_lst, List.length_cons, List.length_nil, bin_lss, show ¬ (((2 : Nat) : Int) < ((0 + 1 + 1 : Nat) : Int)) from by omega, decide_false, cond_false, s11_val, ret_ret, er1_bool]
        exact ⟨_, rfl⟩
  exact step big 0 st1 (by omega) (by have := big_le; omega) (Kp.refl _)
theorem linkNobody_row {W : World} {v0 v1 : Value} {x0 x1 : V} {n0 n1 : Nat}
    (r0 : Rs (E0 W) [x0] [v0]) (s0 : Sh Try.prog n0 36 x0.cells) (f0 : fit Try.prog 36 x0)
    (r1 : Rs (E0 W) [x1] [v1]) (s1 : Sh Try.prog n1 9 x1.cells) (f1 : fit Try.prog 9 x1) :
    Calls Try.prog 7 #[v0, v1] W fun e w' => e = .returned (.bool true) ∧ Below W.heap.size W w' := by
  obtain ⟨n, rfl, hn⟩ := in_note s0 f0
  obtain ⟨s, rfl, hs⟩ := in_str s1 f1 Try.underlying9
  obtain ⟨st', h⟩ := linkNobody_law n hn s hs St0
  exact bool_row sim7 W _ _ _ h (Rs.cons r0 r1)
end Go.Ab

/- What packets tell. -/
namespace Go.Ab
open Go.Proofs Go.RowKit Go.Oct
set_option linter.unusedVariables false
set_option linter.unusedSimpArgs false
set_option maxRecDepth 100000
theorem odd_nat {k : Nat} (h : k ≤ 4611686018427387903) : oddN (k : Int) = false := by
  simp only [oddN, Bool.or_eq_false_iff, decide_eq_false_iff_not]; omega
theorem pk2_pack {l : Lk} (hl : LkOK l) : packOK (pk2 l) = true ∧ (pk2 l).texts.length + lens (pk2 l).rows ≤ 4096 := by
  have h1 := odd_nat (k := l.epoch) (by have := hl.e2; omega)
  have h2 := odd_nat hl.o
  have h3 := odd_nat (k := l.want) (by have := hl.w; omega)
  have hf : fitsW (pk2 l) = true := by simp [fitsW, pk2, greatF, manyF, h1, h2, h3]
  have hb : (bodyB (pk2 l)).length ≤ 1048576 := by
    have a1 := putN_len9 (2 : Int).toNat
    have a2 := putN_len9 (pk2 l).nums.length
    have a3 := putN_len9 0
    have a4 := numsB_len (pk2 l).nums
    have a5 := listB_len2 (l := []) (by simp)
    have a6 : (pk2 l).nums.length = 3 := rfl
    simp only [List.length_nil] at a5
    show (headB (pk2 l) ++ rowsB (pk2 l).rows).length ≤ 1048576
    unfold headB
    simp only [show (pk2 l).rows = [] from rfl, show (pk2 l).texts = [] from rfl, show (pk2 l).kind = 2 from rfl, rowsB, List.flatMap_nil, List.length_append, List.length_nil, List.append_nil]
    omega
  exact ⟨by simp [packOK, hf, hb], by simp [pk2, lens]⟩
theorem pk1_pack {l : Lk} (hl : LkOK l) (k : Nat) (hk : k < l.q.length) (hq : (l.q.getD k []).length ≤ 65536) : packOK (pk1 l k) = true ∧ (pk1 l k).texts.length + lens (pk1 l k).rows ≤ 4096 := by
  have hql := hl.q
  have h1 := odd_nat (k := l.epoch) (by have := hl.e2; omega)
  have h2 := odd_nat hl.o
  have h3 := odd_nat (k := l.want) (by have := hl.w; omega)
  have h4 := odd_nat (k := l.first + k) (by have := hl.f; omega)
  have h5 : longT (l.q.getD k []) = false := by unfold longT; simp only [decide_eq_false_iff_not]; omega
  have h5' := h5
  rw [List.getD_eq_getElem?_getD] at h5'
  have hf : fitsW (pk1 l k) = true := by
    simp only [Int.natCast_add] at h4
    simp [fitsW, pk1, greatF, manyF, h1, h2, h3, h4, h5, h5']
  have hb : (bodyB (pk1 l k)).length ≤ 1048576 := by
    have a1 := putN_len9 (1 : Int).toNat
    have a2 := putN_len9 (pk1 l k).nums.length
    have a3 := putN_len9 0
    have a4 := numsB_len (pk1 l k).nums
    have a5 := listB_len2 (l := [l.q.getD k []]) (by intro s hs; rw [List.mem_singleton.1 hs]; exact hq)
    have a6 : (pk1 l k).nums.length = 4 := rfl
    simp only [List.length_singleton] at a5
    show (headB (pk1 l k) ++ rowsB (pk1 l k).rows).length ≤ 1048576
    unfold headB
    simp only [show (pk1 l k).rows = [] from rfl, show (pk1 l k).texts = [l.q.getD k []] from rfl, show (pk1 l k).kind = 1 from rfl, rowsB, List.flatMap_nil, List.length_append, List.length_nil, List.append_nil]
    omega
  exact ⟨by simp [packOK, hf, hb], by simp [pk1, lens]⟩
theorem one_pkt {n : Note} (hp : packOK n = true) (hs : n.texts.length + lens n.rows ≤ 4096) : oneO (pkt n) = true ∧ oneN (pkt n) = n := by
  have hu := unp_pack hp hs []
  rw [List.append_nil] at hu
  have e : pkt n = packB n := by unfold pkt; rw [if_pos hp]
  unfold oneO oneN
  rw [e, hu]
  simp
theorem rd_pk2 {l : Lk} (hl : LkOK l) : rdN (pkt (pk2 l)) = (emptyN, true) ∧ oneN (pkt (pk2 l)) = pk2 l := by
  obtain ⟨a, b⟩ := pk2_pack hl
  obtain ⟨c, d⟩ := one_pkt a b
  refine ⟨?_, d⟩
  unfold rdN
  rw [c, d, if_pos ⟨rfl, rfl⟩, if_pos ⟨rfl, rfl, rfl⟩]
theorem rd_pk1 {l : Lk} (hl : LkOK l) {k : Nat} (hk : k < l.q.length) {m : Note} (hm : l.q.getD k [] = packB m) (hp : packOK m = true) (hs : m.texts.length + lens m.rows ≤ 4096) (hlen : (packB m).length ≤ 65536) : rdN (pkt (pk1 l k)) = (m, true) ∧ oneN (pkt (pk1 l k)) = pk1 l k := by
  obtain ⟨a, b⟩ := pk1_pack hl k hk (by rw [hm]; exact hlen)
  obtain ⟨c, d⟩ := one_pkt a b
  refine ⟨?_, d⟩
  have e : packB m = pkt m := by unfold pkt; rw [if_pos hp]
  obtain ⟨f, g⟩ := one_pkt hp hs
  have ht : (pk1 l k).texts.getD 0 [] = pkt m := by
    show l.q.getD k [] = pkt m
    rw [hm, e]
  have h2 : ¬ ((pk1 l k).kind = 2 ∧ (pk1 l k).nums.length = 3 ∧ (pk1 l k).texts.length = 0) := fun h => by
    have := h.1
    simp [pk1] at this
  unfold rdN
  rw [c, d, if_pos ⟨rfl, rfl⟩, if_neg h2, if_pos ⟨rfl, rfl, rfl⟩, ht, f, g]
/-! What Take does with such packets. -/
/-- A bare packet (of the end x at some time). -/
theorem take_bare {l x : Lk} (hx : LkOK x) (h1 : max l.other 1 ≤ x.epoch) :
    takeP l (pkt (pk2 x)) = (if x.other ≠ l.epoch then (freshP l x.epoch, [], [pkt (pk2 (freshP l x.epoch))], decide (l.other < x.epoch) && decide (0 < l.other)) else (ackP (freshP l x.epoch) x.want, [], [], decide (l.other < x.epoch) && decide (0 < l.other))) := by
  obtain ⟨a, b⟩ := rd_pk2 hx
  unfold takeP
  rw [a, b]
  have n0 : nth (pk2 x) 0 = x.epoch := rfl
  have n1 : nth (pk2 x) 1 = x.other := rfl
  have n2 : nth (pk2 x) ((pk2 x).nums.length - 1) = x.want := rfl
  have hk : ¬ ((pk2 x).kind = 1) := by simp [pk2]
  rw [n0, n1, n2, if_neg (by simp; omega)]
  by_cases h : x.other = l.epoch
  · have h' : ¬ (x.other ≠ l.epoch) := fun g => g h
    simp only [if_neg h', if_neg hk]
  · have h' : x.other ≠ l.epoch := h
    simp only [if_pos h']
/-- A full packet. -/
theorem take_full {l x : Lk} (hx : LkOK x) {k : Nat} (hk : k < x.q.length) {m : Note} (hm : x.q.getD k [] = packB m) (hp : packOK m = true) (hs : m.texts.length + lens m.rows ≤ 4096) (hlen : (packB m).length ≤ 65536) (h1 : max l.other 1 ≤ x.epoch) :
    takeP l (pkt (pk1 x k)) = (if x.other ≠ l.epoch then (freshP l x.epoch, [], [pkt (pk2 (freshP l x.epoch))], decide (l.other < x.epoch) && decide (0 < l.other))
      else if x.first + k = (freshP l x.epoch).want then (nextP (ackP (freshP l x.epoch) x.want), [m], [pkt (pk2 (nextP (ackP (freshP l x.epoch) x.want)))], decide (l.other < x.epoch) && decide (0 < l.other))
      else (ackP (freshP l x.epoch) x.want, [], [pkt (pk2 (ackP (freshP l x.epoch) x.want))], decide (l.other < x.epoch) && decide (0 < l.other))) := by
  obtain ⟨a, b⟩ := rd_pk1 hx hk hm hp hs hlen
  unfold takeP
  rw [a, b]
  have n0 : nth (pk1 x k) 0 = x.epoch := rfl
  have n1 : nth (pk1 x k) 1 = x.other := rfl
  have n2 : nth (pk1 x k) 2 = x.first + k := by
    show ((x.first + k : Nat) : Int).toNat = _
    omega
  have n3 : nth (pk1 x k) ((pk1 x k).nums.length - 1) = x.want := rfl
  have hkd : (pk1 x k).kind = 1 := rfl
  rw [n0, n1, n2, n3, if_neg (by simp; omega)]
  by_cases h : x.other = l.epoch
  · have h' : ¬ (x.other ≠ l.epoch) := fun g => g h
    simp only [if_neg h', if_pos hkd]
  · have h' : x.other ≠ l.epoch := h
    simp only [if_pos h']
/-- A packet of an elder end. -/
theorem take_late {l : Lk} {s : List UInt8} (h : nth (oneN s) 0 < max l.other 1) : takeP l s = (l, [], [], false) := by
  unfold takeP
  rw [if_pos (.inr h)]
end Go.Ab

/- Two ends; sinewlaw15.LinkWindow. -/
namespace Go.Ab
open Go.Proofs Go.RowKit Go.Oct
set_option linter.unusedVariables false
set_option linter.unusedSimpArgs false
set_option maxRecDepth 100000
structure Two (st : St) (ia ta : Nat) (a : Lk) (ib tb : Nat) (b : Lk) : Prop where
  pa : LAt st ia ta a
  pb : LAt st ib tb b
  oa : LkOK a
  ob : LkOK b
  ne : ia ≠ ib
  tk : ta ≤ 2 ∨ ta ≠ tb
theorem Two.swap {st : St} {ia ta ib tb : Nat} {a b : Lk} (h : Two st ia ta a ib tb b) : Two st ib tb b ia ta a :=
  ⟨h.pb, h.pa, h.ob, h.oa, h.ne.symm, by rcases h.tk with g | g <;> omega⟩
theorem LAt.bound {st : St} {id t : Nat} {l : Lk} (h : LAt st id t l) : t < st.nt + 3 := by
  rcases h.own with g | g | ⟨k, g1, g2, _⟩ <;> omega
theorem Two.kp {st st' : St} {ia ta ib tb : Nat} {a b : Lk} (h : Two st ia ta a ib tb b) (hn : st.n ≤ st'.n) (hob : ∀ i, i < st.n → st'.ob i = st.ob i) (htk : st'.tk = st.tk) (hnt : st'.nt = st.nt) : Two st' ia ta a ib tb b := by
  have own : ∀ {u : Nat}, OwnN st 1 u → OwnN st' 1 u := fun {u} ho => by
    rcases ho with g | g | ⟨k, g1, g2, g3⟩
    · exact .inl g
    · exact .inr (.inl g)
    · exact .inr (.inr ⟨k, g1, by rw [hnt]; exact g2, by rw [htk]; exact g3⟩)
  exact ⟨⟨by rw [hob _ h.pa.lt]; exact h.pa.ob, by have := h.pa.lt; omega, own h.pa.own⟩, ⟨by rw [hob _ h.pb.lt]; exact h.pb.ob, by have := h.pb.lt; omega, own h.pb.own⟩, h.oa, h.ob, h.ne, h.tk⟩
theorem Two.take {st : St} {ia ta ib tb : Nat} {a b : Lk} (h : Two st ia ta a ib tb b) (s : List UInt8) (hs : s.length ≤ 9223372036854775807) (hok : LkOK (takeP a s).1) :
    ∃ st' t', s19 [.ptr ia 0, .str s] st = some (.ret (cameV (takeP a s).2.1 (takeP a s).2.2.1 (takeP a s).2.2.2), st') ∧ Two st' ia t' (takeP a s).1 ib tb b ∧ TFr st st' ia ∧ (t' = ta ∨ t' = 1) := by
  obtain ⟨st', t', q1, q2, q3, q4⟩ := take_s h.pa h.oa s hs
  refine ⟨st', t', q1, ⟨q2, ⟨by rw [q3.ob ib h.pb.lt (Ne.symm h.ne)]; exact h.pb.ob, by have := q3.n; have := h.pb.lt; omega, q3.own h.pb.own⟩, hok, h.ob, h.ne, by rcases h.tk with g | g <;> rcases q4 with g' | g' <;> omega⟩, q3, q4⟩
theorem Two.put {st : St} {ia ta ib tb : Nat} {a b : Lk} (h : Two st ia ta a ib tb b) (n : Note) (hn : NoteOK n) (hok : LkOK (putP a n).1) :
    ∃ st' t', s13 [.ptr ia 0, noteV n] st = some (.ret (.tup [.lst (strsV (putP a n).2.1) (tokP (putP a n).2.1), .int .i64 ((putP a n).2.2 : Nat)]), st') ∧ Two st' ia t' (putP a n).1 ib tb b ∧ PFr st st' ia ta t' := by
  obtain ⟨st', t', q1, q2, q3⟩ := lput_s h.pa h.oa n hn
  have hb := h.pb.bound
  refine ⟨st', t', q1, ⟨q2, ⟨by rw [q3.ob ib h.pb.lt (Ne.symm h.ne)]; exact h.pb.ob, by have := q3.n; have := h.pb.lt; omega, q3.own h.pb.own (by rcases h.tk with g | g <;> omega)⟩, hok, h.ob, h.ne, ?_⟩, q3⟩
  rcases q3.tt with g | g | g
  · rw [g]; exact h.tk
  · exact .inl g
  · right; omega
/-- A payload of one number. -/
def payN (k : Int) (i : Nat) : Note := ⟨k, [(i : Int)], [], []⟩
theorem pay_ok (k : Int) (i : Nat) (h1 : 1 ≤ k) (h2 : k ≤ 255) (hi : i ≤ 1000000) : NoteOK (payN k i) ∧ packOK (payN k i) = true ∧ (payN k i).texts.length + lens (payN k i).rows ≤ 4096 ∧ (packB (payN k i)).length ≤ 100 := by
  have ho := odd_nat (k := i) (by omega)
  have hf : fitsW (payN k i) = true := by
    have c1 : ¬ (k < 1) := by omega
    have c2 : ¬ (255 < k) := by omega
    simp [fitsW, payN, greatF, manyF, ho, c1, c2]
  have hb : (bodyB (payN k i)).length ≤ 64 := by
    have a1 := putN_len9 k.toNat
    have a2 := putN_len9 (payN k i).nums.length
    have a3 := putN_len9 0
    have a4 := numsB_len (payN k i).nums
    have a5 := listB_len2 (l := []) (by simp)
    have a6 : (payN k i).nums.length = 1 := rfl
    simp only [List.length_nil] at a5
    show (headB (payN k i) ++ rowsB (payN k i).rows).length ≤ 64
    unfold headB
    simp only [show (payN k i).rows = [] from rfl, show (payN k i).texts = [] from rfl, show (payN k i).kind = k from rfl, rowsB, List.flatMap_nil, List.length_append, List.length_nil, List.append_nil]
    omega
  exact ⟨⟨by simp [payN], by simp [payN], by simp [payN], by simp [payN]⟩, by simp [packOK, hf]; omega, by simp [payN, lens], by rw [packB_len]; omega⟩
theorem put_pay {l : Lk} {n : Note} (hp : packOK n = true) (hlen : (packB n).length ≤ 32768) (hq : l.q.length < 4096) : putP l n = (⟨l.epoch, l.other, l.first, l.want, l.q ++ [packB n]⟩, (if 64 < l.q.length + 1 then [] else [pkt (pk1 ⟨l.epoch, l.other, l.first, l.want, l.q ++ [packB n]⟩ l.q.length)]), 0) := by
  unfold putP
  rw [if_neg (by rw [hp]; simp; omega), if_neg (by omega)]
  split <;> rfl
def paysQ (k : Int) (n : Nat) : List (List UInt8) := (List.range n).map fun j => packB (payN k j)
theorem paysQ_len (k : Int) (n : Nat) : (paysQ k n).length = n := by simp [paysQ]
theorem paysQ_snoc (k : Int) (n : Nat) : paysQ k n ++ [packB (payN k n)] = paysQ k (n + 1) := by
  unfold paysQ; rw [List.range_succ, List.map_append]; rfl
theorem paysQ_at (k : Int) (n d j : Nat) (h : d + j < n) : ((paysQ k n).drop d).getD j [] = packB (payN k (d + j)) := by
  unfold paysQ
  rw [List.getD_eq_getElem?_getD, List.getElem?_drop, List.getElem?_map, List.getElem?_range h]; rfl
theorem pkt_len (n : Note) : (pkt n).length ≤ 1048584 := by
  unfold pkt
  split
  · rename_i h; exact packB_le h
  · simp
/-- The payload's note, built. -/
theorem pay_built (i : Nat) (K : V → Res) : (A.bslice 1 (.int .i64 0) 1 [(0, .int .i64 (i : Nat))] fun a2 => A.build [.int .i64 0, .lst [] 1, .lst [] 1, .lst [] 1] [(0, 1, .int .i64 5), (1, 1, a2)] K) = K (.agg (nC 5 [(i : Int)] 2 [] 1 [] 1)) := rfl
theorem pay_er1 (i : Nat) : (V.agg (nC 5 [(i : Int)] 2 [] 1 [] 1)).er1 = noteV (payN 5 i) := rfl
/-- What came, put into a cell. -/
theorem came_box (st : St) (ps : List Note) (ks : List (List UInt8)) (a : Bool) (K : V → St → Res) : (A.box (.agg [.lst [] 1, .lst [] 1, .bool false]) st fun a8 z9 => A.store 3 a8 (cameV ps ks a) z9 fun z10 => K a8 z10) = K (.ptr st.n 0) ((st.new (.cells (cC [] 1 [] 1 false))).put st.n (.cells (cC ps 0 ks 0 a))) := by
  show (A.store 3 (.ptr st.n 0) (cameV ps ks a) (st.new (.cells (cC [] 1 [] 1 false))) fun z10 => K (.ptr st.n 0) z10) = _
  unfold cameV
  rw [store_agg, new_at, obo_some]; simp [cC, Go.Ab.putL]
theorem came_ld {st : St} {c : Nat} {ps : List Note} {ks : List (List UInt8)} {a : Bool} (h : st.ob c = some (.cells (cC ps 0 ks 0 a))) : (∀ K, A.load false 1 (.ptr c 0) st K = K (.lst (notesV ps) 0) st) ∧ (∀ K, A.load false 1 (.ptr c 1) st K = K (.lst (strsV ks) 0) st) ∧ (∀ K, A.load false 1 (.ptr c 2) st K = K (.bool a) st) := by
  refine ⟨fun K => ?_, fun K => ?_, fun K => ?_⟩ <;> simp [h, cC]
/-- The ends of a window, behind so many. -/
def wA (n at_ : Nat) : Lk := ⟨1, 1, 1 + at_, 1, (paysQ 5 n).drop at_⟩
def wB (at_ : Nat) : Lk := ⟨1, 1, 1, 1 + at_, []⟩
theorem wA_ok (n at_ : Nat) (hn : n ≤ 1000) (h : at_ ≤ n) : LkOK (wA n at_) := ⟨by simp [wA], by simp [wA], by simp [wA], by simp [wA]; omega, by simp [wA], by simp [wA, paysQ_len]; omega⟩
theorem wB_ok (at_ : Nat) (h : at_ ≤ 1000) : LkOK (wB at_) := ⟨by simp [wB], by simp [wB], by simp [wB], by simp [wB], by simp [wB]; omega, by simp [wB]⟩
theorem win_take (n at0 j : Nat) (hn : n ≤ 1000) (h : at0 + j < n) : takeP (wB (at0 + j)) (pkt (pk1 (wA n at0) j)) = (wB (at0 + j + 1), [payN 5 (at0 + j)], [pkt (pk2 (wB (at0 + j + 1)))], false) := by
  obtain ⟨a, b, c, d⟩ := pay_ok 5 (at0 + j) (by omega) (by omega) (by omega)
  have hl := paysQ_len 5 n
  have := take_full (l := wB (at0 + j)) (wA_ok n at0 hn (by omega)) (k := j) (by simp [wA, hl]; omega) (paysQ_at 5 n at0 j h) b c (by omega) (by simp [wA, wB])
  rw [this]
  have f : freshP (wB (at0 + j)) (wA n at0).epoch = wB (at0 + j) := by unfold freshP; rw [if_neg (by simp [wA, wB])]
  have g : ackP (wB (at0 + j)) (wA n at0).want = wB (at0 + j) := by unfold ackP; simp [wB]
  rw [if_neg (by simp [wA, wB]), f, g, if_pos (by simp [wA, wB]; omega)]
  have e : nextP (wB (at0 + j)) = wB (at0 + j + 1) := by simp [nextP, wB]; omega
  rw [e]
  simp [wA, wB]
theorem win_ack (n at_ : Nat) (hn : n ≤ 1000) (h : at_ < n) : takeP (wA n at_) (pkt (pk2 (wB (at_ + 1)))) = (wA n (at_ + 1), [], [], false) := by
  have hl := paysQ_len 5 n
  have := take_bare (l := wA n at_) (wB_ok (at_ + 1) (by omega)) (by simp [wA, wB])
  rw [this]
  have f : freshP (wA n at_) (wB (at_ + 1)).epoch = wA n at_ := by unfold freshP; rw [if_neg (by simp [wA, wB])]
  have g : ackP (wA n at_) (wB (at_ + 1)).want = wA n (at_ + 1) := by
    have e : min ((wB (at_ + 1)).want - (wA n at_).first) (wA n at_).q.length = 1 := by simp [wA, wB, hl]; omega
    unfold ackP
    rw [e]
    simp only [wA, List.drop_drop, Lk.mk.injEq, true_and]
    exact ⟨by omega, trivial⟩
  rw [if_neg (by simp [wA, wB]), f, g]
  simp [wA, wB]
theorem win_inner (n : Nat) (hn : n ≤ 199) (at0 : Nat) (h0 : at0 ≤ n) (m : Nat) (hm : m = min (n - at0) 64) (L : V → V → V → V → V → St → Res) (r : V) (ia ib : Nat) : ∀ (f j : Nat) (ta tb : Nat) (st : St), j ≤ m → m < f + j → Two st ia ta (wA n (at0 + j)) ib tb (wB (at0 + j)) →
    ∃ st' ta' tb', g8bzmfym L f (.ptr ia 0) (.ptr ib 0) (.int .i64 (n : Nat)) (.int .i64 (at0 + j : Nat)) r (.lst (strsV (tickP (wA n at0))) 0) (.int .i64 (j : Nat)) st = (A.bin .add r (.int .i64 1) fun a11 => L (.ptr ia 0) (.ptr ib 0) (.int .i64 (n : Nat)) (.int .i64 (at0 + m : Nat)) a11 st') ∧ Two st' ia ta' (wA n (at0 + m)) ib tb' (wB (at0 + m)) := by
  have hl := paysQ_len 5 n
  have htl : (tickP (wA n at0)).length = m := by
    unfold tickP
    rw [List.length_map, List.length_range]
    simp only [wA, List.length_drop, hl]; omega
  intro f
  induction f with
  | zero => intro j ta tb st hj hf; omega
  | succ f ih =>
    intro j ta tb st hj hf h
    unfold g8bzmfym
    by_cases hlt : j < m
    · have hjl : j < (tickP (wA n at0)).length := by omega
      have hget : (tickP (wA n at0))[j] = pkt (pk1 (wA n at0) j) := by simp [tickP]
      have e4 : ∀ K, A.bin .add (.int .i64 (j : Nat)) (.int .i64 1) K = K (.int .i64 ((j + 1 : Nat) : Int)) := fun K => bin_inc (by omega) K
      have e5 : ∀ K, A.bin .add (.int .i64 (at0 + j : Nat)) (.int .i64 1) K = K (.int .i64 ((at0 + (j + 1) : Nat) : Int)) := fun K => by rw [bin_inc (by omega)]; rfl
      have hw := win_take n at0 j (by omega) (by omega)
      obtain ⟨st1, tb1, q1, q2, q3, _⟩ := h.swap.take (pkt (pk1 (wA n at0) j)) (by have := pkt_len (pk1 (wA n at0) j); omega) (by rw [hw]; exact wB_ok _ (by omega))
      rw [hw] at q1 q2
      simp only [lenL_lst, strsV_len, htl, bin_lss, show ((j : Int) < (m : Int)) from by omega, decide_true, cond_true, iaddr_strs 0 hjl, hget, load_l1', er1_ptr, er1_str, q1, ret_ret, came_box]
      have kk : Two ((st1.new (.cells (cC [] 1 [] 1 false))).put st1.n (.cells (cC [payN 5 (at0 + j)] 0 [pkt (pk2 (wB (at0 + j + 1)))] 0 false))) ib tb1 (wB (at0 + j + 1)) ia ta (wA n (at0 + j)) :=
        q2.kp (by simp) (fun i hi => by rw [put_ne _ _ (by omega), new_ne _ _ (by omega)]) rfl rfl
      have oc := put_at (st1.new (.cells (cC [] 1 [] 1 false))) st1.n (.cells (cC [payN 5 (at0 + j)] 0 [pkt (pk2 (wB (at0 + j + 1)))] 0 false))
      generalize (st1.new (.cells (cC [] 1 [] 1 false))).put st1.n (.cells (cC [payN 5 (at0 + j)] 0 [pkt (pk2 (wB (at0 + j + 1)))] 0 false)) = st2 at kk oc
      generalize st1.n = c at oc
      obtain ⟨c0, c1, c2⟩ := came_ld oc
      have ia0 : ∀ K, A.iaddr 4 (.lst (notesV [payN 5 (at0 + j)]) 0) (.int .i64 0) K = K (.lptr (noteC (payN 5 (at0 + j)))) := fun K => iaddr_notes (l := [payN 5 (at0 + j)]) (i := 0) 0 (by simp) K
      have lp : ∀ K, (A.faddr 1 (.lptr (noteC (payN 5 (at0 + j)))) fun a10 => A.load false 1 a10 st2 K) = K (.lst (intsV [((at0 + j : Nat) : Int)]) 0) st2 := fun K => rfl
      have i0 : ∀ K, A.iaddr 1 (.lst (intsV [((at0 + j : Nat) : Int)]) 0) (.int .i64 0) K = K (.lptr [.int .i64 ((at0 + j : Nat) : Int)]) := fun K => rfl
      have s0 : ∀ K, A.iaddr 1 (.lst (strsV [pkt (pk2 (wB (at0 + j + 1)))]) 0) (.int .i64 0) K = K (.lptr [.str (pkt (pk2 (wB (at0 + j + 1))))]) := fun K => rfl
      have nl : (notesV [payN 5 (at0 + j)]).length = 1 := rfl
      unfold g8bzjy6rt
      simp only [faddr_ptr, Nat.zero_add, c0, lenL_lst, nl, eql_int, if_true, show (((1 : Nat) : Int) != 1) = false from rfl, guard_ff, ia0, lp, i0, load_l1', bne_self_eq_false]
      unfold g8bz27sr38_16
      have ha := win_ack n (at0 + j) (by omega) (by omega)
      obtain ⟨st3, ta3, r1, r2, r3, _⟩ := kk.swap.take (pkt (pk2 (wB (at0 + j + 1)))) (by have := pkt_len (pk2 (wB (at0 + j + 1))); omega) (by rw [ha]; exact wA_ok _ _ (by omega) (by omega))
      rw [ha] at r1 r2
      have sl1 : (strsV [pkt (pk2 (wB (at0 + j + 1)))]).length = 1 := rfl
      simp only [guard_ff, faddr_ptr, Nat.zero_add, c1, lenL_lst, sl1, eql_int, if_true, show (((1 : Nat) : Int) != 1) = false from rfl, bne_self_eq_false, cond_false, e5, s0, load_l1', er1_ptr, er1_str, r1, ret_ret, e4]
      exact ih (j + 1) ta3 tb1 st3 (by omega) (by omega) r2
    · have : j = m := by omega
      subst this
      simp only [lenL_lst, strsV_len, htl, bin_lss, Int.lt_irrefl, decide_false, cond_false]
      exact ⟨st, ta, tb, rfl, h⟩
theorem win_rounds (n : Nat) (hn : n ≤ 199) (ia ib : Nat) : ∀ (f r at_ ta tb : Nat) (st : St), r ≤ 8 → 8 < f + r → at_ ≤ n → (64 * r ≤ at_ ∨ at_ = n) → Two st ia ta (wA n at_) ib tb (wB at_) →
    ∃ st', g8bz35m f (.ptr ia 0) (.ptr ib 0) (.int .i64 (n : Nat)) (.int .i64 (at_ : Nat)) (.int .i64 (r : Nat)) st = some (.ret (.bool true), st') := by
  have hl := paysQ_len 5 n
  intro f
  induction f with
  | zero => intro r at_ ta tb st hr hf; omega
  | succ f ih =>
    intro r at_ ta tb st hr hf ha hor h
    unfold g8bz35m
    have hq : (wA n at_).q.length = n - at_ := by simp [wA, hl]
    have e1 := (wA_ok n at_ (by omega) ha).e1
    by_cases hlt : r < 8
    · have htl : (tickP (wA n at_)).length = min (n - at_) 64 := by
        unfold tickP; rw [List.length_map, List.length_range, hq]
      have em : ∀ K, A.min (.int .i64 64) (.int .i64 (n - at_ : Nat)) K = K (.int .i64 ((min (n - at_) 64 : Nat) : Int)) := fun K => by
        show K (.int .i64 (if ((n - at_ : Nat) : Int) < 64 then ((n - at_ : Nat) : Int) else 64)) = _
        congr 2
        split <;> omega
      have es : ∀ K, A.bin .sub (.int .i64 (n : Nat)) (.int .i64 (at_ : Nat)) K = K (.int .i64 ((n - at_ : Nat) : Int)) := fun K => bin_subN n at_ K ha (by omega)
      have e4 : ∀ K, A.bin .add (.int .i64 (r : Nat)) (.int .i64 1) K = K (.int .i64 ((r + 1 : Nat) : Int)) := fun K => bin_inc (by omega) K
      simp only [bin_lss, show ((r : Int) < 8) from by omega, decide_true, cond_true, er1_ptr, ltick_s h.pa h.oa, ret_ret, lenL_lst, strsV_len, htl, lwaits_s h.pa e1, hq, em, eql_int, if_true, bne_self_eq_false, guard_ff, es, cond_false]
      unfold g8bz5lzn
      obtain ⟨st', ta', tb', q1, q2⟩ := win_inner n hn at_ ha (min (n - at_) 64) rfl (g8bz35m f) (.int .i64 (r : Nat)) ia ib big 0 ta tb st (by omega) (lt_big (by omega)) h
      rw [Nat.add_zero, show ((0 : Nat) : Int) = 0 from rfl] at q1
      rw [q1, e4]
      exact ih (r + 1) _ ta' tb' st' (by omega) (by omega) (by omega) (by omega) q2
    · have hat : at_ = n := by omega
      subst hat
      have hq0 : (wA at_ at_).q.length = 0 := by rw [hq]; omega
      simp only [bin_lss, show ¬ ((r : Int) < 8) from by omega, decide_false, cond_false, eql_int, Bool.false_eq_true, if_false, beq_self_eq_true, guard_tt, er1_ptr, lwaits_s h.pa e1, hq0, ret_ret, Int.natCast_zero, s11_val, er1_bool]
      exact ⟨_, rfl⟩
end Go.Ab

/- sinewref15: its packets, Tick, Put. -/
namespace Go.Ab
open Go.Proofs Go.RowKit Go.Oct
set_option linter.unusedVariables false
set_option linter.unusedSimpArgs false
set_option maxRecDepth 100000
def lkV (l : Lk) : V := .agg (lkC l 0)
theorem lkV_er (l : Lk) (t : Nat) : (V.agg (lkC l t)).er1 = lkV l := rfl
theorem lkV_er1 (l : Lk) : (lkV l).er1 = lkV l := rfl
theorem lkV_pu (l : Lk) : (lkV l).pu = true := by simp [lkV, lkC]
theorem load_lk {st : St} {p t : Nat} {l : Lk} (h : st.ob p = some (.cells (lkC l t))) (K : V → St → Res) : A.load true 5 (.ptr p 0) st K = K (.agg (lkC l t)) st := by
  rw [load_obA, h]; rfl
theorem ldv_lk {st : St} {p t : Nat} {l : Lk} (h : st.ob p = some (.cells (lkC l t))) : ldv true 5 (.ptr p 0) st = some (.agg (lkC l t)) := by
  unfold ldv; rw [load_lk h]; rfl
theorem store_lk {st : St} {p t t' : Nat} {l l' : Lk} (h : st.ob p = some (.cells (lkC l' t'))) (K : St → Res) : A.store 5 (.ptr p 0) (.agg (lkC l t)) st K = K (st.put p (.cells (lkC l t))) := by
  rw [store_agg, h, obo_some]; simp [lkC, Go.Ab.putL]
theorem box_lk (l : Lk) (t : Nat) (st : St) (K : V → St → Res) : A.box (.agg (lkC l t)) st K = K (.ptr st.n 0) (st.new (.cells (lkC l t))) := rfl
def lkZ : Lk := ⟨0, 0, 0, 0, []⟩
theorem box_lkZ (st : St) (K : V → St → Res) : A.box (.agg [.int .i64 0, .int .i64 0, .int .i64 0, .int .i64 0, .lst [] 1]) st K = K (.ptr st.n 0) (st.new (.cells (lkC lkZ 1))) := rfl
theorem rpk_s (n : Note) (hn : NoteOK n) (hu : Upto n) (st : St) : ∃ e : Int, s33 [noteV n] st = some (.ret (.tup [.str (pkt n), .int .i64 e]), st) := by
  rw [rpack_s n hn hu]
  unfold pkt
  cases packOK n
  · exact ⟨1, rfl⟩
  · exact ⟨0, rfl⟩
theorem rpacket_s (l : Lk) (hl : LkOK l) (k : Nat) (hk : k < l.q.length) (st : St) : s34 [lkV l, .int .i64 (k : Nat)] st = some (.ret (.str (pkt (pk1 l k))), st) := by
  rw [s34_eq]
  refine fg_of (st' := st.new (.cells (lkC l 0))) (v := .str (pkt (pk1 l k))) ?_ ((Ks.refl st).new _) rfl
  unfold f34
  have h := new_at st (.cells (lkC l 0))
  obtain ⟨l0, l1, l2, l3, l4⟩ := lload h
  have hq := hl.q
  have hf := hl.f
  have ea : ∀ K, A.bin .add (.int .i64 (l.first : Nat)) (.int .i64 (k : Nat)) K = K (.int .i64 ((l.first + k : Nat) : Int)) := fun K => bin_addN _ _ K (by omega)
  have b4 : ∀ (a b c d : Int) K, A.bslice 1 (.int .i64 0) 4 [(0, .int .i64 a), (1, .int .i64 b), (2, .int .i64 c), (3, .int .i64 d)] K = K (.lst (intsV [a, b, c, d]) 2) := fun a b c d K => rfl
  have b1 : ∀ (s : List UInt8) K, A.bslice 1 (.str []) 1 [(0, .str s)] K = K (.lst (strsV [s]) 2) := fun s K => rfl
  have bu : ∀ (xs : List Int) (ss : List (List UInt8)) K, A.build [.int .i64 0, .lst [] 1, .lst [] 1, .lst [] 1] [(0, 1, .int .i64 1), (1, 1, .lst (intsV xs) 2), (2, 1, .lst (strsV ss) 2)] K = K (.agg (nC 1 xs 2 ss 2 [] 1)) := fun xs ss K => rfl
  have er : (V.agg (nC 1 [(l.epoch : Int), (l.other : Int), ((l.first + k : Nat) : Int), (l.want : Int)] 2 [l.q[k]] 2 [] 1)).er1 = noteV (pk1 l k) := by
    show noteV ⟨1, [(l.epoch : Int), (l.other : Int), ((l.first + k : Nat) : Int), (l.want : Int)], [l.q[k]], []⟩ = _
    unfold pk1
    rw [List.getD_eq_getElem?_getD, List.getElem?_eq_getElem hk]; rfl
  obtain ⟨e, hr⟩ := rpk_s _ (pk1_ok l k) (by simp [Upto, pk1, lens]) (st.new (.cells (lkC l 0)))
  rw [lkV, box_lk]
  simp only [nilc_ptr, faddr_ptr, Nat.zero_add, l0, l1, l2, ea, l3, b4, l4, iaddr_strs 0 hk, load_l1', b1, bu, er, hr, ret_ret, kid_eq, noP_ret, ext_0, ext_1, er1_str]
theorem rbare_s (l : Lk) (st : St) : s38 [lkV l] st = some (.ret (.str (pkt (pk2 l))), st) := by
  rw [s38_eq]
  refine fg_of (st' := st.new (.cells (lkC l 0))) (v := .str (pkt (pk2 l))) ?_ ((Ks.refl st).new _) rfl
  unfold f38
  have h := new_at st (.cells (lkC l 0))
  obtain ⟨l0, l1, l2, l3, l4⟩ := lload h
  have b3 : ∀ (a b c : Int) K, A.bslice 1 (.int .i64 0) 3 [(0, .int .i64 a), (1, .int .i64 b), (2, .int .i64 c)] K = K (.lst (intsV [a, b, c]) 2) := fun a b c K => rfl
  have bu : ∀ (xs : List Int) K, A.build [.int .i64 0, .lst [] 1, .lst [] 1, .lst [] 1] [(0, 1, .int .i64 2), (1, 1, .lst (intsV xs) 2)] K = K (.agg (nC 2 xs 2 [] 1 [] 1)) := fun xs K => rfl
  have er : (V.agg (nC 2 [(l.epoch : Int), (l.other : Int), (l.want : Int)] 2 [] 1 [] 1)).er1 = noteV (pk2 l) := rfl
  obtain ⟨e, hr⟩ := rpk_s _ (pk2_ok l) (by simp [Upto, pk2, lens]) (st.new (.cells (lkC l 0)))
  rw [lkV, box_lk]
  simp only [nilc_ptr, faddr_ptr, Nat.zero_add, l0, l1, l3, b3, bu, er, hr, ret_ret, kid_eq, noP_ret, ext_0, ext_1, er1_str]
theorem rtick_loop {st0 : St} {id t : Nat} {l : Lk} (hob : st0.ob id = some (.cells (lkC l t))) (hid : id < st0.n) (hl : LkOK l) : ∀ (f k u : Nat) (st : St), k ≤ min l.q.length 64 → min l.q.length 64 < f + k → Ks st0 st → Own st0 st 1 u →
    ∃ st' u', g17b11010 f (.ptr id 0) (.lst (strsV ((List.range k).map fun k => pkt (pk1 l k))) u) (.int .i64 (k : Nat)) st = some (.ret (.lst (strsV (tickP l)) u'), st') ∧ Ks st0 st' := by
  intro f
  induction f with
  | zero => intro k u st hk hf; omega
  | succ f ih =>
    intro k u st hk hf ks ho
    have hq := hl.q
    have ob : st.ob id = some (.cells (lkC l t)) := by rw [ks.ob id hid]; exact hob
    obtain ⟨l0, l1, l2, l3, l4⟩ := lload ob
    unfold g17b11010
    by_cases h : k < l.q.length
    · by_cases h6 : k < 64
      · have e4 : ∀ K, A.bin .add (.int .i64 (k : Nat)) (.int .i64 1) K = K (.int .i64 ((k + 1 : Nat) : Int)) := fun K => bin_inc (by omega) K
        have b1 : ∀ (s : List UInt8) K, A.bslice 1 (.str []) 1 [(0, .str s)] K = K (.lst (strsV [s]) 2) := fun s K => rfl
        simp only [faddr_ptr, Nat.zero_add, l4, lenL_lst, strsV_len, bin_lss, show ((k : Int) < (l.q.length : Int)) from by omega, decide_true, guard_tt, show ((k : Int) < 64) from by omega, cond_true]
        unfold g17bz6h
        simp only [load_lk ob, lkV_er, er1_int, rpacket_s l hl k h, ret_ret, b1, elemsOf_strs]
        rw [app_own _ ho (by simp; omega) (szok_strs _), ← strsV_app]
        obtain ⟨k2, o2⟩ := ho.app ks
        simp only [e4]
        have e : ((List.range k).map fun k => pkt (pk1 l k)) ++ [pkt (pk1 l k)] = (List.range (k + 1)).map fun k => pkt (pk1 l k) := by
          rw [List.range_succ, List.map_append]; rfl
        rw [e]
        exact ih (k + 1) _ _ (by omega) (by omega) k2 o2
      · have : k = min l.q.length 64 := by omega
        have e : ((List.range k).map fun k => pkt (pk1 l k)) = tickP l := by unfold tickP; rw [← this]
        simp only [faddr_ptr, Nat.zero_add, l4, lenL_lst, strsV_len, bin_lss, show ((k : Int) < (l.q.length : Int)) from by omega, decide_true, guard_tt, show ¬ ((k : Int) < 64) from by omega, decide_false, cond_false, er1_lst, e]
        exact ⟨st, u, rfl, ks⟩
    · have : k = min l.q.length 64 := by omega
      have e : ((List.range k).map fun k => pkt (pk1 l k)) = tickP l := by unfold tickP; rw [← this]
      simp only [faddr_ptr, Nat.zero_add, l4, lenL_lst, strsV_len, bin_lss, show ¬ ((k : Int) < (l.q.length : Int)) from by omega, decide_false, guard_ft, er1_lst, e]
      exact ⟨st, u, rfl, ks⟩
theorem rtick_s (l : Lk) (hl : LkOK l) (st : St) : s17 [lkV l] st = some (.ret (.lst (strsV (tickP l)) 0), st) := by
  rw [s17_eq]
  have key : ∃ st' u', f17 (lkV l) st = some (.ret (.lst (strsV (tickP l)) u'), st') ∧ Ks (st.new (.cells (lkC l 0))) st' := by
    unfold f17
    rw [lkV, box_lk]
    exact rtick_loop (new_at st _) (by simp) hl big 0 1 _ (by omega) (lt_big (by omega)) (Ks.refl _) (.nil _ _ _)
  obtain ⟨st', u', h1, h2⟩ := key
  exact fg_of h1 (((Ks.refl st).new _).trans h2) (by simp)
theorem rput_s (l : Lk) (hl : LkOK l) (n : Note) (hn : NoteOK n) (hu : Upto n) (st : St) :
    s14 [lkV l, noteV n] st = some (.ret (.tup [lkV (putP l n).1, .lst (strsV (putP l n).2.1) 0, .int .i64 ((putP l n).2.2 : Nat)]), st) := by
  rw [s14_eq]
  have key : ∃ (st' : St) (t u : Nat), f14 (lkV l) (noteV n) st = some (.ret (.tup [lkV (putP l n).1, .lst (strsV (putP l n).2.1) u, .int .i64 ((putP l n).2.2 : Nat)]), st') ∧ Ks st st' := by
    unfold f14
    have hq := hl.q
    have bx : ∀ st K, A.box (noteV n) st K = K (.ptr st.n 0) (st.new (.cells (noteC n))) := fun st K => rfl
    have hnv : (V.agg (noteC n)).er1 = noteV n := rfl
    rw [lkV, box_lk]
    simp only [bx, box_lkZ]
    have ks := (((Ks.refl st).new (.cells (lkC l 0))).new (.cells (noteC n))).new (.cells (lkC lkZ 1))
    have o2 : (((st.new (.cells (lkC l 0))).new (.cells (noteC n))).new (.cells (lkC lkZ 1))).ob st.n = some (.cells (lkC l 0)) := by
      rw [new_ne _ _ (by simp; omega), new_ne _ _ (by simp)]; exact new_at _ _
    have on : (((st.new (.cells (lkC l 0))).new (.cells (noteC n))).new (.cells (lkC lkZ 1))).ob (st.n + 1) = some (.cells (noteC n)) := by
      rw [new_ne _ _ (by simp), show st.n + 1 = (st.new (.cells (lkC l 0))).n by simp]; exact new_at _ _
    have o4 : (((st.new (.cells (lkC l 0))).new (.cells (noteC n))).new (.cells (lkC lkZ 1))).ob (st.n + 1 + 1) = some (.cells (lkC lkZ 1)) := by
      have : st.n + 1 + 1 = ((st.new (.cells (lkC l 0))).new (.cells (noteC n))).n := by simp
      rw [this]; exact new_at _ _
    simp only [new_n]
    generalize ((st.new (.cells (lkC l 0))).new (.cells (noteC n))).new (.cells (lkC lkZ 1)) = st1 at ks o2 on o4
    simp only [load_noteb on, hnv, rpack_s n hn hu]
    -- how it ends
    have fin : ∀ (l' : Lk) (t' : Nat) (u e : Nat) (ps : List (List UInt8)) (st2 : St), Ks st st2 → st2.ob (st.n + 1 + 1) = some (.cells (lkC lkZ 1)) → ∃ st3, (A.store 5 (.ptr (st.n + 1 + 1) 0) (.agg (lkC l' t')) st2 fun z8 => A.res (rcell (A.load true 5 (.ptr (st.n + 1 + 1) 0) z8 kid) (rtmp (.lst (strsV ps) u) (rtmp (.int .i64 (e : Nat)) (some [])))) z8) = some (.ret (.tup [lkV l', .lst (strsV ps) u, .int .i64 (e : Nat)]), st3) ∧ Ks st st3 := by
      intro l' t' u e ps st2 k2 h2
      refine ⟨st2.put (st.n + 1 + 1) (.cells (lkC l' t')), ?_, k2.put (by omega) _⟩
      rw [store_lk h2, load_lk (put_at _ _ _)]
      simp only [kid_eq, rtmp_some, rcell_some, res_two, er1_lst, er1_int, lkV_er]
    cases hp : packOK n with
    | false =>
      have hP : putP l n = (l, [], 1) := by unfold putP; rw [if_pos (.inl hp)]
      simp only [Bool.false_eq_true, if_false, P2, ret_ret, ext_0, ext_1]
      unfold g14b11
      simp only [eql_int, if_true, show ((1 : Int) != 0) = true from rfl, guard_tf]
      unfold g14b1101
      simp only [cond_true, load_lk o2, hP]
      obtain ⟨st3, h3, k3⟩ := fin l 0 1 1 [] st1 ks o4
      exact ⟨st3, 0, _, h3, k3⟩
    | true =>
      simp only [if_true, P2, ret_ret, ext_0, ext_1]
      unfold g14b11
      simp only [eql_int, if_true, show ((0 : Int) != 0) = false from rfl, guard_ff, lenS_str, bin_gtr]
      unfold g14b1101
      by_cases hlong : 32768 < (packB n).length
      · have hP : putP l n = (l, [], 1) := by unfold putP; rw [if_pos (.inr hlong)]
        simp only [show ((32768 : Int) < ((packB n).length : Int)) from by omega, decide_true, cond_true, load_lk o2, hP]
        obtain ⟨st3, h3, k3⟩ := fin l 0 1 1 [] st1 ks o4
        exact ⟨st3, 0, _, h3, k3⟩
      · have hnot : ¬ (packOK n = false ∨ 32768 < (packB n).length) := by rw [hp]; simpa using hlong
        simp only [show ¬ ((32768 : Int) < ((packB n).length : Int)) from by omega, decide_false, cond_false]
        unfold g14b111
        obtain ⟨l0, l1, l2, l3, l4⟩ := lload o2
        simp only [faddr_ptr, Nat.zero_add, l4, lenL_lst, strsV_len, bin_geq]
        by_cases hfull : 4096 ≤ l.q.length
        · have hP : putP l n = (l, [], 2) := by unfold putP; rw [if_neg hnot, if_pos hfull]
          simp only [show ((4096 : Int) ≤ (l.q.length : Int)) from by omega, decide_true, cond_true, load_lk o2, hP]
          obtain ⟨st3, h3, k3⟩ := fin l 0 1 2 [] st1 ks o4
          exact ⟨st3, 0, _, h3, k3⟩
        · simp only [show ¬ ((4096 : Int) ≤ (l.q.length : Int)) from by omega, decide_false, cond_false]
          unfold g14b1111
          have b1 : ∀ (s : List UInt8) K, A.bslice 1 (.str []) 1 [(0, .str s)] K = K (.lst (strsV [s]) 2) := fun s K => rfl
          simp only [faddr_ptr, Nat.zero_add, l4, elemsOf_strs, b1]
          have ho : Own st st1 1 1 := .nil _ _ _
          have an : ∀ K, A.app 1 (.lst [] 1) (some (strsV l.q)) st1 K = K (.lst (strsV ([] ++ l.q)) (st1.nt + 3)) (appSt st1 1 1) := fun K => by
            rw [show (V.lst [] 1) = .lst (strsV []) 1 from rfl, app_own _ ho (by simp; omega) (szok_strs _), ← strsV_app]
          obtain ⟨ks2, ho2⟩ := ho.app ks
          simp only [an, List.nil_append, elemsOf_strs]
          rw [app_own _ ho2 (by simp; omega) (szok_strs _), ← strsV_app]
          obtain ⟨ks3, ho3⟩ := ho2.app ks2
          have o2' : (appSt (appSt st1 1 1) (st1.nt + 3) 1).ob st.n = some (.cells (lkC l 0)) := by rw [appSt_ob, appSt_ob]; exact o2
          have o4' : (appSt (appSt st1 1 1) (st1.nt + 3) 1).ob (st.n + 1 + 1) = some (.cells (lkC lkZ 1)) := by rw [appSt_ob, appSt_ob]; exact o4
          generalize appSt (appSt st1 1 1) (st1.nt + 3) 1 = st2 at ks3 o2' o4'
          have sq : ∀ u K, A.store 1 (.ptr st.n 4) (.lst (strsV (l.q ++ [packB n])) u) st2 K = K (st2.put st.n (.cells (lkC ⟨l.epoch, l.other, l.first, l.want, l.q ++ [packB n]⟩ u))) := fun u K => by
            simp [o2', lkC]
          simp only [sq]
          have hl3 : LkOK ⟨l.epoch, l.other, l.first, l.want, l.q ++ [packB n]⟩ := ⟨hl.e1, hl.e2, hl.o, hl.f, hl.w, by simp; omega⟩
          have i3 := fun u => put_at st2 st.n (.cells (lkC ⟨l.epoch, l.other, l.first, l.want, l.q ++ [packB n]⟩ u))
          have i4 : ∀ u, (st2.put st.n (.cells (lkC ⟨l.epoch, l.other, l.first, l.want, l.q ++ [packB n]⟩ u))).ob (st.n + 1 + 1) = some (.cells (lkC lkZ 1)) := fun u => by rw [put_ne _ _ (by omega)]; exact o4'
          have k4 := fun u => ks3.put (Nat.le_refl st.n) (.cells (lkC ⟨l.epoch, l.other, l.first, l.want, l.q ++ [packB n]⟩ u))
          unfold g14bz73
          have j4 : ∀ u K, A.load false 1 (.ptr st.n 4) (st2.put st.n (.cells (lkC ⟨l.epoch, l.other, l.first, l.want, l.q ++ [packB n]⟩ u))) K = K (.lst (strsV (l.q ++ [packB n])) u) (st2.put st.n (.cells (lkC ⟨l.epoch, l.other, l.first, l.want, l.q ++ [packB n]⟩ u))) := fun u K => (lload (i3 u)).2.2.2.2 K
          have hlen : (l.q ++ [packB n]).length = l.q.length + 1 := by simp
          have ll : ∀ u K, A.load true 5 (.ptr st.n 0) (st2.put st.n (.cells (lkC ⟨l.epoch, l.other, l.first, l.want, l.q ++ [packB n]⟩ u))) K = K (.agg (lkC ⟨l.epoch, l.other, l.first, l.want, l.q ++ [packB n]⟩ u)) (st2.put st.n (.cells (lkC ⟨l.epoch, l.other, l.first, l.want, l.q ++ [packB n]⟩ u))) := fun u K => load_lk (i3 u) K
          simp only [faddr_ptr, Nat.zero_add, j4, lenL_lst, strsV_len, hlen, bin_gtr]
          by_cases h64 : 64 < l.q.length + 1
          · have hP : putP l n = (⟨l.epoch, l.other, l.first, l.want, l.q ++ [packB n]⟩, [], 0) := by unfold putP; rw [if_neg hnot, if_neg hfull, if_pos h64]
            simp only [show ((64 : Int) < ((l.q.length + 1 : Nat) : Int)) from by omega, decide_true, cond_true, ll, hP]
            obtain ⟨st3, h3, k3⟩ := fin ⟨l.epoch, l.other, l.first, l.want, l.q ++ [packB n]⟩ _ 1 0 [] _ (k4 _) (i4 _)
            exact ⟨st3, 0, _, h3, k3⟩
          · have hP : putP l n = (⟨l.epoch, l.other, l.first, l.want, l.q ++ [packB n]⟩, [pkt (pk1 ⟨l.epoch, l.other, l.first, l.want, l.q ++ [packB n]⟩ l.q.length)], 0) := by unfold putP; rw [if_neg hnot, if_neg hfull, if_neg h64]
            have es : ∀ K, A.bin .sub (.int .i64 (l.q.length + 1 : Nat)) (.int .i64 1) K = K (.int .i64 (l.q.length : Nat)) := fun K => bin_subN (l.q.length + 1) 1 K (by omega) (by omega)
            have rp : ∀ st, s34 [lkV ⟨l.epoch, l.other, l.first, l.want, l.q ++ [packB n]⟩, .int .i64 (l.q.length : Nat)] st = _ := fun st => rpacket_s ⟨l.epoch, l.other, l.first, l.want, l.q ++ [packB n]⟩ hl3 l.q.length (by show l.q.length < (l.q ++ [packB n]).length; omega) st
            have dv : ∀ u (k : Res), A.chk (ldv true 5 (.ptr st.n 0) (st2.put st.n (.cells (lkC ⟨l.epoch, l.other, l.first, l.want, l.q ++ [packB n]⟩ u)))) (.agg (lkC ⟨l.epoch, l.other, l.first, l.want, l.q ++ [packB n]⟩ u)) k = k := fun u k => by rw [ldv_lk (i3 u)]; exact chk_same _ _
            simp only [show ¬ ((64 : Int) < ((l.q.length + 1 : Nat) : Int)) from by omega, decide_false, cond_false, ll, j4, lenL_lst, strsV_len, hlen, es, lkV_er, er1_int, rp, ret_ret, kid_eq, noP_ret, dv, b1, hP]
            have so : ∀ u K, A.store 5 (.ptr (st.n + 1 + 1) 0) (.agg (lkC ⟨l.epoch, l.other, l.first, l.want, l.q ++ [packB n]⟩ u)) (st2.put st.n (.cells (lkC ⟨l.epoch, l.other, l.first, l.want, l.q ++ [packB n]⟩ u))) K = K ((st2.put st.n (.cells (lkC ⟨l.epoch, l.other, l.first, l.want, l.q ++ [packB n]⟩ u))).put (st.n + 1 + 1) (.cells (lkC ⟨l.epoch, l.other, l.first, l.want, l.q ++ [packB n]⟩ u))) := fun u K => store_lk (i4 u) K
            have lo : ∀ z u K, A.load true 5 (.ptr (st.n + 1 + 1) 0) (St.put z (st.n + 1 + 1) (.cells (lkC ⟨l.epoch, l.other, l.first, l.want, l.q ++ [packB n]⟩ u))) K = K (.agg (lkC ⟨l.epoch, l.other, l.first, l.want, l.q ++ [packB n]⟩ u)) (St.put z (st.n + 1 + 1) (.cells (lkC ⟨l.epoch, l.other, l.first, l.want, l.q ++ [packB n]⟩ u))) := fun z u K => load_lk (put_at _ _ _) K
            simp only [so, kid_eq, noP_ret, lo, rtmp_some, rcell_some, res_two, er1_lst, er1_int, lkV_er]
            exact ⟨_, 0, _, rfl, (k4 _).put (by omega) _⟩
  obtain ⟨st', t, u, h1, h2⟩ := key
  exact fg_of h1 h2 (by simp [show ∀ l, (lkV l).er = lkV l from fun _ => rfl, lkV_pu])
end Go.Ab

/- sinewref15: one, Take. -/
namespace Go.Ab
open Go.Proofs Go.RowKit Go.Oct
set_option linter.unusedVariables false
set_option linter.unusedSimpArgs false
set_option maxRecDepth 100000
theorem rone_s (s : List UInt8) (hs : s.length ≤ 4611686018427387903) (st : St) : s37 [.str s] st = some (.ret (.tup [noteV (oneN s), .bool (oneO s)]), st) := by
  rw [s37_eq]
  have key : ∃ st', f37 (.str s) st = some (.ret (.tup [noteV (oneN s), .bool (oneO s)]), st') ∧ Ks st st' := by
    unfold f37
    simp only [box_zero, er1_str, runp_s s hs _, ret_ret, U3, ext_0, ext_1, ext_2, store_note (new_at _ _)]
    unfold g37b11
    have k0 := (Ks.refl st).new (.cells (nC 0 [] 1 [] 1 [] 1))
    have o0 := new_at st (.cells (nC 0 [] 1 [] 1 [] 1))
    have n0 : st.n < (st.new (.cells (nC 0 [] 1 [] 1 [] 1))).n := by simp
    generalize st.new (.cells (nC 0 [] 1 [] 1 [] 1)) = st1 at k0 o0 n0
    have k1 := k0.new (.cells (nC 0 [] 1 [] 1 [] 1))
    have hle := k0.n
    have k2 := k1.put hle (.cells (noteC (oneN s)))
    have o1 : ((st1.new (.cells (nC 0 [] 1 [] 1 [] 1))).put st1.n (.cells (noteC (oneN s)))).ob st.n = some (.cells (nC 0 [] 1 [] 1 [] 1)) := by
      rw [put_ne _ _ (by omega), new_ne _ _ (by omega)]; exact o0
    have o2 := put_at (st1.new (.cells (nC 0 [] 1 [] 1 [] 1))) st1.n (.cells (noteC (oneN s)))
    show ∃ st', (A.load true 4 (.ptr st1.n 0) ((st1.new (.cells (nC 0 [] 1 [] 1 [] 1))).put st1.n (.cells (noteC (oneN s)))) _) = _ ∧ _
    generalize (st1.new (.cells (nC 0 [] 1 [] 1 [] 1))).put st1.n (.cells (noteC (oneN s))) = st2 at k2 o1 o2
    have sn : ∀ K, A.store 4 (.ptr st.n 0) (.agg (noteC (oneN s))) st2 K = K (st2.put st.n (.cells (noteC (oneN s)))) := fun K => store_note o1 _ K
    have ld : ∀ K, A.load true 4 (.ptr st.n 0) (st2.put st.n (.cells (noteC (oneN s)))) K = K (.agg (noteC (oneN s))) (st2.put st.n (.cells (noteC (oneN s)))) := fun K => load_noteb (put_at _ _ _) K
    have her : (V.agg (noteC (oneN s))).er1 = noteV (oneN s) := rfl
    have e1 : oneO s = (decide ((unpL s).2.2 = 0) && decide ((unpL s).2.1 = s.length)) := rfl
    refine ⟨st2.put st.n (.cells (noteC (oneN s))), ?_, k2.put (Nat.le_refl _) _⟩
    by_cases h0 : (unpL s).2.2 = 0
    · have e2 : decide ((((unpL s).2.1 : Nat) : Int) = (s.length : Int)) = decide ((unpL s).2.1 = s.length) := by apply decide_eq_decide.2; omega
      have e3 : ((((unpL s).2.1 : Nat) : Int) == (s.length : Int)) = decide ((unpL s).2.1 = s.length) := by rw [← e2]; rfl
      simp only [load_noteb o2, eql_int, Bool.false_eq_true, if_false, h0, show (((0 : Nat) : Int) == 0) = true from rfl, guard_tt, lenS_str, sn, ld, kid_eq, rtmp_some, rcell_some, res_two, her, er1_bool, e3, e1, decide_true, Bool.true_and]
    · have e3 : (((((unpL s).2.2 : Nat) : Int)) == 0) = false := by
        rw [beq_eq_false_iff_ne]; omega
      simp only [load_noteb o2, eql_int, Bool.false_eq_true, if_false, e3, guard_ft, lenS_str, sn, ld, kid_eq, rtmp_some, rcell_some, res_two, her, er1_bool, e1, h0, decide_false, Bool.false_and]
  obtain ⟨st', h1, h2⟩ := key
  have hp := pu_note (oneN s)
  have := fg_of h1 h2 (by
    show V.pu (V.tup [noteV (oneN s), .bool (oneO s)]).era = true
    have e : (V.tup [noteV (oneN s), .bool (oneO s)]).era = .tup [noteV (oneN s), .bool (oneO s)] := rfl
    rw [e]; simp [hp])
  exact this
/-- The queue, as far as it was told to have come. -/
theorem rdrop {st0 : St} {p : Nat} (hp : st0.n ≤ p) (w : Nat) (x4 x8 x10 x13 : V) : ∀ (f : Nat) (l : Lk) (t : Nat) (st : St), l.first + l.q.length ≤ 2000000000000 → l.q.length < f → st.ob p = some (.cells (lkC l t)) → Ks st0 st →
    ∃ st', g20bz35o f (.ptr p 0) x4 x8 x10 x13 (.int .i64 (w : Nat)) st = g20bz1kv (.ptr p 0) x4 x8 x10 x13 st' ∧ st'.ob p = some (.cells (lkC (ackP l w) t)) ∧ Ks st0 st' ∧ (∀ i, i ≠ p → st'.ob i = st.ob i) := by
  intro f
  induction f with
  | zero => intro l t st hl hf; omega
  | succ f ih =>
    intro l t st hl hf ob ks
    obtain ⟨l0, l1, l2, l3, l4⟩ := lload ob
    have stay : min (w - l.first) l.q.length = 0 → ackP l w = l := fun e => by unfold ackP; rw [e]; simp
    unfold g20bz35o
    simp only [faddr_ptr, Nat.zero_add, l4, lenL_lst, strsV_len, bin_gtr]
    by_cases hq : 0 < l.q.length
    · simp only [show ((0 : Int) < (l.q.length : Int)) from by omega, decide_true, guard_tt, faddr_ptr, Nat.zero_add, l2, bin_lss]
      by_cases hw : l.first < w
      · simp only [show ((l.first : Int) < (w : Int)) from by omega, decide_true, cond_true]
        unfold g20bzcmp
        have hsl : ∀ K, A.slice 1 (.lst (strsV l.q) t) (some (.int .i64 1)) none none K = K (.lst (strsV (l.q.drop 1)) t) := fun K => by
          have := slice_from (strsV l.q) t 1 1 K (by simp; omega) (szok_strs _)
          rw [show ((1 : Nat) : Int) = 1 from rfl] at this
          rw [this]; simp [strsV, List.map_drop]
        have sq : ∀ K, A.store 1 (.ptr p 4) (.lst (strsV (l.q.drop 1)) t) st K = K (st.put p (.cells (lkC ⟨l.epoch, l.other, l.first, l.want, l.q.drop 1⟩ t))) := fun K => by simp [ob, lkC]
        have o1 := put_at st p (.cells (lkC ⟨l.epoch, l.other, l.first, l.want, l.q.drop 1⟩ t))
        obtain ⟨_, _, m2, _, _⟩ := lload o1
        have ea : ∀ K, A.bin .add (.int .i64 (l.first : Nat)) (.int .i64 1) K = K (.int .i64 ((l.first + 1 : Nat) : Int)) := fun K => bin_inc (by omega) K
        have sf : ∀ K, A.store 1 (.ptr p 2) (.int .i64 (l.first + 1 : Nat)) (st.put p (.cells (lkC ⟨l.epoch, l.other, l.first, l.want, l.q.drop 1⟩ t))) K = K (st.put p (.cells (lkC ⟨l.epoch, l.other, l.first + 1, l.want, l.q.drop 1⟩ t))) := fun K => by simp [lkC]
        have hlen : (l.q.drop 1).length = l.q.length - 1 := by simp
        simp only [faddr_ptr, Nat.zero_add, l4, hsl, sq, m2, ea, sf]
        obtain ⟨st', q1, q2, q3, q4⟩ := ih ⟨l.epoch, l.other, l.first + 1, l.want, l.q.drop 1⟩ t (st.put p (.cells (lkC ⟨l.epoch, l.other, l.first + 1, l.want, l.q.drop 1⟩ t))) (by simp only [hlen]; omega) (by simp only [hlen]; omega) (put_at _ _ _) (ks.put hp _)
        refine ⟨st', q1, ?_, q3, fun i hi => by rw [q4 i hi, put_ne _ _ hi]⟩
        rw [q2]
        have : ackP ⟨l.epoch, l.other, l.first + 1, l.want, l.q.drop 1⟩ w = ackP l w := by
          unfold ackP
          simp only [hlen, List.drop_drop, Lk.mk.injEq, true_and]
          refine ⟨by omega, ?_⟩
          congr 1; omega
        rw [this]
      · simp only [show ¬ ((l.first : Int) < (w : Int)) from by omega, decide_false, cond_false]
        exact ⟨st, rfl, by rw [stay (by omega)]; exact ob, ks, fun _ _ => rfl⟩
    · simp only [show ¬ ((0 : Int) < (l.q.length : Int)) from by omega, decide_false, guard_ft]
      exact ⟨st, rfl, by rw [stay (by omega)]; exact ob, ks, fun _ _ => rfl⟩
end Go.Ab

/- sinewref15.Take. -/
namespace Go.Ab
open Go.Proofs Go.RowKit Go.Oct
set_option linter.unusedVariables false
set_option linter.unusedSimpArgs false
set_option maxRecDepth 100000
structure RT (st0 st : St) (p0 p1 p2 : Nat) (l : Lk) (t : Nat) (n : Note) : Prop where
  ks : Ks st0 st
  o0 : st.ob p0 = some (.cells (lkC l t))
  o1 : st.ob p1 = some (.cells (lkC lkZ 1))
  o2 : st.ob p2 = some (.cells (noteC n))
  g0 : st0.n ≤ p0
  g1 : st0.n ≤ p1
  n1 : p0 ≠ p1
  n2 : p0 ≠ p2
  n3 : p1 ≠ p2
/-- The end is other. -/
theorem RT.put {st0 st : St} {p0 p1 p2 t : Nat} {l : Lk} {n : Note} (h : RT st0 st p0 p1 p2 l t n) (l' : Lk) (t' : Nat) : RT st0 (st.put p0 (.cells (lkC l' t'))) p0 p1 p2 l' t' n :=
  ⟨h.ks.put h.g0 _, put_at _ _ _, by rw [put_ne _ _ (Ne.symm h.n1)]; exact h.o1, by rw [put_ne _ _ (Ne.symm h.n2)]; exact h.o2, h.g0, h.g1, h.n1, h.n2, h.n3⟩
def take4 (l : Lk) (G : List Note) (u : Nat) (ks : List (List UInt8)) (w : Nat) (a : Bool) : V := .tup [lkV l, .lst (notesV G) u, .lst (strsV ks) w, .bool a]
theorem RT.fin {st0 st : St} {p0 p1 p2 t : Nat} {l : Lk} {n : Note} (h : RT st0 st p0 p1 p2 l t n) (l' : Lk) (t' : Nat) (G : List Note) (u : Nat) (ks : List (List UInt8)) (w : Nat) (a : Bool) :
    ∃ st', (A.store 5 (.ptr p1 0) (.agg (lkC l' t')) st fun z7 => A.res (rcell (A.load true 5 (.ptr p1 0) z7 kid) (rtmp (.lst (notesV G) u) (rtmp (.lst (strsV ks) w) (rtmp (.bool a) (some []))))) z7) = some (.ret (take4 l' G u ks w a), st') ∧
      (A.noP (A.store 5 (.ptr p1 0) (.agg (lkC l' t')) st fun s => kid (.tup []) s) fun _ z7 => A.res (rcell (A.load true 5 (.ptr p1 0) z7 kid) (rtmp (.lst (notesV G) u) (rtmp (.lst (strsV ks) w) (rtmp (.bool a) (some []))))) z7) = some (.ret (take4 l' G u ks w a), st') ∧ Ks st0 st' := by
  have so : ∀ K, A.store 5 (.ptr p1 0) (.agg (lkC l' t')) st K = K (st.put p1 (.cells (lkC l' t'))) := fun K => store_lk h.o1 K
  have lo : ∀ K, A.load true 5 (.ptr p1 0) (st.put p1 (.cells (lkC l' t'))) K = K (.agg (lkC l' t')) (st.put p1 (.cells (lkC l' t'))) := fun K => load_lk (put_at _ _ _) K
  refine ⟨st.put p1 (.cells (lkC l' t')), ?_, ?_, h.ks.put h.g1 _⟩
  · simp only [so, lo, kid_eq, rtmp_some, rcell_some, res_two, er1_lst, er1_bool, lkV_er]; rfl
  · simp only [so, lo, kid_eq, noP_ret, rtmp_some, rcell_some, res_two, er1_lst, er1_bool, lkV_er]; rfl
theorem bslice_str (s : List UInt8) (K : V → Res) : A.bslice 1 (.str []) 1 [(0, .str s)] K = K (.lst (strsV [s]) 2) := rfl
theorem RT.t1 {st0 st : St} {p0 p1 p2 t : Nat} {l : Lk} {n : Note} (h : RT st0 st p0 p1 p2 l t n) (a : Bool) (G : List Note) (u : Nat) :
    ∃ st', g20bzcn3 (.ptr p0 0) (.ptr p1 0) (.bool a) (.lst (notesV G) u) st = some (.ret (take4 l G u [pkt (pk2 l)] 2 a), st') ∧ Ks st0 st' := by
  unfold g20bzcn3
  have lo : ∀ K, A.load true 5 (.ptr p0 0) st K = K (.agg (lkC l t)) st := fun K => load_lk h.o0 K
  simp only [lo, lkV_er, rbare_s, ret_ret, kid_eq, noP_ret, ldv_lk h.o0, chk_same, bslice_str]
  obtain ⟨st', q1, q2, q3⟩ := h.fin l t G u [pkt (pk2 l)] 2 a
  exact ⟨st', q2, q3⟩
theorem noteld {st : St} {p : Nat} {n : Note} (h : st.ob p = some (.cells (noteC n))) : (∀ K, A.load false 1 (.ptr p 0) st K = K (.int .i64 n.kind) st) ∧ (∀ K, A.load false 1 (.ptr p 1) st K = K (.lst (intsV n.nums) 0) st) ∧ (∀ K, A.load false 1 (.ptr p 2) st K = K (.lst (strsV n.texts) 0) st) ∧ (∀ K, A.load false 1 (.ptr p 3) st K = K (.lst (rowsV n.rows) 0) st) :=
  ⟨fun K => by simp [h, noteC], fun K => by simp [h, noteC], fun K => by simp [h, noteC], fun K => by simp [h, noteC]⟩
theorem RT.t2 {st0 st : St} {p0 p1 p2 p3 t : Nat} {l : Lk} {n pay : Note} (h : RT st0 st p0 p1 p2 l t n) (hp : Pkt n) (a : Bool) (hw : l.want ≤ 2000000000000) (o3 : n.kind = 1 → st.ob p3 = some (.cells (noteC pay))) :
    ∃ st' u w, g20bz1kv (.ptr p0 0) (.ptr p1 0) (.ptr p2 0) (.ptr p3 0) (.bool a) st = some (.ret (if n.kind = 1 then (if nth n 2 = l.want then take4 (nextP l) [pay] u [pkt (pk2 (nextP l))] w a else take4 l [] u [pkt (pk2 l)] w a) else take4 l [] u [] w a), st') ∧ Ks st0 st' := by
  unfold g20bz1kv
  obtain ⟨m0, m1, m2, m3⟩ := noteld h.o2
  obtain ⟨l0, l1, l2, l3, l4⟩ := lload h.o0
  rcases hp.kind with ⟨k2, kn⟩ | ⟨k1, kn⟩
  · have lo : ∀ K, A.load true 5 (.ptr p0 0) st K = K (.agg (lkC l t)) st := fun K => load_lk h.o0 K
    simp only [faddr_ptr, Nat.zero_add, m0, k2, eql_int, Bool.false_eq_true, if_false, beq_self_eq_true, cond_true, lo, show ¬ ((2 : Int) = 1) from by omega]
    obtain ⟨st', q1, q2, q3⟩ := h.fin l t [] 1 [] 1 a
    exact ⟨st', 1, 1, q1, q3⟩
  · have h2 : 2 < n.nums.length := by omega
    obtain ⟨x1, x2⟩ := hp.at h2
    have ia2 : ∀ K, A.iaddr 1 (.lst (intsV n.nums) 0) (.int .i64 2) K = K (.lptr [.int .i64 n.nums[2]]) := fun K => iaddr_ints 0 h2 K
    simp only [faddr_ptr, Nat.zero_add, m0, k1, eql_int, Bool.false_eq_true, if_false, show ((1 : Int) == 2) = false from rfl, cond_false, m1, ia2, load_l1', l3, x1, eq_nat, if_true]
    unfold g20bzpa5
    by_cases hs : nth n 2 = l.want
    · have e3 : ∀ K, A.load true 4 (.ptr p3 0) st K = K (.agg (noteC pay)) st := fun K => load_noteb (o3 k1) K
      simp only [hs, decide_true, cond_true, e3, bslice_note, if_true]
      have el : ∀ st, elemsOf 5 4 (.lst (notesV [pay]) 2) st = some (notesV [pay]) := fun st => elemsOf_lst _ _ _ _ (szok_notes _)
      have ho : Own st0 st 4 1 := .nil _ _ _
      obtain ⟨k4, _⟩ := ho.app h.ks
      have ap : ∀ K, A.app 4 (.lst [] 1) (some (notesV [pay])) st K = K (.lst (notesV [pay]) (st.nt + 3)) (appSt st 1 4) := fun K => by
        rw [app_own K ho (by simp [notesV]) rfl]; rfl
      have ea : ∀ K, A.bin .add (.int .i64 (l.want : Nat)) (.int .i64 1) K = K (.int .i64 ((l.want + 1 : Nat) : Int)) := fun K => bin_inc (by omega) K
      have ob : (appSt st 1 4).ob p0 = some (.cells (lkC l t)) := by rw [appSt_ob]; exact h.o0
      have h' : RT st0 (appSt st 1 4) p0 p1 p2 l t n := ⟨k4, ob, by rw [appSt_ob]; exact h.o1, by rw [appSt_ob]; exact h.o2, h.g0, h.g1, h.n1, h.n2, h.n3⟩
      simp only [el, ap]
      generalize appSt st 1 4 = st2 at h' ob
      obtain ⟨_, _, _, j3, _⟩ := lload ob
      have sw : ∀ K, A.store 1 (.ptr p0 3) (.int .i64 (l.want + 1 : Nat)) st2 K = K (st2.put p0 (.cells (lkC (nextP l) t))) := fun K => by simp [ob, lkC, nextP]
      simp only [faddr_ptr, Nat.zero_add, j3, ea, sw]
      obtain ⟨st', q1, q2⟩ := (h'.put (nextP l) t).t1 a [pay] (st.nt + 3)
      exact ⟨st', _, _, q1, q2⟩
    · simp only [hs, decide_false, cond_false, if_false]
      obtain ⟨st', q1, q2⟩ := h.t1 a [] 1
      exact ⟨st', _, _, q1, q2⟩
/-- Behind what a packet tells of who sent it. -/
def tailP (l : Lk) (n pay : Note) (u w : Nat) (a : Bool) : V :=
  if nth n 1 ≠ l.epoch then take4 l [] u [pkt (pk2 l)] w a
  else if n.kind = 1 then (if nth n 2 = l.want then take4 (nextP (ackP l (nth n (n.nums.length - 1)))) [pay] u [pkt (pk2 (nextP (ackP l (nth n (n.nums.length - 1)))))] w a else take4 (ackP l (nth n (n.nums.length - 1))) [] u [pkt (pk2 (ackP l (nth n (n.nums.length - 1))))] w a)
  else take4 (ackP l (nth n (n.nums.length - 1))) [] u [] w a
theorem RT.t3 {st0 st : St} {p0 p1 p2 p3 t : Nat} {l : Lk} {n pay : Note} (h : RT st0 st p0 p1 p2 l t n) (hp : Pkt n) (a : Bool) (hw : l.want ≤ 2000000000000) (hf : l.first + l.q.length ≤ 2000000000000) (n3 : p3 ≠ p0) (o3 : n.kind = 1 → st.ob p3 = some (.cells (noteC pay))) :
    ∃ st' u w, g20bz73 (.ptr p0 0) (.ptr p1 0) (.ptr p2 0) (.ptr p3 0) (.bool a) st = some (.ret (tailP l n pay u w a), st') ∧ Ks st0 st' := by
  unfold g20bz73 tailP
  obtain ⟨m0, m1, m2, m3⟩ := noteld h.o2
  obtain ⟨l0, l1, l2, l3, l4⟩ := lload h.o0
  have hlen : 3 ≤ n.nums.length ∧ n.nums.length ≤ 4 := by rcases hp.kind with ⟨_, g⟩ | ⟨_, g⟩ <;> omega
  have h1 : 1 < n.nums.length := by omega
  obtain ⟨x1, x2⟩ := hp.at h1
  have ia1 : ∀ K, A.iaddr 1 (.lst (intsV n.nums) 0) (.int .i64 1) K = K (.lptr [.int .i64 n.nums[1]]) := fun K => iaddr_ints 0 h1 K
  simp only [faddr_ptr, Nat.zero_add, m1, ia1, load_l1', x1, l0, eql_int, if_true]
  by_cases he : nth n 1 = l.epoch
  · have lo : ∀ K, A.load true 5 (.ptr p0 0) st K = K (.agg (lkC l t)) st := fun K => load_lk h.o0 K
    simp only [he, bne_self_eq_false, cond_false, ne_eq, not_true_eq_false, if_false]
    unfold g20bze7
    have hlast : n.nums.length - 1 < n.nums.length := by omega
    obtain ⟨y1, y2⟩ := hp.at hlast
    have es : ∀ K, A.bin .sub (.int .i64 (n.nums.length : Nat)) (.int .i64 1) K = K (.int .i64 ((n.nums.length - 1 : Nat) : Int)) := fun K => bin_subN n.nums.length 1 K (by omega) (by omega)
    simp only [faddr_ptr, Nat.zero_add, m1, lenL_lst, intsV_len, es, iaddr_ints 0 hlast, y1, load_l1']
    obtain ⟨st2, q1, q2, q3, q4⟩ := rdrop h.g0 (nth n (n.nums.length - 1)) (.ptr p1 0) (.ptr p2 0) (.ptr p3 0) (.bool a) big l t st hf (lt_big (by omega)) h.o0 h.ks
    rw [q1]
    have h' : RT st0 st2 p0 p1 p2 (ackP l (nth n (n.nums.length - 1))) t n := ⟨q3, q2, by rw [q4 _ (Ne.symm h.n1)]; exact h.o1, by rw [q4 _ (Ne.symm h.n2)]; exact h.o2, h.g0, h.g1, h.n1, h.n2, h.n3⟩
    exact h'.t2 hp a hw (fun k => by rw [q4 _ n3]; exact o3 k)
  · have lo : ∀ K, A.load true 5 (.ptr p0 0) st K = K (.agg (lkC l t)) st := fun K => load_lk h.o0 K
    have hb : (((nth n 1 : Nat) : Int) != ((l.epoch : Nat) : Int)) = true := by
      rw [bne_iff_ne]; omega
    simp only [hb, cond_true, lo, lkV_er, rbare_s, ret_ret, kid_eq, noP_ret, ldv_lk h.o0, chk_same, bslice_str, ne_eq, he, not_false_eq_true, if_true]
    obtain ⟨st', q1, q2, q3⟩ := h.fin l t [] 1 [pkt (pk2 l)] 2 a
    exact ⟨st', 1, 2, q2, q3⟩
theorem RT.t4 {st0 st : St} {p0 p1 p2 p3 t : Nat} {l : Lk} {n pay : Note} (h : RT st0 st p0 p1 p2 l t n) (hp : Pkt n) (hl : LkOK l) (n3 : p3 ≠ p0) (o3 : n.kind = 1 → st.ob p3 = some (.cells (noteC pay))) :
    ∃ st' u w, g20b11111 (.ptr p0 0) (.ptr p1 0) (.ptr p2 0) (.ptr p3 0) st = some (.ret (tailP (freshP l (nth n 0)) n pay u w (decide (l.other < nth n 0) && decide (0 < l.other))), st') ∧ Ks st0 st' := by
  unfold g20b11111
  obtain ⟨m0, m1, m2, m3⟩ := noteld h.o2
  obtain ⟨l0, l1, l2, l3, l4⟩ := lload h.o0
  have hlen : 3 ≤ n.nums.length ∧ n.nums.length ≤ 4 := by rcases hp.kind with ⟨_, g⟩ | ⟨_, g⟩ <;> omega
  have h0 : 0 < n.nums.length := by omega
  obtain ⟨x1, x2⟩ := hp.at h0
  have ia0 : ∀ K, A.iaddr 1 (.lst (intsV n.nums) 0) (.int .i64 0) K = K (.lptr [.int .i64 n.nums[0]]) := fun K => iaddr_ints 0 h0 K
  have b1 := hl.w
  have b2 := hl.f
  have b3 := hl.q
  simp only [faddr_ptr, Nat.zero_add, m1, ia0, load_l1', x1, l1, bin_gtr]
  unfold freshP
  by_cases ho : l.other < nth n 0
  · simp only [show ((l.other : Int) < (nth n 0 : Int)) from by omega, decide_true, cond_true, faddr_ptr, Nat.zero_add, l1, bin_gtr, Bool.true_and, if_pos ho]
    have ed : decide ((0 : Int) < (l.other : Int)) = decide (0 < l.other) := by apply decide_eq_decide.2; omega
    rw [ed]
    rw [show decide (l.other < nth n 0) = true from decide_eq_true ho, Bool.true_and]
    unfold g20bz1kl
    have s1 : ∀ K, A.store 1 (.ptr p0 1) (.int .i64 (nth n 0 : Nat)) st K = K (st.put p0 (.cells (lkC ⟨l.epoch, nth n 0, l.first, l.want, l.q⟩ t))) := fun K => by simp [h.o0, lkC]
    have s2 : ∀ K, A.store 1 (.ptr p0 3) (.int .i64 1) (st.put p0 (.cells (lkC ⟨l.epoch, nth n 0, l.first, l.want, l.q⟩ t))) K = K (st.put p0 (.cells (lkC ⟨l.epoch, nth n 0, l.first, 1, l.q⟩ t))) := fun K => by simp [lkC]
    simp only [faddr_ptr, Nat.zero_add, m1, ia0, load_l1', x1, s1, s2]
    by_cases hz : 0 < l.other
    · have s3 : ∀ K, A.store 1 (.ptr p0 4) (.lst [] 1) (st.put p0 (.cells (lkC ⟨l.epoch, nth n 0, l.first, 1, l.q⟩ t))) K = K (st.put p0 (.cells (lkC ⟨l.epoch, nth n 0, l.first, 1, []⟩ 1))) := fun K => by simp [lkC]
      have s4 : ∀ K, A.store 1 (.ptr p0 2) (.int .i64 1) (st.put p0 (.cells (lkC ⟨l.epoch, nth n 0, l.first, 1, []⟩ 1))) K = K (st.put p0 (.cells (lkC ⟨l.epoch, nth n 0, 1, 1, []⟩ 1))) := fun K => by simp [lkC]
      simp only [hz, decide_true, cond_true, faddr_ptr, Nat.zero_add, s3, s4, if_true]
      exact (h.put ⟨l.epoch, nth n 0, 1, 1, []⟩ 1).t3 hp true (by simp) (by simp) n3 (fun k => by rw [put_ne _ _ n3]; exact o3 k)
    · simp only [hz, decide_false, cond_false, if_false]
      exact (h.put ⟨l.epoch, nth n 0, l.first, 1, l.q⟩ t).t3 hp false (by simp) (by simp only; omega) n3 (fun k => by rw [put_ne _ _ n3]; exact o3 k)
  · simp only [show ¬ ((l.other : Int) < (nth n 0 : Int)) from by omega, decide_false, cond_false, Bool.false_and, if_neg ho]
    rw [show decide (l.other < nth n 0) = false from decide_eq_false ho, Bool.false_and]
    exact h.t3 hp false (by omega) (by omega) n3 o3
/-- No packet. -/
theorem RT.no {st0 st : St} {p0 p1 p2 t : Nat} {l : Lk} {n : Note} (h : RT st0 st p0 p1 p2 l t n) :
    ∃ st' u w, g20b1101 (.ptr p0 0) (.ptr p1 0) (.ptr p2 0) (.bool true) st = some (.ret (take4 l [] u [] w false), st') ∧ Ks st0 st' := by
  unfold g20b1101
  have lo : ∀ K, A.load true 5 (.ptr p0 0) st K = K (.agg (lkC l t)) st := fun K => load_lk h.o0 K
  simp only [cond_true, lo]
  obtain ⟨st', q1, q2, q3⟩ := h.fin l t [] 1 [] 1 false
  exact ⟨st', 1, 1, q1, q3⟩
theorem tail_take {l : Lk} {s : List UInt8} {pay : Note} (hr : rdN s = (pay, true)) (h0 : ¬ nth (oneN s) 0 < max l.other 1) (u w : Nat) :
    tailP (freshP l (nth (oneN s) 0)) (oneN s) pay u w (decide (l.other < nth (oneN s) 0) && decide (0 < l.other)) = take4 (takeP l s).1 (takeP l s).2.1 u (takeP l s).2.2.1 w (takeP l s).2.2.2 := by
  generalize hT : takeP l s = T
  have hn : ¬ ((rdN s).2 = false ∨ nth (oneN s) 0 < max l.other 1) := by
    rw [hr]; intro h
    rcases h with h | h
    · cases h
    · exact h0 h
  have ee : (freshP l (nth (oneN s) 0)).epoch = l.epoch := by unfold freshP; split; split <;> rfl; rfl
  unfold takeP at hT
  unfold tailP
  rw [if_neg hn] at hT
  rw [ee]
  by_cases h1 : nth (oneN s) 1 ≠ l.epoch
  · rw [if_pos h1] at hT ⊢
    subst hT; rfl
  · rw [if_neg h1] at hT ⊢
    by_cases h2 : (oneN s).kind = 1
    · rw [if_pos h2] at hT ⊢
      by_cases h3 : nth (oneN s) 2 = (freshP l (nth (oneN s) 0)).want
      · rw [if_pos h3] at hT ⊢
        subst hT; rw [hr]
      · rw [if_neg h3] at hT ⊢
        subst hT; rfl
    · rw [if_neg h2] at hT ⊢
      subst hT; rfl
theorem RT.t5 {st0 st : St} {p0 p1 p2 t : Nat} {l : Lk} {s : List UInt8} (h : RT st0 st p0 p1 p2 l t (oneN s)) (hs : s.length ≤ 4611686018427387903) (hl : LkOK l) (hp : Pkt (oneN s)) (ho : oneO s = true) (hr : (oneN s).rows.length = 0) (ht : ((oneN s).kind = 2 ∧ (oneN s).texts.length = 0) ∨ ((oneN s).kind = 1 ∧ (oneN s).texts.length = 1)) (h0 : ¬ nth (oneN s) 0 < max l.other 1) (hpl : st0.n ≤ st.n) (hp0 : p0 < st.n ∧ p1 < st.n ∧ p2 < st.n) (htx : ∀ x ∈ (oneN s).texts, x.length ≤ 4611686018427387903) :
    ∃ st' u w, g20b111 (.ptr p0 0) (.ptr p1 0) (.ptr p2 0) st = some (.ret (take4 (takeP l s).1 (takeP l s).2.1 u (takeP l s).2.2.1 w (takeP l s).2.2.2), st') ∧ Ks st0 st' := by
  unfold g20b111
  have bz : ∀ K, A.build [.int .i64 0, .lst [] 1, .lst [] 1, .lst [] 1] [] K = K (.agg (nC 0 [] 1 [] 1 [] 1)) := fun K => rfl
  have sz : ∀ K, A.store 4 (.ptr st.n 0) (.agg (nC 0 [] 1 [] 1 [] 1)) (st.new (.cells (nC 0 [] 1 [] 1 [] 1))) K = K ((st.new (.cells (nC 0 [] 1 [] 1 [] 1))).put st.n (.cells (nC 0 [] 1 [] 1 [] 1))) := fun K => by
    rw [store_agg, new_at, obo_some]; simp [nC, Go.Ab.putL]
  have h' : RT st0 ((st.new (.cells (nC 0 [] 1 [] 1 [] 1))).put st.n (.cells (nC 0 [] 1 [] 1 [] 1))) p0 p1 p2 l t (oneN s) :=
    ⟨(h.ks.new _).put hpl _, by rw [put_ne _ _ (by omega), new_ne _ _ (by omega)]; exact h.o0, by rw [put_ne _ _ (by omega), new_ne _ _ (by omega)]; exact h.o1, by rw [put_ne _ _ (by omega), new_ne _ _ (by omega)]; exact h.o2, h.g0, h.g1, h.n1, h.n2, h.n3⟩
  have oz := put_at (st.new (.cells (nC 0 [] 1 [] 1 [] 1))) st.n (.cells (nC 0 [] 1 [] 1 [] 1))
  have hn' : ((st.new (.cells (nC 0 [] 1 [] 1 [] 1))).put st.n (.cells (nC 0 [] 1 [] 1 [] 1))).n = st.n + 1 := by simp
  simp only [bz, box_zero, sz]
  generalize (st.new (.cells (nC 0 [] 1 [] 1 [] 1))).put st.n (.cells (nC 0 [] 1 [] 1 [] 1)) = st1 at h' oz hn'
  obtain ⟨m0, m1, m2, m3⟩ := noteld h'.o2
  rcases ht with ⟨k2, t0⟩ | ⟨k1, t1⟩
  · have kn : (oneN s).nums.length = 3 := by rcases hp.kind with ⟨_, g⟩ | ⟨g, _⟩ <;> omega
    have hrd : rdN s = (emptyN, true) := by
      unfold rdN
      rw [if_pos ⟨ho, hr⟩, if_pos ⟨k2, kn, t0⟩]
    simp only [faddr_ptr, Nat.zero_add, m0, k2, eql_int, Bool.false_eq_true, if_false, show ((2 : Int) == 1) = false from rfl]
    unfold g20bz3h
    simp only [cond_false]
    obtain ⟨st', u, w, q1, q2⟩ := h'.t4 (p3 := st.n) (pay := emptyN) hp hl (by omega) (fun g => by omega)
    refine ⟨st', u, w, ?_, q2⟩
    rw [q1]
    rw [tail_take hrd h0]
  · have kn : (oneN s).nums.length = 4 := by rcases hp.kind with ⟨g, _⟩ | ⟨_, g⟩ <;> omega
    have htl : 0 < (oneN s).texts.length := by omega
    have hg : (oneN s).texts.getD 0 [] = (oneN s).texts[0] := by rw [List.getD_eq_getElem?_getD, List.getElem?_eq_getElem htl]; rfl
    have hrd : rdN s = (oneN (oneN s).texts[0], oneO (oneN s).texts[0]) := by
      unfold rdN
      rw [if_pos ⟨ho, hr⟩, if_neg (by omega), if_pos ⟨k1, kn, t1⟩, hg]
    have ia0 : ∀ K, A.iaddr 1 (.lst (strsV (oneN s).texts) 0) (.int .i64 0) K = K (.lptr [.str (oneN s).texts[0]]) := fun K => iaddr_strs 0 htl K
    simp only [faddr_ptr, Nat.zero_add, m0, k1, eql_int, Bool.false_eq_true, if_false, beq_self_eq_true]
    unfold g20bz3h
    simp only [cond_true, faddr_ptr, Nat.zero_add, m2, ia0, load_l1', er1_str, rone_s _ (htx _ (List.getElem_mem htl)), ret_ret, ext_0, ext_1, box_zero, store_note (new_at _ _)]
    unfold g20bzdx
    cases hq : oneO (oneN s).texts[0] with
    | false =>
      have hP : takeP l s = (l, [], [], false) := by unfold takeP; rw [if_pos (.inl (by rw [hrd]; exact hq))]
      have h2 : RT st0 ((st1.new (.cells (nC 0 [] 1 [] 1 [] 1))).put st1.n (.cells (noteC (oneN (oneN s).texts[0])))) p0 p1 p2 l t (oneN s) :=
        ⟨(h'.ks.new _).put (by omega) _, by rw [put_ne _ _ (by omega), new_ne _ _ (by omega)]; exact h'.o0, by rw [put_ne _ _ (by omega), new_ne _ _ (by omega)]; exact h'.o1, by rw [put_ne _ _ (by omega), new_ne _ _ (by omega)]; exact h'.o2, h.g0, h.g1, h.n1, h.n2, h.n3⟩
      simp only [un_not, Bool.not_false, cond_true, hP]
      have lo : ∀ K, A.load true 5 (.ptr p0 0) ((st1.new (.cells (nC 0 [] 1 [] 1 [] 1))).put st1.n (.cells (noteC (oneN (oneN s).texts[0])))) K = K (.agg (lkC l t)) ((st1.new (.cells (nC 0 [] 1 [] 1 [] 1))).put st1.n (.cells (noteC (oneN (oneN s).texts[0])))) := fun K => load_lk h2.o0 K
      obtain ⟨st', q1, q2, q3⟩ := h2.fin l t [] 1 [] 1 false
      rw [lo]
      exact ⟨st', 1, 1, q1, q3⟩
    | true =>
      have o4 := put_at (st1.new (.cells (nC 0 [] 1 [] 1 [] 1))) st1.n (.cells (noteC (oneN (oneN s).texts[0])))
      have o3 : ((st1.new (.cells (nC 0 [] 1 [] 1 [] 1))).put st1.n (.cells (noteC (oneN (oneN s).texts[0])))).ob st.n = some (.cells (nC 0 [] 1 [] 1 [] 1)) := by
        rw [put_ne _ _ (by omega), new_ne _ _ (by omega)]; exact oz
      have h2 : RT st0 ((st1.new (.cells (nC 0 [] 1 [] 1 [] 1))).put st1.n (.cells (noteC (oneN (oneN s).texts[0])))) p0 p1 p2 l t (oneN s) :=
        ⟨(h'.ks.new _).put (by omega) _, by rw [put_ne _ _ (by omega), new_ne _ _ (by omega)]; exact h'.o0, by rw [put_ne _ _ (by omega), new_ne _ _ (by omega)]; exact h'.o1, by rw [put_ne _ _ (by omega), new_ne _ _ (by omega)]; exact h'.o2, h.g0, h.g1, h.n1, h.n2, h.n3⟩
      have l4 : ∀ K, A.load true 4 (.ptr st1.n 0) ((st1.new (.cells (nC 0 [] 1 [] 1 [] 1))).put st1.n (.cells (noteC (oneN (oneN s).texts[0])))) K = K (.agg (noteC (oneN (oneN s).texts[0]))) ((st1.new (.cells (nC 0 [] 1 [] 1 [] 1))).put st1.n (.cells (noteC (oneN (oneN s).texts[0])))) := fun K => load_noteb o4 K
      generalize (st1.new (.cells (nC 0 [] 1 [] 1 [] 1))).put st1.n (.cells (noteC (oneN (oneN s).texts[0]))) = st2 at h2 o3 o4 l4
      have s3 : ∀ K, A.store 4 (.ptr st.n 0) (.agg (noteC (oneN (oneN s).texts[0]))) st2 K = K (st2.put st.n (.cells (noteC (oneN (oneN s).texts[0])))) := fun K => store_note o3 _ K
      simp only [un_not, Bool.not_true, cond_false, l4, s3]
      have h3 : RT st0 (st2.put st.n (.cells (noteC (oneN (oneN s).texts[0])))) p0 p1 p2 l t (oneN s) :=
        ⟨h2.ks.put hpl _, by rw [put_ne _ _ (by omega)]; exact h2.o0, by rw [put_ne _ _ (by omega)]; exact h2.o1, by rw [put_ne _ _ (by omega)]; exact h2.o2, h.g0, h.g1, h.n1, h.n2, h.n3⟩
      obtain ⟨st', u, w, q1, q2⟩ := h3.t4 (p3 := st.n) (pay := oneN (oneN s).texts[0]) hp hl (by omega) (fun g => put_at _ _ _)
      refine ⟨st', u, w, ?_, q2⟩
      rw [q1]
      rw [tail_take (by rw [hrd, hq]) h0]
end Go.Ab

/- sinewref15.Take, New; sinewlaw15.made. -/
namespace Go.Ab
open Go.Proofs Go.RowKit Go.Oct
set_option linter.unusedVariables false
set_option linter.unusedSimpArgs false
set_option maxRecDepth 100000
theorem one_fits {s : List UInt8} (h : oneO s = true) : 1 ≤ (oneN s).kind ∧ (oneN s).kind ≤ 255 ∧ ∀ x ∈ (oneN s).texts, x.length ≤ 65536 := by
  unfold oneO at h
  simp only [Bool.and_eq_true, decide_eq_true_eq] at h
  have := (unp_back h.1).2
  simp only [packOK, Bool.and_eq_true] at this
  have hf := this.1
  unfold fitsW at hf
  simp only [Bool.and_eq_true, Bool.not_eq_true', decide_eq_false_iff_not, Int.not_lt, Nat.not_lt, decide_eq_true_eq] at hf
  obtain ⟨k1, k2, k3, k4, k5, k6, k7, k8⟩ := hf
  refine ⟨k1, k2, fun x hx => ?_⟩
  have := List.any_eq_false.1 k7 x hx
  simp only [longT, decide_eq_true_eq] at this
  omega
theorem c44 (x2 x4 x8 : V) (st : St) : g20b1100_44 x2 x4 x8 (.bool true) st = g20b1101 x2 x4 x8 (.bool true) st := by
  unfold g20b1100_44; rw [guard_tf]
theorem c37 (x2 x4 x8 : V) (st : St) : g20b1100_37 x2 x4 x8 (.bool true) st = g20b1101 x2 x4 x8 (.bool true) st := by
  unfold g20b1100_37; rw [guard_tf, c44]
theorem c28 (x2 x4 x8 : V) (st : St) : g20b1100_28 x2 x4 x8 (.bool true) st = g20b1101 x2 x4 x8 (.bool true) st := by
  unfold g20b1100_28; rw [guard_tf, c37]
theorem c19 (x2 x4 x8 : V) (st : St) : g20b1100_19 x2 x4 x8 (.bool true) st = g20b1101 x2 x4 x8 (.bool true) st := by
  unfold g20b1100_19; rw [guard_tf, c28]
theorem c9 (x2 x4 x8 : V) (st : St) : g20b1100_9 x2 x4 x8 (.bool true) st = g20b1101 x2 x4 x8 (.bool true) st := by
  unfold g20b1100_9; rw [guard_tf, c19]
theorem RT.t6 {st0 st : St} {p0 p1 p2 t : Nat} {l : Lk} {s : List UInt8} (h : RT st0 st p0 p1 p2 l t (oneN s)) (hs : s.length ≤ 4611686018427387903) (hl : LkOK l) (hpl : st0.n ≤ st.n) (hp0 : p0 < st.n ∧ p1 < st.n ∧ p2 < st.n) :
    ∃ st' u w, g20b11 (.ptr p0 0) (.ptr p1 0) (.ptr p2 0) (.bool (oneO s)) st = some (.ret (take4 (takeP l s).1 (takeP l s).2.1 u (takeP l s).2.2.1 w (takeP l s).2.2.2), st') ∧ Ks st0 st' := by
  have hsm := one_small s (by omega)
  obtain ⟨m0, m1, m2, m3⟩ := noteld h.o2
  obtain ⟨l0, l1, l2, l3, l4⟩ := lload h.o0
  have no : (rdN s).2 = false ∨ nth (oneN s) 0 < max l.other 1 → ∃ st' u w, g20b1101 (.ptr p0 0) (.ptr p1 0) (.ptr p2 0) (.bool true) st = some (.ret (take4 (takeP l s).1 (takeP l s).2.1 u (takeP l s).2.2.1 w (takeP l s).2.2.2), st') ∧ Ks st0 st' := fun g => by
    have hP : takeP l s = (l, [], [], false) := by unfold takeP; rw [if_pos g]
    rw [hP]
    exact h.no
  unfold g20b11
  cases ho : oneO s with
  | false =>
    simp only [un_not, Bool.not_false, guard_tf, c9]
    refine no (.inl ?_)
    unfold rdN; rw [if_neg (by rw [ho]; simp)]
  | true =>
    obtain ⟨f1, f2, f3⟩ := one_fits ho
    have hnn := one_nums ho
    simp only [un_not, Bool.not_true, guard_ff, faddr_ptr, Nat.zero_add, m3, lenL_lst, rowsV_len, bin_gtr]
    by_cases hr : 0 < (oneN s).rows.length
    · simp only [show ((0 : Int) < ((oneN s).rows.length : Int)) from by omega, decide_true, c9]
      refine no (.inl ?_)
      unfold rdN; rw [if_neg (by omega)]
    · have hr0 : (oneN s).rows.length = 0 := by omega
      simp only [show ¬ ((0 : Int) < ((oneN s).rows.length : Int)) from by omega, decide_false]
      unfold g20b1100_9
      simp only [guard_ff, faddr_ptr, Nat.zero_add, m0, bin_lss, show ¬ ((oneN s).kind < 1) from by omega, decide_false, bin_gtr]
      by_cases hk : 2 < (oneN s).kind
      · simp only [hk, decide_true, c19]
        refine no (.inl ?_)
        unfold rdN; rw [if_pos ⟨ho, hr0⟩, if_neg (by omega), if_neg (by omega)]
      · simp only [hk, decide_false]
        unfold g20b1100_19
        have e5 : ∀ K, A.bin .sub (.int .i64 5) (.int .i64 (oneN s).kind) K = K (.int .i64 (5 - (oneN s).kind)) := fun K => bin_sub K (by omega) (by omega)
        have e2 : ∀ K, A.bin .sub (.int .i64 2) (.int .i64 (oneN s).kind) K = K (.int .i64 (2 - (oneN s).kind)) := fun K => bin_sub K (by omega) (by omega)
        simp only [guard_ff, faddr_ptr, Nat.zero_add, m1, m0, lenL_lst, intsV_len, e5, eql_int, if_true]
        by_cases hn : ((oneN s).nums.length : Int) = 5 - (oneN s).kind
        · have hb : (((oneN s).nums.length : Int) != 5 - (oneN s).kind) = false := by rw [bne_eq_false_iff_eq]; exact hn
          simp only [hb]
          unfold g20b1100_28
          simp only [guard_ff, faddr_ptr, Nat.zero_add, m2, m0, lenL_lst, strsV_len, e2, eql_int, if_true]
          by_cases ht : ((oneN s).texts.length : Int) = 2 - (oneN s).kind
          · have hb : (((oneN s).texts.length : Int) != 2 - (oneN s).kind) = false := by rw [bne_eq_false_iff_eq]; exact ht
            simp only [hb]
            have hp : Pkt (oneN s) := ⟨hnn, by omega⟩
            have h0 : 0 < (oneN s).nums.length := by omega
            obtain ⟨x1, x2⟩ := hp.at h0
            have ia0 : ∀ K, A.iaddr 1 (.lst (intsV (oneN s).nums) 0) (.int .i64 0) K = K (.lptr [.int .i64 (oneN s).nums[0]]) := fun K => iaddr_ints 0 h0 K
            unfold g20b1100_37
            simp only [guard_ff, faddr_ptr, Nat.zero_add, m1, ia0, load_l1', x1, eql_int, Bool.false_eq_true, if_false]
            by_cases hz : nth (oneN s) 0 = 0
            · have hb : (((nth (oneN s) 0 : Nat) : Int) == 0) = true := by rw [hz]; rfl
              simp only [hb, c44]
              exact no (.inr (by omega))
            · have hb : (((nth (oneN s) 0 : Nat) : Int) == 0) = false := by rw [beq_eq_false_iff_ne]; omega
              simp only [hb]
              unfold g20b1100_44
              simp only [guard_ff, faddr_ptr, Nat.zero_add, m1, ia0, load_l1', x1, l1, bin_lss]
              by_cases hlo : nth (oneN s) 0 < l.other
              · simp only [show (((nth (oneN s) 0 : Nat) : Int) < (l.other : Int)) from by omega, decide_true]
                exact no (.inr (by omega))
              · simp only [show ¬ (((nth (oneN s) 0 : Nat) : Int) < (l.other : Int)) from by omega, decide_false]
                unfold g20b1101
                simp only [cond_false]
                exact h.t5 hs hl hp ho hr0 (by omega) (by omega) hpl hp0 (fun x hx => by have := f3 x hx; omega)
          · have hb : (((oneN s).texts.length : Int) != 2 - (oneN s).kind) = true := by rw [bne_iff_ne]; exact ht
            simp only [hb, c37]
            refine no (.inl ?_)
            unfold rdN; rw [if_pos ⟨ho, hr0⟩, if_neg (by omega), if_neg (by omega)]
        · have hb : (((oneN s).nums.length : Int) != 5 - (oneN s).kind) = true := by rw [bne_iff_ne]; exact hn
          simp only [hb, c28]
          refine no (.inl ?_)
          unfold rdN; rw [if_pos ⟨ho, hr0⟩, if_neg (by omega), if_neg (by omega)]
theorem rtake_s (l : Lk) (hl : LkOK l) (s : List UInt8) (hs : s.length ≤ 4611686018427387903) (st : St) :
    s20 [lkV l, .str s] st = some (.ret (take4 (takeP l s).1 (takeP l s).2.1 0 (takeP l s).2.2.1 0 (takeP l s).2.2.2), st) := by
  rw [s20_eq]
  have key : ∃ st' u w, f20 (lkV l) (.str s) st = some (.ret (take4 (takeP l s).1 (takeP l s).2.1 u (takeP l s).2.2.1 w (takeP l s).2.2.2), st') ∧ Ks st st' := by
    unfold f20
    rw [lkV, box_lk]
    simp only [box_lkZ, er1_str, rone_s s hs, ret_ret, ext_0, ext_1, box_zero, store_note (new_at _ _)]
    have ks := ((((Ks.refl st).new (.cells (lkC l 0))).new (.cells (lkC lkZ 1))).new (.cells (nC 0 [] 1 [] 1 [] 1))).put (show st.n ≤ st.n + 1 + 1 by omega) (.cells (noteC (oneN s)))
    have hn1 : (st.new (.cells (lkC l 0))).n = st.n + 1 := by simp
    have hn2 : ((st.new (.cells (lkC l 0))).new (.cells (lkC lkZ 1))).n = st.n + 1 + 1 := by simp
    rw [hn1, hn2]
    refine RT.t6 (t := 0) ⟨ks, ?_, ?_, put_at _ _ _, Nat.le_refl _, by omega, by omega, by omega, by omega⟩ hs hl (by simp; omega) (by simp; omega)
    · rw [put_ne _ _ (by omega), new_ne _ _ (by rw [hn2]; omega), new_ne _ _ (by rw [hn1]; omega)]; exact new_at _ _
    · rw [put_ne _ _ (by omega), new_ne _ _ (by rw [hn2]; omega), ← hn1]; exact new_at _ _
  obtain ⟨st', u, w, h1, h2⟩ := key
  have hp : ∀ G : List Note, V.puL (notesV G) = true := fun G => by
    induction G with
    | nil => rfl
    | cons n G ih => simp [notesV, V.puL, pu_note] at ih ⊢; exact ih
  exact fg_of h1 h2 (by
    have e : (take4 (takeP l s).1 (takeP l s).2.1 u (takeP l s).2.2.1 w (takeP l s).2.2.2).era = take4 (takeP l s).1 (takeP l s).2.1 0 (takeP l s).2.2.1 0 (takeP l s).2.2.2 := rfl
    rw [e]; simp [take4, lkV_pu, hp])
theorem newC_er (e : Nat) : V.agg [.int .i64 (e : Nat), .int .i64 0, .int .i64 1, .int .i64 1, .lst [] 1] = .agg (lkC (newP e) 1) := rfl
theorem rnew_s (e : Nat) (h1 : 1 ≤ e) (h2 : e ≤ 1099511627776) (st : St) : s10 [.int .i64 (e : Nat)] st = some (.ret (.tup [lkV (newP e), .int .i64 0]), st) := by
  rw [s10_eq]
  have key : ∃ st', f10 (.int .i64 (e : Nat)) st = some (.ret (.tup [lkV (newP e), .int .i64 0]), st') ∧ Ks st st' := by
    unfold f10
    have bu : ∀ K, A.build [.int .i64 0, .int .i64 0, .int .i64 0, .int .i64 0, .lst [] 1] [(0, 1, .int .i64 (e : Nat)), (2, 1, .int .i64 1), (3, 1, .int .i64 1)] K = K (.agg (lkC (newP e) 1)) := fun K => rfl
    have so : ∀ K, A.store 5 (.ptr st.n 0) (.agg (lkC (newP e) 1)) (st.new (.cells (lkC lkZ 1))) K = K ((st.new (.cells (lkC lkZ 1))).put st.n (.cells (lkC (newP e) 1))) := fun K => store_lk (new_at _ _) K
    have lo : ∀ K, A.load true 5 (.ptr st.n 0) ((st.new (.cells (lkC lkZ 1))).put st.n (.cells (lkC (newP e) 1))) K = K (.agg (lkC (newP e) 1)) ((st.new (.cells (lkC lkZ 1))).put st.n (.cells (lkC (newP e) 1))) := fun K => load_lk (put_at _ _ _) K
    simp only [box_lkZ, bin_lss, show ¬ ((e : Int) < 1) from by omega, decide_false, guard_ff, bin_gtr, show ¬ ((1099511627776 : Int) < (e : Int)) from by omega, cond_false, bu, so, lo, kid_eq, rtmp_some, rcell_some, res_two, er1_int, lkV_er]
    exact ⟨_, rfl, ((Ks.refl st).new _).put (Nat.le_refl _) _⟩
  obtain ⟨st', q1, q2⟩ := key
  exact fg_of q1 q2 (by simp [show ∀ l, (lkV l).er = lkV l from fun _ => rfl, lkV_pu])
theorem rnew_no (e : Int) (h : e < 1 ∨ 1099511627776 < e) (st : St) : s10 [.int .i64 e] st = some (.ret (.tup [lkV lkZ, .int .i64 1]), st) := by
  rw [s10_eq]
  have key : ∃ st', f10 (.int .i64 e) st = some (.ret (.tup [lkV lkZ, .int .i64 1]), st') ∧ Ks st st' := by
    unfold f10
    have bu : ∀ K, A.build [.int .i64 0, .int .i64 0, .int .i64 0, .int .i64 0, .lst [] 1] [] K = K (.agg (lkC lkZ 1)) := fun K => rfl
    have so : ∀ K, A.store 5 (.ptr st.n 0) (.agg (lkC lkZ 1)) (st.new (.cells (lkC lkZ 1))) K = K ((st.new (.cells (lkC lkZ 1))).put st.n (.cells (lkC lkZ 1))) := fun K => store_lk (new_at _ _) K
    have lo : ∀ K, A.load true 5 (.ptr st.n 0) ((st.new (.cells (lkC lkZ 1))).put st.n (.cells (lkC lkZ 1))) K = K (.agg (lkC lkZ 1)) ((st.new (.cells (lkC lkZ 1))).put st.n (.cells (lkC lkZ 1))) := fun K => load_lk (put_at _ _ _) K
    refine ⟨_, ?_, ((Ks.refl st).new (.cells (lkC lkZ 1))).put (Nat.le_refl _) (.cells (lkC lkZ 1))⟩
    by_cases h1 : e < 1
    · simp only [box_lkZ, bin_lss, h1, decide_true, guard_tf, bu, so, lo, kid_eq, rtmp_some, rcell_some, res_two, er1_int, lkV_er]
    · simp only [box_lkZ, bin_lss, h1, decide_false, guard_ff, bin_gtr, show ((1099511627776 : Int) < e) from by omega, decide_true, cond_true, bu, so, lo, kid_eq, rtmp_some, rcell_some, res_two, er1_int, lkV_er]
  obtain ⟨st', q1, q2⟩ := key
  exact fg_of q1 q2 (by simp [show ∀ l, (lkV l).er = lkV l from fun _ => rfl, lkV_pu])
theorem lnew_no (e : Int) (h : e < 1 ∨ 1099511627776 < e) (st : St) : s9 [.int .i64 e] st = some (.ret (.tup [.ptr0, .int .i64 1]), st) := by
  rw [s9_eq]
  unfold f9
  by_cases h1 : e < 1
  · simp only [bin_lss, h1, decide_true, guard_tf]; rfl
  · simp only [bin_lss, h1, decide_false, guard_ff, bin_gtr, show ((1099511627776 : Int) < e) from by omega, decide_true, cond_true]; rfl
/-! made -/
structure LOp where
  kind : Int
  n : Note
  text : List UInt8
  nums : List Int
  number : Int
def lopC (o : LOp) : List V := [.int .i64 o.kind, .int .i64 o.n.kind, .lst (intsV o.n.nums) 0, .lst (strsV o.n.texts) 0, .lst (rowsV o.n.rows) 0, .str o.text, .lst (intsV o.nums) 0, .int .i64 o.number]
def lopV (o : LOp) : V := .agg (lopC o)
theorem lopV_er (o : LOp) : (lopV o).er1 = lopV o := rfl
theorem lopld {st : St} {p : Nat} {o : LOp} (h : st.ob p = some (.cells (lopC o))) : (∀ K, A.load false 1 (.ptr p 0) st K = K (.int .i64 o.kind) st) ∧ (∀ K, A.load true 4 (.ptr p 1) st K = K (noteV o.n) st) ∧ (∀ K, A.load false 1 (.ptr p 5) st K = K (.str o.text) st) ∧ (∀ K, A.load false 1 (.ptr p 6) st K = K (.lst (intsV o.nums) 0) st) ∧ (∀ K, A.load false 1 (.ptr p 7) st K = K (.int .i64 o.number) st) ∧ (∀ K, A.load true 8 (.ptr p 0) st K = K (lopV o) st) := by
  refine ⟨fun K => by simp [h, lopC], fun K => ?_, fun K => by simp [h, lopC], fun K => by simp [h, lopC], fun K => by simp [h, lopC], fun K => ?_⟩
  · rw [load_obA, h]; rfl
  · rw [load_obA, h]; rfl
theorem nums_store {st : St} {p t : Nat} {k : Int} {xs : List Int} (h : st.ob p = some (.cells (nC k xs t [] 1 [] 1))) (ys : List Int) (u : Nat) (K : St → Res) : A.store 1 (.ptr p 1) (.lst (intsV ys) u) st K = K (st.put p (.cells (nC k ys u [] 1 [] 1))) := by
  rw [store_lst, h]; rfl
theorem made_loop {st0 : St} {o : LOp} (hon : o.nums.length ≤ 9223372036854775807) {p1 p3 : Nat} (hp1 : st0.n ≤ p1) (hp3 : st0.n ≤ p3) (hne : p1 ≠ p3) (kd : Nat) (hk : kd = 1 ∨ kd = 2) : ∀ (f i : Nat) (xs : List Int) (t : Nat) (st : St), i ≤ 5 - kd → 5 - kd < f + i → xs.length = i → Ks st0 st → Own st0 st 1 t → st.ob p1 = some (.cells (lopC o)) → st.ob p3 = some (.cells (nC (kd : Nat) xs t [] 1 [] 1)) →
    ∃ st' xs' t', g18b11010 f (.ptr p1 0) (.ptr p3 0) (.int .i64 (i : Nat)) st = g18b111 (.ptr p1 0) (.ptr p3 0) st' ∧ xs'.length ≤ 5 ∧ Ks st0 st' ∧ st'.ob p1 = some (.cells (lopC o)) ∧ st'.ob p3 = some (.cells (nC (kd : Nat) xs' t' [] 1 [] 1)) := by
  intro f
  induction f with
  | zero => intro i xs t st hi hf; omega
  | succ f ih =>
    intro i xs t st hi hf hx ks ho o1 o3
    unfold g18b11010
    obtain ⟨q0, q1, q2, q3, q4, q5⟩ := lopld o1
    have m0 : ∀ K, A.load false 1 (.ptr p3 0) st K = K (.int .i64 (kd : Nat)) st := fun K => by simp [o3, nC]
    have m1 : ∀ K, A.load false 1 (.ptr p3 1) st K = K (.lst (intsV xs) t) st := fun K => by simp [o3, nC]
    have e5 : ∀ K, A.bin .sub (.int .i64 5) (.int .i64 (kd : Nat)) K = K (.int .i64 ((5 - kd : Nat) : Int)) := fun K => bin_subN 5 kd K (by omega) (by omega)
    simp only [faddr_ptr, Nat.zero_add, m0, e5, bin_lss]
    by_cases hlt : i < 5 - kd
    · have step : ∀ x : Int, ∃ st' xs' t', g18bz2vn (g18b11010 f) (.ptr p1 0) (.ptr p3 0) (.int .i64 (i : Nat)) (.int .i64 x) st = g18b111 (.ptr p1 0) (.ptr p3 0) st' ∧ xs'.length ≤ 5 ∧ Ks st0 st' ∧ st'.ob p1 = some (.cells (lopC o)) ∧ st'.ob p3 = some (.cells (nC (kd : Nat) xs' t' [] 1 [] 1)) := by
        intro x
        unfold g18bz2vn
        have bs : ∀ K, A.bslice 1 (.int .i64 0) 1 [(0, .int .i64 x)] K = K (.lst (intsV [x]) 2) := fun K => rfl
        have e4 : ∀ K, A.bin .add (.int .i64 (i : Nat)) (.int .i64 1) K = K (.int .i64 ((i + 1 : Nat) : Int)) := fun K => bin_inc (by omega) K
        simp only [faddr_ptr, Nat.zero_add, m1, bs, elemsOf_ints]
        rw [app_own _ ho (by simp; omega) (szok_ints _), show intsV xs ++ intsV [x] = intsV (xs ++ [x]) by simp [intsV]]
        obtain ⟨k2, ho2⟩ := ho.app ks
        have o1' : (appSt st t 1).ob p1 = some (.cells (lopC o)) := by rw [appSt_ob]; exact o1
        have o3' : (appSt st t 1).ob p3 = some (.cells (nC (kd : Nat) xs t [] 1 [] 1)) := by rw [appSt_ob]; exact o3
        simp only [nums_store o3', e4]
        refine ih (i + 1) (xs ++ [x]) (st.nt + 3) _ (by omega) (by omega) (by simp; omega) (k2.put hp3 _) ?_ (by rw [put_ne _ _ hne]; exact o1') (put_at _ _ _)
        rcases ho2 with g | g | ⟨k, g1, g2, g3, g4⟩
        · exact .inl g
        · exact .inr (.inl g)
        · exact .inr (.inr ⟨k, g1, g2, g3, g4⟩)
      simp only [show ((i : Int) < ((5 - kd : Nat) : Int)) from by omega, decide_true, cond_true, q3, lenL_lst, intsV_len, bin_lss]
      simp only [g18bz5r9]
      by_cases hn : i < o.nums.length
      · simp only [show ((i : Int) < (o.nums.length : Int)) from by omega, decide_true, cond_true, faddr_ptr, Nat.zero_add, q3, iaddr_ints 0 hn, load_l1']
        exact step _
      · simp only [show ¬ ((i : Int) < (o.nums.length : Int)) from by omega, decide_false, cond_false]
        exact step 1
    · simp only [show ¬ ((i : Int) < ((5 - kd : Nat) : Int)) from by omega, decide_false, cond_false]
      exact ⟨st, xs, t, rfl, by omega, ks, o1, o3⟩
theorem made_s (o : LOp) (hn : NoteOK o.n) (hu : Upto o.n) (hon : o.nums.length ≤ 9223372036854775807) (st : St) : ∃ s : List UInt8, s.length ≤ 1048584 ∧ s18 [lopV o] st = some (.ret (.str s), st) := by
  rw [s18_eq]
  have hl := low_lt 2 o.number (by omega)
  have and1 : ∀ K, A.bin .and (.int .i64 o.number) (.int .i64 1) K = K (.int .i64 (low 2 o.number : Nat)) := fun K => bin_andN 1 1 rfl (by decide) K
  have key : ∃ (s : List UInt8) (st' : St), s.length ≤ 1048584 ∧ f18 (lopV o) st = some (.ret (.str s), st') ∧ Ks st st' := by
    unfold f18
    have bx : ∀ K, A.box (lopV o) st K = K (.ptr st.n 0) (st.new (.cells (lopC o))) := fun K => rfl
    have a1 : ∀ K, A.bin .add (.int .i64 1) (.int .i64 (low 2 o.number : Nat)) K = K (.int .i64 ((1 + low 2 o.number : Nat) : Int)) := fun K => bin_addN 1 _ K (by omega)
    obtain ⟨q0, q1, q2, q3, q4, q5⟩ := lopld (new_at st (.cells (lopC o)))
    have bu : ∀ (k : Int) K, A.build [.int .i64 0, .lst [] 1, .lst [] 1, .lst [] 1] [(0, 1, .int .i64 k)] K = K (.agg (nC k [] 1 [] 1 [] 1)) := fun k K => rfl
    have hkd : 1 + low 2 o.number = 1 ∨ 1 + low 2 o.number = 2 := by omega
    simp only [bx, faddr_ptr, Nat.zero_add, q4, and1, a1]
    generalize 1 + low 2 o.number = kd at hkd
    have hn1 : (st.new (.cells (lopC o))).n = st.n + 1 := by simp
    have sz : ∀ K, A.store 4 (.ptr (st.n + 1) 0) (.agg (nC (kd : Nat) [] 1 [] 1 [] 1)) ((st.new (.cells (lopC o))).new (.cells (nC 0 [] 1 [] 1 [] 1))) K = K (((st.new (.cells (lopC o))).new (.cells (nC 0 [] 1 [] 1 [] 1))).put (st.n + 1) (.cells (nC (kd : Nat) [] 1 [] 1 [] 1))) := fun K => by
      rw [store_agg, ← hn1, new_at, obo_some]; simp [nC, Go.Ab.putL]
    have k1 := (((Ks.refl st).new (.cells (lopC o))).new (.cells (nC 0 [] 1 [] 1 [] 1))).put (show st.n ≤ st.n + 1 by omega) (.cells (nC (kd : Nat) [] 1 [] 1 [] 1))
    have o3 := put_at ((st.new (.cells (lopC o))).new (.cells (nC 0 [] 1 [] 1 [] 1))) (st.n + 1) (.cells (nC (kd : Nat) [] 1 [] 1 [] 1))
    have o1 : (((st.new (.cells (lopC o))).new (.cells (nC 0 [] 1 [] 1 [] 1))).put (st.n + 1) (.cells (nC (kd : Nat) [] 1 [] 1 [] 1))).ob st.n = some (.cells (lopC o)) := by
      rw [put_ne _ _ (by omega), new_ne _ _ (by rw [hn1]; omega)]; exact new_at _ _
    simp only [bu, box_zero, hn1, sz]
    obtain ⟨st2, xs, t, r1, r2, r3, r4, r5⟩ := made_loop hon (Nat.le_refl st.n) (show st.n ≤ st.n + 1 by omega) (by omega) kd hkd big 0 [] 1 _ (by omega) (lt_big (by omega)) rfl k1 (.nil _ _ _) o1 o3
    rw [show ((0 : Nat) : Int) = 0 from rfl] at r1
    rw [r1]
    unfold g18b111
    obtain ⟨q0, q1, q2, q3, q4, q5⟩ := lopld r4
    have m0 : ∀ K, A.load false 1 (.ptr (st.n + 1) 0) st2 K = K (.int .i64 (kd : Nat)) st2 := fun K => by simp [r5, nC]
    -- the end
    have last : ∀ (ts : List (List UInt8)) (u : Nat) (st3 : St), ts.length ≤ 1 → Ks st st3 → st3.ob (st.n + 1) = some (.cells (nC (kd : Nat) xs t ts u [] 1)) → ∃ (s : List UInt8) (st' : St), s.length ≤ 1048584 ∧ g18b1111 (.ptr (st.n + 1) 0) st3 = some (.ret (.str s), st') ∧ Ks st st' := by
      intro ts u st3 hts k3 h3
      unfold g18b1111
      have l4 : ∀ K, A.load true 4 (.ptr (st.n + 1) 0) st3 K = K (.agg (nC (kd : Nat) xs t ts u [] 1)) st3 := fun K => by rw [load_obA, h3]; rfl
      have er : (V.agg (nC (kd : Nat) xs t ts u [] 1)).er1 = noteV ⟨(kd : Nat), xs, ts, []⟩ := rfl
      obtain ⟨e, hr⟩ := rpk_s ⟨(kd : Nat), xs, ts, []⟩ ⟨by simp; omega, by simp; omega, by simp, by simp⟩ (by simp [Upto, lens]; omega) st3
      simp only [l4, er, hr, ret_ret, ext_0, ext_1, er1_str]
      exact ⟨_, st3, pkt_len _, rfl, k3⟩
    rcases hkd with rfl | rfl
    · obtain ⟨e, hr⟩ := rpk_s o.n hn hu st2
      have ern : (noteV o.n).er1 = noteV o.n := rfl
      have ss : ∀ (s : List UInt8) K, A.store 1 (.ptr (st.n + 1) 2) (.lst (strsV [s]) 2) st2 K = K (st2.put (st.n + 1) (.cells (nC ((1 : Nat) : Int) xs t [s] 2 [] 1))) := fun s K => by
        rw [store_lst, r5]; rfl
      simp only [faddr_ptr, Nat.zero_add, m0, eql_int, Bool.false_eq_true, if_false, show (((1 : Nat) : Int) == 1) = true from rfl, cond_true, q1, ern, hr, ret_ret, ext_0, ext_1, bslice_str, ss]
      exact last [pkt o.n] 2 _ (by simp) (r3.put (by omega) _) (put_at _ _ _)
    · simp only [faddr_ptr, Nat.zero_add, m0, eql_int, Bool.false_eq_true, if_false, show (((2 : Nat) : Int) == 1) = false from rfl, cond_false]
      exact last [] 1 st2 (by simp) r3 r5
  obtain ⟨s, st', h1, h2, h3⟩ := key
  exact ⟨s, h1, fg_of h2 h3 rfl⟩
end Go.Ab

/- sinewlaw15.LinkWindow, the law. -/
namespace Go.Ab
open Go.Proofs Go.RowKit Go.Oct
set_option linter.unusedVariables false
set_option linter.unusedSimpArgs false
set_option maxRecDepth 100000
/-- An end that has put so many, and knows nobody. -/
def uA (n : Nat) : Lk := ⟨1, 0, 1, 1, paysQ 5 n⟩
theorem uA_ok (n : Nat) (hn : n ≤ 1000) : LkOK (uA n) := ⟨by simp [uA], by simp [uA], by simp [uA], by simp [uA], by simp [uA], by simp [uA, paysQ_len]; omega⟩
theorem win_first (n : Nat) (hn : n ≤ 199) (ia ib ta tb : Nat) (st : St) (h : Two st ia ta (uA n) ib tb (newP 1)) :
    ∃ st', g8bz73 (.ptr ia 0) (.ptr ib 0) (.int .i64 (n : Nat)) (.int .i64 0) st = some (.ret (.bool true), st') := by
  have hl := paysQ_len 5 n
  unfold g8bz73
  by_cases h0 : n = 0
  · subst h0
    simp only [bin_gtr, Int.natCast_zero, Int.lt_irrefl, decide_false, cond_false]
    unfold g8bze7
    -- nothing was put: the ends stay as they are
    have key : ∀ (f r : Nat), r ≤ 8 → 8 < f + r → ∃ st', g8bz35m f (.ptr ia 0) (.ptr ib 0) (.int .i64 0) (.int .i64 0) (.int .i64 (r : Nat)) st = some (.ret (.bool true), st') := by
      intro f
      induction f with
      | zero => intro r hr hf; omega
      | succ f ih =>
        intro r hr hf
        unfold g8bz35m
        have e1 := (uA_ok 0 (by omega)).e1
        have hq : (uA 0).q.length = 0 := rfl
        have ht : tickP (uA 0) = [] := rfl
        by_cases hlt : r < 8
        · have e4 : ∀ K, A.bin .add (.int .i64 (r : Nat)) (.int .i64 1) K = K (.int .i64 ((r + 1 : Nat) : Int)) := fun K => bin_inc (by omega) K
          have em : ∀ K, A.min (.int .i64 64) (.int .i64 0) K = K (.int .i64 0) := fun K => rfl
          have es : ∀ K, A.bin .sub (.int .i64 0) (.int .i64 0) K = K (.int .i64 0) := fun K => rfl
          simp only [bin_lss, show ((r : Int) < 8) from by omega, decide_true, cond_true, er1_ptr, ltick_s h.pa h.oa, ht, ret_ret, lenL_lst, strsV_nil, List.length_nil, Int.natCast_zero, lwaits_s h.pa e1, hq, em, eql_int, if_true, bne_self_eq_false, guard_ff, es, cond_false]
          unfold g8bz5lzn
          obtain ⟨k, hk⟩ : ∃ k, big = k + 1 := ⟨big - 1, by have := big_le; omega⟩
          rw [hk]
          unfold g8bzmfym
          simp only [lenL_lst, List.length_nil, Int.natCast_zero, bin_lss, Int.lt_irrefl, decide_false, cond_false, e4]
          exact ih (r + 1) (by omega) (by omega)
        · simp only [bin_lss, show ¬ ((r : Int) < 8) from by omega, decide_false, cond_false, eql_int, Bool.false_eq_true, if_false, beq_self_eq_true, guard_tt, er1_ptr, lwaits_s h.pa e1, hq, ret_ret, Int.natCast_zero, s11_val, er1_bool]
          exact ⟨_, rfl⟩
    exact key big 0 (by omega) (by have := big_le; omega)
  · have htl : (tickP (uA n)).length = min n 64 := by
      unfold tickP; rw [List.length_map, List.length_range]; simp [uA, hl]
    have hlt : 0 < (tickP (uA n)).length := by omega
    have hget : (tickP (uA n))[0] = pkt (pk1 (uA n) 0) := by simp [tickP]
    obtain ⟨p1, p2, p3, p4⟩ := pay_ok 5 0 (by omega) (by omega) (by omega)
    have ht := take_full (l := newP 1) (uA_ok n (by omega)) (k := 0) (by simp [uA, hl]; omega) (m := payN 5 0) (by have := paysQ_at 5 n 0 0 (by omega); rw [List.drop_zero] at this; exact this) p2 p3 (by omega) (by simp [newP, uA])
    rw [if_pos (by simp [uA, newP])] at ht
    have hf : freshP (newP 1) (uA n).epoch = wB 0 := by unfold freshP; rw [if_pos (by simp [uA, newP]), if_neg (by simp [newP])]; rfl
    rw [hf, show (decide ((newP 1).other < (uA n).epoch) && decide (0 < (newP 1).other)) = false by simp [newP]] at ht
    obtain ⟨st1, tb1, q1, q2, q3, _⟩ := h.swap.take (pkt (pk1 (uA n) 0)) (by have := pkt_len (pk1 (uA n) 0); omega) (by rw [ht]; exact wB_ok 0 (by omega))
    rw [ht] at q1 q2
    have ia0 : ∀ K, A.iaddr 1 (.lst (strsV (tickP (uA n))) 0) (.int .i64 0) K = K (.lptr [.str (pkt (pk1 (uA n) 0))]) := fun K => by
      rw [← hget]; exact iaddr_strs (i := 0) 0 hlt K
    simp only [bin_gtr, show ((0 : Int) < (n : Int)) from by omega, decide_true, cond_true, er1_ptr, ltick_s h.pa h.oa, ret_ret, ia0, load_l1', er1_str, q1, came_box]
    have kk : Two ((st1.new (.cells (cC [] 1 [] 1 false))).put st1.n (.cells (cC [] 0 [pkt (pk2 (wB 0))] 0 false))) ib tb1 (wB 0) ia ta (uA n) :=
      q2.kp (by simp) (fun i hi => by rw [put_ne _ _ (by omega), new_ne _ _ (by omega)]) rfl rfl
    have oc := put_at (st1.new (.cells (cC [] 1 [] 1 false))) st1.n (.cells (cC [] 0 [pkt (pk2 (wB 0))] 0 false))
    generalize (st1.new (.cells (cC [] 1 [] 1 false))).put st1.n (.cells (cC [] 0 [pkt (pk2 (wB 0))] 0 false)) = st2 at kk oc
    generalize st1.n = c at oc
    obtain ⟨c0, c1, c2⟩ := came_ld oc
    have s0 : ∀ K, A.iaddr 1 (.lst (strsV [pkt (pk2 (wB 0))]) 0) (.int .i64 0) K = K (.lptr [.str (pkt (pk2 (wB 0)))]) := fun K => rfl
    have nl0 : (notesV []).length = 0 := rfl
    have sl1 : (strsV [pkt (pk2 (wB 0))]).length = 1 := rfl
    have hb := take_bare (l := uA n) (wB_ok 0 (by omega)) (by simp [uA, wB])
    rw [if_neg (by simp [uA, wB])] at hb
    have hf2 : freshP (uA n) (wB 0).epoch = wA n 0 := by unfold freshP; rw [if_pos (by simp [uA, wB]), if_neg (by simp [uA])]; rfl
    have hg2 : ackP (wA n 0) (wB 0).want = wA n 0 := by
      have e : min ((wB 0).want - (wA n 0).first) (wA n 0).q.length = 0 := by simp [wA, wB]
      unfold ackP
      rw [e]; rfl
    rw [hf2, hg2, show (decide ((uA n).other < (wB 0).epoch) && decide (0 < (uA n).other)) = false by simp [uA]] at hb
    obtain ⟨st3, ta3, r1, r2, r3, _⟩ := kk.swap.take (pkt (pk2 (wB 0))) (by have := pkt_len (pk2 (wB 0)); omega) (by rw [hb]; exact wA_ok _ _ (by omega) (by omega))
    rw [hb] at r1 r2
    simp only [faddr_ptr, Nat.zero_add, c0, lenL_lst, nl0, Int.natCast_zero, eql_int, if_true, bne_self_eq_false, guard_ff, c1, sl1, show (((1 : Nat) : Int) != 1) = false from rfl, cond_false]
    unfold g8bz6az
    simp only [faddr_ptr, Nat.zero_add, c1, s0, load_l1', er1_ptr, er1_str, r1, ret_ret]
    unfold g8bze7
    exact win_rounds n hn ia ib big 0 0 ta3 tb1 st3 (by omega) (by have := big_le; omega) (by omega) (.inl (by omega)) r2
theorem win_puts (n : Nat) (hn : n ≤ 199) (ia ib : Nat) : ∀ (f i ta tb : Nat) (st : St), i ≤ n → n < f + i → Two st ia ta (uA i) ib tb (newP 1) →
    ∃ st', g8bzsa f (.ptr ia 0) (.ptr ib 0) (.int .i64 (n : Nat)) (.int .i64 0) (.int .i64 (i : Nat)) st = some (.ret (.bool true), st') := by
  intro f
  induction f with
  | zero => intro i ta tb st hi hf; omega
  | succ f ih =>
    intro i ta tb st hi hf h
    unfold g8bzsa
    by_cases hlt : i < n
    · have e4 : ∀ K, A.bin .add (.int .i64 (i : Nat)) (.int .i64 1) K = K (.int .i64 ((i + 1 : Nat) : Int)) := fun K => bin_inc (by omega) K
      obtain ⟨p1, p2, p3, p4⟩ := pay_ok 5 i (by omega) (by omega) (by omega)
      have hl := paysQ_len 5 i
      have hq : (uA i).q.length = i := hl
      have hP := put_pay (l := uA i) p2 (by omega) (by rw [hq]; omega)
      have hu : (⟨(uA i).epoch, (uA i).other, (uA i).first, (uA i).want, (uA i).q ++ [packB (payN 5 i)]⟩ : Lk) = uA (i + 1) := by
        show (⟨1, 0, 1, 1, paysQ 5 i ++ [packB (payN 5 i)]⟩ : Lk) = _
        rw [paysQ_snoc]; rfl
      rw [hu, hq] at hP
      obtain ⟨st1, ta1, q1, q2, q3⟩ := h.put (payN 5 i) p1 (by rw [hP]; exact uA_ok _ (by omega))
      rw [hP] at q1 q2
      have bl : ∀ K, (A.bslice 1 (.int .i64 0) 1 [(0, .int .i64 (i : Nat))] fun a2 => A.build [.int .i64 0, .lst [] 1, .lst [] 1, .lst [] 1] [(0, 1, .int .i64 5), (1, 1, a2)] K) = K (.agg (nC 5 [(i : Int)] 2 [] 1 [] 1)) := pay_built i
      simp only [bin_lss, show ((i : Int) < (n : Int)) from by omega, decide_true, cond_true, bl, er1_ptr, pay_er1, q1, ret_ret, ext_0, ext_1]
      unfold g8bzp55
      by_cases h64 : 64 < i + 1
      · have el : (if 64 < i + 1 then ([] : List (List UInt8)) else [pkt (pk1 (uA (i + 1)) i)]) = [] := if_pos h64
        rw [el]
        simp only [eql_int, if_true, Int.natCast_zero, bne_self_eq_false, guard_ff, lenL_lst, strsV_nil, List.length_nil, guardT_b, guard_ft]
        unfold g8bz1eaa_12
        simp only [guard_ff, lenL_lst, List.length_nil, Int.natCast_zero, eql_int, if_true, show ((0 : Int) != 1) = true from rfl, guardT_b, guard_tt, bin_lss, show ¬ ((i : Int) < 64) from by omega, decide_false, cond_false, e4]
        exact ih (i + 1) ta1 tb st1 (by omega) (by omega) q2
      · have el : (if 64 < i + 1 then ([] : List (List UInt8)) else [pkt (pk1 (uA (i + 1)) i)]) = [pkt (pk1 (uA (i + 1)) i)] := if_neg h64
        rw [el]
        have sl1 : (strsV [pkt (pk1 (uA (i + 1)) i)]).length = 1 := rfl
        simp only [eql_int, if_true, Int.natCast_zero, bne_self_eq_false, guard_ff, lenL_lst, sl1, show (((1 : Nat) : Int) != 0) = true from rfl, guardT_b, guard_tt, bin_geq, show ¬ ((64 : Int) ≤ (i : Int)) from by omega, decide_false]
        unfold g8bz1eaa_12
        simp only [guard_ff, lenL_lst, sl1, eql_int, if_true, show (((1 : Nat) : Int) != 1) = false from rfl, guardT_b, guard_ft, e4]
        exact ih (i + 1) ta1 tb st1 (by omega) (by omega) q2
    · have : i = n := by omega
      subst this
      simp only [bin_lss, Int.lt_irrefl, decide_false, cond_false]
      exact win_first i hn ia ib ta tb st h
theorem linkWindow_law (many : Int) (st : St) : ∃ st', s8 [.int .i64 many] st = some (.ret (.bool true), st') := by
  rw [s8_eq]
  unfold f8
  rw [show (V.int .i64 1).er1 = .int .i64 ((1 : Nat) : Int) from rfl]
  simp only [lnew_s 1 (by omega) (by omega), ret_ret, ext_0, ext_1, new_n]
  unfold g8b111
  simp only [eql_int, if_true, bne_self_eq_false, guard_ff, eql_ptr, cond_false]
  unfold g8b1111
  have hm := Nat.mod_lt (low 65536 many) (show 0 < 200 by omega)
  have er : ∀ K, A.bin .rem (.int .i64 (low 65536 many : Nat)) (.int .i64 200) K = K (.int .i64 ((low 65536 many % 200 : Nat) : Int)) := fun K => bin_remN _ 200 K (by omega)
  simp only [bin_and65535, er]
  have hT : Two ((st.new (.cells (lkC (newP 1) 1))).new (.cells (lkC (newP 1) 1))) st.n 1 (newP 1) (st.n + 1) 1 (newP 1) := by
    refine ⟨⟨by simp [new_ob], by simp; omega, .inl rfl⟩, ⟨by simp [new_ob], by simp, .inl rfl⟩, newP_ok (by omega) (by omega), newP_ok (by omega) (by omega), by omega, .inl (by omega)⟩
  exact win_puts (low 65536 many % 200) (by omega) st.n (st.n + 1) big 0 1 1 _ (by omega) (lt_big (by omega)) hT
theorem linkWindow_row {W : World} {v0 : Value} {x0 : V} {n0 : Nat}
    (r0 : Rs (E0 W) [x0] [v0]) (s0 : Sh Try.prog n0 3 x0.cells) (f0 : fit Try.prog 3 x0) :
    Calls Try.prog 8 #[v0] W fun e w' => e = .returned (.bool true) ∧ Below W.heap.size W w' := by
  obtain ⟨k, rfl, _⟩ := in_int s0 f0 Try.underlying3
  obtain ⟨st', hs⟩ := linkWindow_law k St0
  exact bool_row sim8 W _ _ _ hs r0
end Go.Ab

/- Two ends and what is under way. -/
namespace Go.Ab
open Go.Proofs Go.RowKit Go.Oct
set_option linter.unusedVariables false
set_option linter.unusedSimpArgs false
set_option maxRecDepth 100000
theorem take_out (l : Lk) (s : List UInt8) : (takeP l s).2.1.length ≤ 1 ∧ (takeP l s).2.2.1.length ≤ 1 ∧ ∀ x ∈ (takeP l s).2.2.1, x.length ≤ 1048584 := by
  have hp : ∀ n x, x ∈ [pkt n] → x.length ≤ 1048584 := fun n x hx => by rw [List.mem_singleton.1 hx]; exact pkt_len n
  unfold takeP
  split
  · simp
  · split
    · exact ⟨by simp, by simp, hp _⟩
    · split
      · split
        · exact ⟨by simp, by simp, hp _⟩
        · exact ⟨by simp, by simp, hp _⟩
      · simp
def upd {α : Type} (f : Nat → α) (k : Nat) (v : α) : Nat → α := fun i => if i = k then v else f i
theorem upd_at {α : Type} (f : Nat → α) (k : Nat) (v : α) : upd f k v k = v := by simp [upd]
theorem upd_ne {α : Type} (f : Nat → α) {k i : Nat} (v : α) (h : i ≠ k) : upd f k v i = f i := by simp [upd, h]
structure Ln where
  E : Nat → Lk
  U : Nat → List (List UInt8)
  P : Nat → Nat
  C : Nat → Nat
def sendsP (x : Ln) (to : Nat) (l : List (List UInt8)) : Ln := if (x.U to).length < 300 then { x with U := upd x.U to (x.U to ++ l) } else x
def putsP (x : Ln) (k : Nat) : Ln := sendsP { x with E := upd x.E k (putP (x.E k) (payN 5 (x.P k))).1, P := upd x.P k (x.P k + 1) } (1 - k) (putP (x.E k) (payN 5 (x.P k))).2.1
def tookP (x : Ln) (k : Nat) (s : List UInt8) : Ln := { x with E := upd x.E k (takeP (x.E k) s).1, C := upd x.C k (x.C k + (takeP (x.E k) s).2.1.length) }
def takesP (x : Ln) (k : Nat) (s : List UInt8) : Ln := sendsP (tookP x k s) (1 - k) (takeP (x.E k) s).2.2.1
def lessP (x : Ln) (k i : Nat) : Ln := { x with U := upd x.U k ((x.U k).take i ++ (x.U k).drop (i + 1)) }
def comesP (x : Ln) (k : Nat) (at_ : Nat) (twice : Bool) : Ln :=
  if (x.U k).length = 0 then x
  else takesP (if twice then x else lessP x k (at_ % (x.U k).length)) k ((x.U k).getD (at_ % (x.U k).length) [])
def ticksP (x : Ln) (k : Nat) : Ln := sendsP x (1 - k) (tickP (x.E k))
def doesP (x : Ln) (n : Nat) : Ln :=
  if n / 2 % 4 = 0 then putsP x (n % 2)
  else if n / 2 % 4 = 1 then comesP x (n % 2) (n / 16 % 65536) false
  else if n / 2 % 4 = 2 then comesP x (n % 2) (n / 16 % 65536) true
  else if n / 8 % 2 = 1 ∧ 0 < (x.U (n % 2)).length then { x with U := upd x.U (n % 2) ((x.U (n % 2)).drop 1) }
  else ticksP x (n % 2)
/-! What holds at every time. -/
structure Bare (ep : Nat → Nat) (k : Nat) (x : Ln) (o : Lk) : Prop where
  e : o.epoch = ep (1 - k)
  oo : o.other = 0 ∨ o.other = ep k
  w1 : 1 ≤ o.want
  w : o.want ≤ x.C (1 - k) + 1
  ok : LkOK o
structure Full (ep : Nat → Nat) (k : Nat) (x : Ln) (o : Lk) (j m : Nat) : Prop where
  b : Bare ep k x o
  jl : j < o.q.length
  q : o.q.getD j [] = packB (payN 5 m)
  f : o.first + j = m + 1
  p : m < x.P (1 - k)
def Old (ep : Nat → Nat) (k : Nat) (x : Ln) (s : List UInt8) : Prop := (∃ o, Bare ep k x o ∧ s = pkt (pk2 o)) ∨ ∃ o j m, Full ep k x o j m ∧ s = pkt (pk1 o j)
structure Good (ep : Nat → Nat) (x : Ln) : Prop where
  ep1 : ∀ k, 1 ≤ ep k
  ep2 : ∀ k, ep k ≤ 16
  e : ∀ k, k < 2 → (x.E k).epoch = ep k
  o : ∀ k, k < 2 → ((x.E k).other = 0 ∧ x.C k = 0) ∨ (x.E k).other = ep (1 - k)
  w : ∀ k, k < 2 → (x.E k).want = x.C k + 1
  f1 : ∀ k, k < 2 → 1 ≤ (x.E k).first
  f2 : ∀ k, k < 2 → (x.E k).first ≤ x.C (1 - k) + 1
  q : ∀ k, k < 2 → (x.E k).q = (paysQ 5 (x.P k)).drop ((x.E k).first - 1)
  c : ∀ k, k < 2 → x.C k ≤ x.P (1 - k)
  p : ∀ k, k < 2 → x.P k ≤ 1000
  u : ∀ k, k < 2 → ∀ s ∈ x.U k, Old ep k x s
theorem two_sub {k : Nat} (h : k < 2) : 1 - (1 - k) = k ∧ 1 - k < 2 := by omega
theorem Good.qlen {ep : Nat → Nat} {x : Ln} (h : Good ep x) {k : Nat} (hk : k < 2) : (x.E k).q.length + (x.E k).first = x.P k + 1 := by
  have h1 := h.f1 k hk
  have h2 := h.f2 k hk
  have h3 := h.c (1 - k) (two_sub hk).2
  rw [(two_sub hk).1] at h3
  have := paysQ_len 5 (x.P k)
  rw [h.q k hk, List.length_drop, this]
  omega
theorem Good.ok {ep : Nat → Nat} {x : Ln} (h : Good ep x) {k : Nat} (hk : k < 2) : LkOK (x.E k) := by
  have h1 := h.qlen hk
  have h2 := h.p k hk
  have h3 := h.p (1 - k) (two_sub hk).2
  have h4 := h.w k hk
  have h5 := h.c k hk
  have h6 := h.ep1 k
  have h7 := h.ep2 k
  have h8 := h.ep2 (1 - k)
  have h9 := h.f1 k hk
  have ho := h.o k hk
  refine ⟨by rw [h.e k hk]; exact h6, by rw [h.e k hk]; omega, ?_, by omega, by omega, by omega⟩
  rcases ho with g | g
  · rw [g.1]; omega
  · rw [g]; omega
theorem Bare.mono {ep : Nat → Nat} {k : Nat} {x y : Ln} {o : Lk} (h : Bare ep k x o) (hc : x.C (1 - k) ≤ y.C (1 - k)) : Bare ep k y o := ⟨h.e, h.oo, h.w1, by have := h.w; omega, h.ok⟩
theorem Full.mono {ep : Nat → Nat} {k : Nat} {x y : Ln} {o : Lk} {j m : Nat} (h : Full ep k x o j m) (hc : x.C (1 - k) ≤ y.C (1 - k)) (hp : x.P (1 - k) ≤ y.P (1 - k)) : Full ep k y o j m := ⟨h.b.mono hc, h.jl, h.q, h.f, by have := h.p; omega⟩
theorem Old.mono {ep : Nat → Nat} {k : Nat} {x y : Ln} {s : List UInt8} (h : Old ep k x s) (hc : x.C (1 - k) ≤ y.C (1 - k)) (hp : x.P (1 - k) ≤ y.P (1 - k)) : Old ep k y s := by
  rcases h with ⟨o, h, e⟩ | ⟨o, j, m, h, e⟩
  · exact .inl ⟨o, h.mono hc, e⟩
  · exact .inr ⟨o, j, m, h.mono hc hp, e⟩
/-- What an end tells now. -/
theorem Good.bare {ep : Nat → Nat} {x : Ln} (h : Good ep x) {k : Nat} (hk : k < 2) : Bare ep (1 - k) x (x.E k) := by
  obtain ⟨a, b⟩ := two_sub hk
  refine ⟨by rw [a]; exact h.e k hk, ?_, by rw [h.w k hk]; omega, by rw [a, h.w k hk]; omega, h.ok hk⟩
  rcases h.o k hk with g | g
  · exact .inl g.1
  · exact .inr g
theorem Good.full {ep : Nat → Nat} {x : Ln} (h : Good ep x) {k : Nat} (hk : k < 2) {j : Nat} (hj : j < (x.E k).q.length) : Full ep (1 - k) x (x.E k) j ((x.E k).first - 1 + j) := by
  obtain ⟨a, b⟩ := two_sub hk
  have h1 := h.qlen hk
  have h2 := h.f1 k hk
  refine ⟨h.bare hk, hj, ?_, by omega, by rw [a]; omega⟩
  rw [h.q k hk]
  exact paysQ_at 5 (x.P k) _ j (by omega)
theorem Good.tick {ep : Nat → Nat} {x : Ln} (h : Good ep x) {k : Nat} (hk : k < 2) : ∀ s ∈ tickP (x.E k), Old ep (1 - k) x s := by
  intro s hs
  unfold tickP at hs
  obtain ⟨j, hj, rfl⟩ := List.mem_map.1 hs
  have hj := List.mem_range.1 hj
  exact .inr ⟨_, _, _, h.full hk (by omega), rfl⟩
theorem Good.sends {ep : Nat → Nat} {x : Ln} (h : Good ep x) {to : Nat} (l : List (List UInt8)) (hl : ∀ s ∈ l, Old ep to x s) : Good ep (sendsP x to l) := by
  unfold sendsP
  split
  · refine ⟨h.ep1, h.ep2, h.e, h.o, h.w, h.f1, h.f2, h.q, h.c, h.p, fun k hk s hs => ?_⟩
    refine Old.mono (x := x) ?_ (Nat.le_refl _) (Nat.le_refl _)
    by_cases e : k = to
    · subst e
      simp only [upd_at] at hs
      rcases List.mem_append.1 hs with g | g
      · exact h.u k hk s g
      · exact hl s g
    · simp only [upd_ne _ _ e] at hs
      exact h.u k hk s hs
  · exact h
theorem Good.less {ep : Nat → Nat} {x : Ln} (h : Good ep x) {k : Nat} (l : List (List UInt8)) (hl : ∀ s ∈ l, s ∈ x.U k) : Good ep { x with U := upd x.U k l } := by
  refine ⟨h.ep1, h.ep2, h.e, h.o, h.w, h.f1, h.f2, h.q, h.c, h.p, fun k' hk s hs => ?_⟩
  refine Old.mono (x := x) ?_ (Nat.le_refl _) (Nat.le_refl _)
  by_cases e : k' = k
  · subst e
    simp only [upd_at] at hs
    exact h.u k' hk s (hl s hs)
  · simp only [upd_ne _ _ e] at hs
    exact h.u k' hk s hs
/-- An end, changed. -/
theorem Good.other {ep : Nat → Nat} {x : Ln} (h : Good ep x) {k : Nat} (hk : k < 2) (l : Lk) (c p : Nat) (he : l.epoch = ep k) (ho : (l.other = 0 ∧ c = 0) ∨ l.other = ep (1 - k)) (hw : l.want = c + 1) (hf1 : 1 ≤ l.first) (hf2 : l.first ≤ x.C (1 - k) + 1) (hq : l.q = (paysQ 5 p).drop (l.first - 1)) (hc1 : x.C k ≤ c) (hc2 : c ≤ x.P (1 - k)) (hp1 : x.P k ≤ p) (hp2 : p ≤ 1000) :
    Good ep { x with E := upd x.E k l, C := upd x.C k c, P := upd x.P k p } := by
  have hne : 1 - k ≠ k := by omega
  have cm : ∀ i, x.C i ≤ upd x.C k c i := fun i => by
    by_cases e : i = k
    · subst e; rw [upd_at]; exact hc1
    · rw [upd_ne _ _ e]; omega
  have pm : ∀ i, x.P i ≤ upd x.P k p i := fun i => by
    by_cases e : i = k
    · subst e; rw [upd_at]; exact hp1
    · rw [upd_ne _ _ e]; omega
  refine ⟨h.ep1, h.ep2, fun i hi => ?_, fun i hi => ?_, fun i hi => ?_, fun i hi => ?_, fun i hi => ?_, fun i hi => ?_, fun i hi => ?_, fun i hi => ?_, fun i hi s hs => (h.u i hi s hs).mono (cm _) (pm _)⟩
  all_goals dsimp only
  all_goals by_cases e : i = k
  all_goals first | (subst e; simp only [upd_at, upd_ne _ _ hne]) | simp only [upd_ne _ _ e]
  · exact he
  · exact h.e i hi
  · exact ho
  · exact h.o i hi
  · exact hw
  · exact h.w i hi
  · exact hf1
  · exact h.f1 i hi
  · exact hf2
  · exact Nat.le_trans (h.f2 i hi) (by have := cm (1 - i); omega)
  · exact hq
  · exact h.q i hi
  · exact hc2
  · exact Nat.le_trans (h.c i hi) (pm _)
  · exact hp2
  · exact h.p i hi
theorem upd_self {α : Type} (f : Nat → α) (k : Nat) : upd f k (f k) = f := by
  funext i; unfold upd; split
  · rename_i h; rw [h]
  · rfl
/-- What a packet under way does. -/
theorem Good.took {ep : Nat → Nat} {x : Ln} (h : Good ep x) {k : Nat} (hk : k < 2) {s : List UInt8} (hs : Old ep k x s) :
    ∃ l' ps ks, takeP (x.E k) s = (l', ps, ks, false) ∧ (ps = [] ∨ ps = [payN 5 (x.C k)]) ∧ (ks = [] ∨ ks = [pkt (pk2 l')]) ∧ Good ep (tookP x k s) := by
  have he := h.e k hk
  have ho := h.o k hk
  have hw := h.w k hk
  have hf1 := h.f1 k hk
  have hf2 := h.f2 k hk
  have hq := h.q k hk
  have hql := h.qlen hk
  have hc := h.c k hk
  have hp := h.p k hk
  have e1 := h.ep1 k
  have e1' := h.ep1 (1 - k)
  -- the end, once it knows
  have fresh : freshP (x.E k) (ep (1 - k)) = ⟨ep k, ep (1 - k), (x.E k).first, x.C k + 1, (x.E k).q⟩ := by
    unfold freshP
    rcases ho with ⟨a, b⟩ | a
    · rw [if_pos (by omega), if_neg (by omega), he, b]
    · rw [if_neg (by omega)]
      generalize x.E k = l at *
      obtain ⟨l1, l2, l3, l4, l5⟩ := l
      simp only at *
      subst he a hw; rfl
  have anew : (decide ((x.E k).other < ep (1 - k)) && decide (0 < (x.E k).other)) = false := by
    rcases ho with ⟨a, _⟩ | a
    · rw [a]; simp
    · rw [a]; simp
  have mx : max (x.E k).other 1 ≤ ep (1 - k) := by rcases ho with ⟨a, _⟩ | a <;> omega
  -- behind an acknowledgement
  have ack : ∀ w, w ≤ x.C (1 - k) + 1 → ∃ f, ackP (freshP (x.E k) (ep (1 - k))) w = ⟨ep k, ep (1 - k), f, x.C k + 1, (paysQ 5 (x.P k)).drop (f - 1)⟩ ∧ 1 ≤ f ∧ f ≤ x.C (1 - k) + 1 := by
    intro w hw'
    refine ⟨(x.E k).first + min (w - (x.E k).first) (x.E k).q.length, ?_, by omega, by omega⟩
    rw [fresh]
    unfold ackP
    simp only [Lk.mk.injEq, true_and]
    rw [hq, List.drop_drop, ← hq]
    congr 1
    omega
  -- what is so, is good
  have mk : ∀ (l' : Lk) (ps : List Note) (ks : List (List UInt8)) (f c : Nat), takeP (x.E k) s = (l', ps, ks, false) → l' = ⟨ep k, ep (1 - k), f, c + 1, (paysQ 5 (x.P k)).drop (f - 1)⟩ → 1 ≤ f → f ≤ x.C (1 - k) + 1 → c = x.C k + ps.length → c ≤ x.P (1 - k) → Good ep (tookP x k s) := by
    intro l' ps ks f c ht hl' a1 a2 a3 a4
    have := h.other hk l' c (x.P k) (by rw [hl']) (.inr (by rw [hl'])) (by rw [hl']) (by rw [hl']; exact a1) (by rw [hl']; exact a2) (by rw [hl']) (by omega) a4 (Nat.le_refl _) hp
    rw [upd_self] at this
    unfold tookP
    rw [ht]
    simp only
    rw [← a3]
    exact this
  have fr : ∃ f, freshP (x.E k) (ep (1 - k)) = ⟨ep k, ep (1 - k), f, x.C k + 1, (paysQ 5 (x.P k)).drop (f - 1)⟩ ∧ 1 ≤ f ∧ f ≤ x.C (1 - k) + 1 := ⟨(x.E k).first, by rw [fresh, ← hq], hf1, hf2⟩
  rcases hs with ⟨o, hb, rfl⟩ | ⟨o, j, m, hfu, rfl⟩
  · have ht := take_bare (l := x.E k) hb.ok (by rw [hb.e]; exact mx)
    rw [hb.e, he] at ht
    rw [anew] at ht
    by_cases hoo : o.other = ep k
    · rw [if_neg (by rw [hoo]; simp)] at ht
      obtain ⟨f, a1, a2, a3⟩ := ack o.want hb.w
      exact ⟨_, _, _, ht, .inl rfl, .inl rfl, mk _ _ _ f (x.C k) ht a1 a2 a3 rfl hc⟩
    · rw [if_pos hoo] at ht
      obtain ⟨f, a1, a2, a3⟩ := fr
      exact ⟨_, _, _, ht, .inl rfl, .inr rfl, mk _ _ _ f (x.C k) ht a1 a2 a3 rfl hc⟩
  · have hb := hfu.b
    have hpm : m ≤ 1000 := by have := hfu.p; have := h.p (1 - k) (two_sub hk).2; omega
    obtain ⟨p1, p2, p3, p4⟩ := pay_ok 5 m (by omega) (by omega) (by omega)
    have ht := take_full (l := x.E k) hb.ok hfu.jl hfu.q p2 p3 (by omega) (by rw [hb.e]; exact mx)
    rw [hb.e, he] at ht
    rw [anew] at ht
    by_cases hoo : o.other = ep k
    · rw [if_neg (by rw [hoo]; simp)] at ht
      obtain ⟨f, a1, a2, a3⟩ := ack o.want hb.w
      by_cases hsq : o.first + j = (freshP (x.E k) (ep (1 - k))).want
      · rw [if_pos hsq] at ht
        rw [fresh] at hsq
        have hmc : m = x.C k := by have := hfu.f; simp only at hsq; omega
        refine ⟨_, _, _, ht, .inr (by rw [hmc]), .inr rfl, mk _ _ _ f (x.C k + 1) ht (by rw [a1]; rfl) a2 a3 rfl ?_⟩
        have := hfu.p; omega
      · rw [if_neg hsq] at ht
        exact ⟨_, _, _, ht, .inl rfl, .inr rfl, mk _ _ _ f (x.C k) ht a1 a2 a3 rfl hc⟩
    · rw [if_pos hoo] at ht
      obtain ⟨f, a1, a2, a3⟩ := fr
      exact ⟨_, _, _, ht, .inl rfl, .inr rfl, mk _ _ _ f (x.C k) ht a1 a2 a3 rfl hc⟩
theorem Good.takes {ep : Nat → Nat} {x : Ln} (h : Good ep x) {k : Nat} (hk : k < 2) {s : List UInt8} (hs : Old ep k x s) : Good ep (takesP x k s) := by
  obtain ⟨l', ps, ks, a, b, c, d⟩ := h.took hk hs
  unfold takesP
  refine d.sends _ ?_
  rw [a]
  intro z hz
  rcases c with rfl | rfl
  · cases hz
  · rw [List.mem_singleton.1 hz]
    refine .inl ⟨_, ?_, rfl⟩
    have := d.bare hk
    have e : (tookP x k s).E k = l' := by unfold tookP; rw [a]; exact upd_at _ _ _
    rw [e] at this
    exact this
theorem Good.comes {ep : Nat → Nat} {x : Ln} (h : Good ep x) {k : Nat} (hk : k < 2) (at_ : Nat) (tw : Bool) : Good ep (comesP x k at_ tw) := by
  unfold comesP
  split
  · exact h
  · rename_i h0
    have hlt := Nat.mod_lt at_ (show 0 < (x.U k).length by omega)
    have hget : (x.U k).getD (at_ % (x.U k).length) [] = (x.U k)[at_ % (x.U k).length] := by rw [List.getD_eq_getElem?_getD, List.getElem?_eq_getElem hlt]; rfl
    have hold := h.u k hk _ (List.getElem_mem hlt)
    rw [hget]
    cases tw with
    | true => exact h.takes hk hold
    | false =>
      have g : Good ep (lessP x k (at_ % (x.U k).length)) := h.less _ (fun s hs => by
        rcases List.mem_append.1 hs with g | g
        · exact List.mem_of_mem_take g
        · exact List.mem_of_mem_drop g)
      exact g.takes hk (hold.mono (Nat.le_refl _) (Nat.le_refl _))
/-- One more is put. -/
theorem Good.puts {ep : Nat → Nat} {x : Ln} (h : Good ep x) {k : Nat} (hk : k < 2) (hp : x.P k < 1000) : putP (x.E k) (payN 5 (x.P k)) = (⟨(x.E k).epoch, (x.E k).other, (x.E k).first, (x.E k).want, (x.E k).q ++ [packB (payN 5 (x.P k))]⟩, (putP (x.E k) (payN 5 (x.P k))).2.1, 0) ∧ LkOK (putP (x.E k) (payN 5 (x.P k))).1 ∧ Good ep (putsP x k) := by
  have hql := h.qlen hk
  have hf1 := h.f1 k hk
  obtain ⟨p1, p2, p3, p4⟩ := pay_ok 5 (x.P k) (by omega) (by omega) (by omega)
  have hP := put_pay (l := x.E k) p2 (by omega) (by omega)
  have hq : (x.E k).q ++ [packB (payN 5 (x.P k))] = (paysQ 5 (x.P k + 1)).drop ((x.E k).first - 1) := by
    have := paysQ_len 5 (x.P k)
    have hq := h.q k hk
    rw [← paysQ_snoc, List.drop_append_of_le_length (by omega), ← hq]
  have g := h.other hk ⟨(x.E k).epoch, (x.E k).other, (x.E k).first, (x.E k).want, (x.E k).q ++ [packB (payN 5 (x.P k))]⟩ (x.C k) (x.P k + 1) (h.e k hk) (h.o k hk) (h.w k hk) hf1 (h.f2 k hk) hq (Nat.le_refl _) (h.c k hk) (by omega) (by omega)
  rw [upd_self] at g
  have e : upd x.E k (⟨(x.E k).epoch, (x.E k).other, (x.E k).first, (x.E k).want, (x.E k).q ++ [packB (payN 5 (x.P k))]⟩ : Lk) k = ⟨(x.E k).epoch, (x.E k).other, (x.E k).first, (x.E k).want, (x.E k).q ++ [packB (payN 5 (x.P k))]⟩ := upd_at _ _ _
  have okk := g.ok hk
  have hfull := g.full hk (j := (x.E k).q.length) (by show _ < (upd x.E k _ k).q.length; rw [e, List.length_append, List.length_singleton]; omega)
  dsimp only at okk hfull
  rw [e] at okk hfull
  refine ⟨by rw [hP], by rw [hP]; exact okk, ?_⟩
  unfold putsP
  rw [hP]
  refine g.sends _ ?_
  intro s hs
  simp only at hs
  split at hs
  · cases hs
  · rw [List.mem_singleton.1 hs]
    exact .inr ⟨_, _, _, hfull, rfl⟩
theorem Good.ticks {ep : Nat → Nat} {x : Ln} (h : Good ep x) {k : Nat} (hk : k < 2) : Good ep (ticksP x k) := h.sends _ (h.tick hk)
end Go.Ab

/- sinewlaw15's carry. -/
namespace Go.Ab
open Go.Proofs Go.RowKit Go.Oct
set_option linter.unusedVariables false
set_option linter.unusedSimpArgs false
set_option maxRecDepth 100000
/-- An end within bounds. -/
structure LkN (l : Lk) (X Y : Nat) : Prop where
  ok : LkOK l
  f : l.first + l.q.length ≤ X
  w : l.want ≤ Y
theorem one_nat_nums {s : List UInt8} (h : (rdN s).2 = true) : nth (oneN s) 0 ≤ 4611686018427387903 := by
  have hp := rd_pkt h
  have hl : 0 < (oneN s).nums.length := by rcases hp.kind with ⟨_, g⟩ | ⟨_, g⟩ <;> omega
  exact (hp.at hl).2
theorem take_n {l : Lk} {X Y : Nat} (h : LkN l X Y) (hX : X ≤ 1000000000000) (h1 : 1 ≤ X) (hy1 : 1 ≤ Y) (hY : Y + 1 ≤ 1000000000000) (s : List UInt8) : LkN (takeP l s).1 X (Y + 1) := by
  obtain ⟨⟨a1, a2, a3, a4, a5, a6⟩, b, c⟩ := h
  have base : LkN l X (Y + 1) := ⟨⟨a1, a2, a3, a4, a5, a6⟩, b, by omega⟩
  unfold takeP
  by_cases h0 : (rdN s).2 = false ∨ nth (oneN s) 0 < max l.other 1
  · rw [if_pos h0]; exact base
  · rw [if_neg h0]
    have hr : (rdN s).2 = true := by
      cases hq : (rdN s).2 with
      | true => rfl
      | false => exact absurd (.inl hq) h0
    have ho := one_nat_nums hr
    -- the end, known anew
    have fr : LkN (freshP l (nth (oneN s) 0)) X Y ∨ LkN (freshP l (nth (oneN s) 0)) X 1 := by
      unfold freshP
      split
      · split
        · exact .inr ⟨⟨a1, a2, ho, by show 1 ≤ _; omega, by show 1 ≤ _; omega, by simp⟩, by simp; omega, by show 1 ≤ 1; omega⟩
        · exact .inr ⟨⟨a1, a2, ho, a4, by show 1 ≤ _; omega, a6⟩, b, by show 1 ≤ 1; omega⟩
      · exact .inl ⟨⟨a1, a2, a3, a4, a5, a6⟩, b, c⟩
    have fr' : LkN (freshP l (nth (oneN s) 0)) X (Y + 1) ∧ (freshP l (nth (oneN s) 0)).want ≤ Y + 1 := by
      rcases fr with ⟨p, q, r⟩ | ⟨p, q, r⟩
      · exact ⟨⟨p, q, by omega⟩, by omega⟩
      · exact ⟨⟨p, q, by omega⟩, by omega⟩
    have ack : ∀ (m : Lk) (w Z : Nat), LkN m X Z → LkN (ackP m w) X Z := by
      intro m w Z ⟨⟨p1, p2, p3, p4, p5, p6⟩, q, r⟩
      unfold ackP
      have hm : min (w - m.first) m.q.length ≤ m.q.length := Nat.min_le_right _ _
      exact ⟨⟨p1, p2, p3, by show m.first + _ ≤ _; omega, p5, by show (m.q.drop _).length ≤ _; rw [List.length_drop]; omega⟩, by show m.first + _ + (m.q.drop _).length ≤ X; rw [List.length_drop]; omega, r⟩
    split
    · exact fr'.1
    · split
      · split
        · -- one more is wanted
          have nx : ∀ (m : Lk) (Z : Nat), LkN m X Z → Z + 1 ≤ 1000000000000 → LkN (nextP m) X (Z + 1) := by
            intro m Z ⟨⟨p1, p2, p3, p4, p5, p6⟩, q, r⟩ hz
            exact ⟨⟨p1, p2, p3, p4, by show m.want + 1 ≤ _; omega, p6⟩, q, by show m.want + 1 ≤ _; omega⟩
          rcases fr with g | g
          · exact nx _ _ (ack _ _ _ g) hY
          · exact nx _ _ (ack _ _ _ ⟨g.ok, g.f, by have := g.w; omega⟩) hY
        · exact ack _ _ _ fr'.1
      · exact ack _ _ _ fr'.1
/-- The answers come back. -/
def backP (f : Lk) (ks : List (List UInt8)) : Lk := ks.foldl (fun l p => (takeP l p).1) f
theorem back_n {X : Nat} (hX : X ≤ 1000000000000) (h1 : 1 ≤ X) : ∀ (ks : List (List UInt8)) (f : Lk) (Y : Nat), LkN f X Y → 1 ≤ Y → Y + ks.length ≤ 1000000000000 → LkN (backP f ks) X (Y + ks.length) := by
  intro ks
  induction ks with
  | nil => intro f Y h _ _; exact h
  | cons p ks ih =>
    intro f Y h hy hY
    simp only [List.length_cons] at hY
    have := ih (takeP f p).1 (Y + 1) (take_n h hX h1 hy (by omega) p) (by omega) (by omega)
    rw [List.length_cons, show Y + (ks.length + 1) = Y + 1 + ks.length by omega]
    exact this
/-- One packet, and what it brings. -/
def stepP (S : Lk × Lk × List Note × Bool) (s : List UInt8) : Lk × Lk × List Note × Bool :=
  (backP S.1 (takeP S.2.1 s).2.2.1, (takeP S.2.1 s).1, S.2.2.1 ++ (takeP S.2.1 s).2.1, S.2.2.2 || (takeP S.2.1 s).2.2.2)
def carryP (f t : Lk) : Lk × Lk × List Note × Bool := (tickP f).foldl stepP (f, t, [], false)
/-- Two objects are other; no old right is. -/
structure CFr (st st' : St) (i1 i2 : Nat) : Prop where
  n : st.n ≤ st'.n
  nt : st.nt ≤ st'.nt
  ob : ∀ i, i < st.n → i ≠ i1 → i ≠ i2 → st'.ob i = st.ob i
  tk : ∀ k, k < st.nt → st'.tk k = st.tk k
theorem CFr.refl (st : St) (i1 i2 : Nat) : CFr st st i1 i2 := ⟨Nat.le_refl _, Nat.le_refl _, fun _ _ _ _ => rfl, fun _ _ => rfl⟩
theorem CFr.take1 {a b c : St} {i1 i2 : Nat} (h : CFr a b i1 i2) (k : TFr b c i1) : CFr a c i1 i2 :=
  ⟨Nat.le_trans h.n k.n, by rw [k.nt]; exact h.nt, fun i hi h1 h2 => by rw [k.ob i (Nat.lt_of_lt_of_le hi h.n) h1]; exact h.ob i hi h1 h2, fun j hj => by rw [k.tk]; exact h.tk j hj⟩
theorem CFr.swap {a b : St} {i1 i2 : Nat} (h : CFr a b i1 i2) : CFr a b i2 i1 := ⟨h.n, h.nt, fun i hi h1 h2 => h.ob i hi h2 h1, h.tk⟩
theorem CFr.own {a b : St} {i1 i2 sz t : Nat} (h : CFr a b i1 i2) (ho : OwnN a sz t) : OwnN b sz t := by
  rcases ho with g | g | ⟨k, g1, g2, g3⟩
  · exact .inl g
  · exact .inr (.inl g)
  · exact .inr (.inr ⟨k, g1, Nat.lt_of_lt_of_le g2 h.nt, by rw [h.tk k g2]; exact g3⟩)
theorem own_tk {st0 b c : St} {sz t : Nat} (h : Own st0 b sz t) (hk : c.tk = b.tk) (hn : c.nt = b.nt) : Own st0 c sz t := by
  rcases h with h | h | ⟨j, h1, h2, h3, h4⟩
  · exact .inl h
  · exact .inr (.inl h)
  · exact .inr (.inr ⟨j, h1, h2, by rw [hn]; exact h3, by rw [hk]; exact h4⟩)
/-- The ends' rights last behind an append of other lists. -/
theorem Two.app {st st0 : St} {ia ta ib tb u : Nat} {a b : Lk} (h : Two st ia ta a ib tb b) (hu : Own st0 st 4 u) : Two (appSt st u 4) ia ta a ib tb b := by
  have own : ∀ {t : Nat}, OwnN st 1 t → OwnN (appSt st u 4) 1 t := fun {t} ho => by
    rcases ho with g | g | ⟨k, g1, g2, g3⟩
    · exact .inl g
    · exact .inr (.inl g)
    · refine .inr (.inr ⟨k, g1, by rw [appSt_nt]; omega, ?_⟩)
      rw [appSt_tk _ _ _ _ (by omega) (fun e => ?_)]
      · exact g3
      · rcases hu with q | q | ⟨j, q1, _, _, q4⟩
        · omega
        · omega
        · have : j = k := by omega
          rw [this, g3] at q4; cases q4
  exact ⟨⟨by rw [appSt_ob]; exact h.pa.ob, by rw [appSt_n]; exact h.pa.lt, own h.pa.own⟩, ⟨by rw [appSt_ob]; exact h.pb.ob, by rw [appSt_n]; exact h.pb.lt, own h.pb.own⟩, h.oa, h.ob, h.ne, h.tk⟩
theorem CFr.app {a b : St} {i1 i2 u sz : Nat} (h : CFr a b i1 i2) (hu : Own a b sz u) : CFr a (appSt b u sz) i1 i2 ∧ Own a (appSt b u sz) sz (b.nt + 3) := by
  have := h.nt
  refine ⟨⟨by rw [appSt_n]; exact h.n, by rw [appSt_nt]; omega, fun i hi h1 h2 => by rw [appSt_ob]; exact h.ob i hi h1 h2, fun j hj => ?_⟩, .inr (.inr ⟨b.nt, rfl, this, by rw [appSt_nt]; omega, appSt_new _ _ _⟩)⟩
  rw [appSt_tk _ _ _ _ (by omega) (by rcases hu with h | h | ⟨k, h1, h2, _, _⟩ <;> omega)]
  exact h.tk j hj
theorem back_loop {st0 : St} {X : Nat} (hX : X ≤ 1000000000000) (h1X : 1 ≤ X) (L : V → V → V → V → V → V → St → Res) (x6 x7 x8 x9 : V) (fi ti c u : Nat) (t : Lk) (ps : List Note) (ks : List (List UInt8)) (an : Bool) (hks : ∀ x ∈ ks, x.length ≤ 1048584) (hkl : ks.length ≤ 1) (hc0 : st0.n ≤ c) (hfi : fi < st0.n) (r : V) (hr : ∀ K, A.bin .add x9 (.int .i64 1) K = K r) :
    ∀ (n j Y tf tt : Nat) (f : Lk) (st : St), j ≤ ks.length → ks.length < n + j → 1 ≤ Y → Y + (ks.length - j) ≤ 1000000000000 → LkN f X Y → Two st fi tf f ti tt t → CFr st0 st fi ti → Own st0 st 4 u → c < st.n → st.ob c = some (.cells (cC ps 0 ks 0 an)) →
    ∃ st' tf', g29bz2qvy L n (.ptr fi 0) (.ptr ti 0) x6 x7 x8 x9 (.ptr c 0) (.int .i64 (j : Nat)) st = L (.ptr fi 0) (.ptr ti 0) x6 x7 x8 r st' ∧ Two st' fi tf' (backP f (ks.drop j)) ti tt t ∧ CFr st0 st' fi ti ∧ Own st0 st' 4 u := by
  intro n
  induction n with
  | zero => intro j Y tf tt f st hj hf; omega
  | succ n ih =>
    intro j Y tf tt f st hj hf hy hY hN h hfr hu hc hob
    unfold g29bz2qvy
    obtain ⟨c0, c1, c2⟩ := came_ld hob
    by_cases hlt : j < ks.length
    · have hN' := take_n hN hX h1X hy (by omega) ks[j]
      obtain ⟨st1, tf1, q1, q2, q3, q4⟩ := h.take ks[j] (by have := hks _ (List.getElem_mem hlt); omega) hN'.ok
      have e4 : ∀ K, A.bin .add (.int .i64 (j : Nat)) (.int .i64 1) K = K (.int .i64 ((j + 1 : Nat) : Int)) := fun K => bin_inc (by omega) K
      simp only [faddr_ptr, Nat.zero_add, c1, lenL_lst, strsV_len, bin_lss, show ((j : Int) < (ks.length : Int)) from by omega, decide_true, cond_true, iaddr_strs 0 hlt, load_l1', er1_ptr, er1_str, q1, ret_ret, e4]
      have ob' : st1.ob c = some (.cells (cC ps 0 ks 0 an)) := by rw [q3.ob c hc (by omega)]; exact hob
      obtain ⟨st', tf', r1, r2, r3, r4⟩ := ih (j + 1) (Y + 1) tf1 tt (takeP f ks[j]).1 st1 (by omega) (by omega) (by omega) (by omega) hN' q2 (hfr.take1 q3) (own_tk hu q3.tk q3.nt) (by have := q3.n; omega) ob'
      refine ⟨st', tf', r1, ?_, r3, r4⟩
      rw [List.drop_eq_getElem_cons hlt]
      exact r2
    · have : j = ks.length := by omega
      subst this
      simp only [faddr_ptr, Nat.zero_add, c1, lenL_lst, strsV_len, bin_lss, Int.lt_irrefl, decide_false, cond_false, hr]
      exact ⟨st, tf, rfl, by rw [List.drop_length]; exact h, hfr, hu⟩
theorem fold_out : ∀ (l : List (List UInt8)) (S : Lk × Lk × List Note × Bool), (l.foldl stepP S).2.2.1.length ≤ S.2.2.1.length + l.length := by
  intro l
  induction l with
  | nil => intro S; simp
  | cons p l ih =>
    intro S
    have h1 := ih (stepP S p)
    have h2 := (take_out S.2.1 p).1
    have h3 : (stepP S p).2.2.1 = S.2.2.1 ++ (takeP S.2.1 p).2.1 := rfl
    rw [h3, List.length_append] at h1
    rw [List.foldl_cons, List.length_cons]
    omega
theorem carry_loop {st0 : St} {X : Nat} (hX : X ≤ 1000000000000) (h1X : 1 ≤ X) (fi ti : Nat) (hfi : fi < st0.n) (hti : ti < st0.n) (l : List (List UInt8)) (hl : ∀ x ∈ l, x.length ≤ 1048584) (hll : l.length ≤ 64) :
    ∀ (n i Y u tf tt : Nat) (S : Lk × Lk × List Note × Bool) (st : St), i ≤ l.length → l.length < n + i → 1 ≤ Y → Y + (l.length - i) ≤ 1000000000000 → S.2.2.1.length ≤ i → LkN S.1 X Y → LkN S.2.1 X Y → Two st fi tf S.1 ti tt S.2.1 → CFr st0 st fi ti → Own st0 st 4 u →
    ∃ st' tf' tt' v, g29bz6y n (.ptr fi 0) (.ptr ti 0) (.lst (notesV S.2.2.1) u) (.bool S.2.2.2) (.lst (strsV l) 0) (.int .i64 (i : Nat)) st = some (.ret (.tup [.lst (notesV ((l.drop i).foldl stepP S).2.2.1) v, .bool ((l.drop i).foldl stepP S).2.2.2]), st') ∧ Two st' fi tf' ((l.drop i).foldl stepP S).1 ti tt' ((l.drop i).foldl stepP S).2.1 ∧ CFr st0 st' fi ti := by
  intro n
  induction n with
  | zero => intro i Y u tf tt S st hi hf; omega
  | succ n ih =>
    intro i Y u tf tt S st hi hf hy hY hS hN1 hN2 h hfr hu
    unfold g29bz6y
    by_cases hlt : i < l.length
    · obtain ⟨o1, o2, o3⟩ := take_out S.2.1 l[i]
      have hN' := take_n hN2 hX h1X hy (by omega) l[i]
      obtain ⟨st1, tt1, q1, q2, q3, q4⟩ := h.swap.take l[i] (by have := hl _ (List.getElem_mem hlt); omega) hN'.ok
      simp only [lenL_lst, strsV_len, bin_lss, show ((i : Int) < (l.length : Int)) from by omega, decide_true, cond_true, iaddr_strs 0 hlt, load_l1', er1_ptr, er1_str, q1, ret_ret, came_box]
      have kk : Two ((st1.new (.cells (cC [] 1 [] 1 false))).put st1.n (.cells (cC (takeP S.2.1 l[i]).2.1 0 (takeP S.2.1 l[i]).2.2.1 0 (takeP S.2.1 l[i]).2.2.2))) ti tt1 (takeP S.2.1 l[i]).1 fi tf S.1 :=
        q2.kp (by simp) (fun j hj => by rw [put_ne _ _ (by omega), new_ne _ _ (by omega)]) rfl rfl
      have oc := put_at (st1.new (.cells (cC [] 1 [] 1 false))) st1.n (.cells (cC (takeP S.2.1 l[i]).2.1 0 (takeP S.2.1 l[i]).2.2.1 0 (takeP S.2.1 l[i]).2.2.2))
      have fr1 : CFr st0 ((st1.new (.cells (cC [] 1 [] 1 false))).put st1.n (.cells (cC (takeP S.2.1 l[i]).2.1 0 (takeP S.2.1 l[i]).2.2.1 0 (takeP S.2.1 l[i]).2.2.2))) fi ti := by
        have g := (hfr.swap.take1 q3).swap
        have := g.n
        exact ⟨by simp; omega, g.nt, fun j hj h1 h2 => by rw [put_ne _ _ (by omega), new_ne _ _ (by omega)]; exact g.ob j hj h1 h2, g.tk⟩
      have u1 : Own st0 ((st1.new (.cells (cC [] 1 [] 1 false))).put st1.n (.cells (cC (takeP S.2.1 l[i]).2.1 0 (takeP S.2.1 l[i]).2.2.1 0 (takeP S.2.1 l[i]).2.2.2))) 4 u := own_tk hu q3.tk q3.nt
      have hcl : st1.n < ((st1.new (.cells (cC [] 1 [] 1 false))).put st1.n (.cells (cC (takeP S.2.1 l[i]).2.1 0 (takeP S.2.1 l[i]).2.2.1 0 (takeP S.2.1 l[i]).2.2.2))).n := by simp
      have hc0 : st0.n ≤ st1.n := by have := hfr.n; have := q3.n; omega
      generalize (st1.new (.cells (cC [] 1 [] 1 false))).put st1.n (.cells (cC (takeP S.2.1 l[i]).2.1 0 (takeP S.2.1 l[i]).2.2.1 0 (takeP S.2.1 l[i]).2.2.2)) = st2 at kk oc fr1 u1 hcl
      generalize st1.n = c at oc hcl hc0
      obtain ⟨c0, c1, c2⟩ := came_ld oc
      -- anew, once it is told
      have hanew : g29bz66h (g29bz6y n) (.ptr fi 0) (.ptr ti 0) (.lst (notesV S.2.2.1) u) (.bool S.2.2.2) (.lst (strsV l) 0) (.int .i64 (i : Nat)) (.ptr c 0) st2 = g29bzccz (g29bz6y n) (.ptr fi 0) (.ptr ti 0) (.lst (notesV S.2.2.1) u) (.bool (S.2.2.2 || (takeP S.2.1 l[i]).2.2.2)) (.lst (strsV l) 0) (.int .i64 (i : Nat)) (.ptr c 0) st2 := by
        unfold g29bz66h
        cases S.2.2.2 with
        | true => simp only [guard_tf, Bool.true_or]
        | false => simp only [guard_ff, faddr_ptr, Nat.zero_add, c2, Bool.false_or]
      rw [hanew]
      unfold g29bzccz
      have el : elemsOf 5 4 (.lst (notesV (takeP S.2.1 l[i]).2.1) 0) st2 = some (notesV (takeP S.2.1 l[i]).2.1) := elemsOf_lst _ _ _ _ (szok_notes _)
      have ha : ∀ K, A.app 4 (.lst (notesV S.2.2.1) u) (some (notesV (takeP S.2.1 l[i]).2.1)) st2 K = K (.lst (notesV (S.2.2.1 ++ (takeP S.2.1 l[i]).2.1)) (st2.nt + 3)) (appSt st2 u 4) := fun K => by
        rw [app_own K u1 (by simp only [notesV_len]; omega) (szok_notes _)]
        rw [notesV_app]
      obtain ⟨fr2, u2⟩ := fr1.app u1
      have e4 : ∀ K, A.bin .add (.int .i64 (i : Nat)) (.int .i64 1) K = K (.int .i64 ((i + 1 : Nat) : Int)) := fun K => bin_inc (by omega) K
      simp only [faddr_ptr, Nat.zero_add, c0, el, ha]
      obtain ⟨st3, tf3, r1, r2, r3, r4⟩ := back_loop hX h1X (g29bz6y n) (.lst (notesV (S.2.2.1 ++ (takeP S.2.1 l[i]).2.1)) (st2.nt + 3)) (.bool (S.2.2.2 || (takeP S.2.1 l[i]).2.2.2)) (.lst (strsV l) 0) (.int .i64 (i : Nat)) fi ti c (st2.nt + 3) _ _ _ _ o3 o2 hc0 hfi (.int .i64 ((i + 1 : Nat) : Int)) e4 big 0 Y tf tt1 S.1 (appSt st2 u 4) (by omega) (lt_big (by omega)) hy (by omega) hN1 (kk.swap.app u1) fr2 u2 (by rw [appSt_n]; exact hcl) (by rw [appSt_ob]; exact oc)
      rw [Int.natCast_zero] at r1
      rw [r1]
      have hb := back_n hX h1X (takeP S.2.1 l[i]).2.2.1 S.1 Y hN1 hy (by omega)
      have hb' : LkN (stepP S l[i]).1 X (Y + 1) := ⟨hb.ok, hb.f, by have := hb.w; show (backP S.1 (takeP S.2.1 l[i]).2.2.1).want ≤ Y + 1; omega⟩
      obtain ⟨st', tf', tt', v, z1, z2, z3⟩ := ih (i + 1) (Y + 1) (st2.nt + 3) tf3 tt1 (stepP S l[i]) st3 (by omega) (by omega) (by omega) (by omega) (by show (S.2.2.1 ++ _).length ≤ _; rw [List.length_append]; omega) hb' hN' r2 r3 r4
      rw [List.drop_eq_getElem_cons hlt, List.foldl_cons]
      exact ⟨st', tf', tt', v, z1, z2, z3⟩
    · have : i = l.length := by omega
      subst this
      simp only [lenL_lst, strsV_len, bin_lss, Int.lt_irrefl, decide_false, cond_false, List.drop_length, List.foldl_nil, er1_lst, er1_bool]
      exact ⟨st, tf, tt, u, rfl, h, hfr⟩
theorem carry_s {st : St} {fi tf ti tt X Y : Nat} {f t : Lk} (hX : X ≤ 1000000000000) (h1X : 1 ≤ X) (hy : 1 ≤ Y) (hY : Y + 64 ≤ 1000000000000) (hN1 : LkN f X Y) (hN2 : LkN t X Y) (h : Two st fi tf f ti tt t) :
    ∃ st' tf' tt' v, s29 [.ptr fi 0, .ptr ti 0] st = some (.ret (.tup [.lst (notesV (carryP f t).2.2.1) v, .bool (carryP f t).2.2.2]), st') ∧ Two st' fi tf' (carryP f t).1 ti tt' (carryP f t).2.1 ∧ CFr st st' fi ti := by
  rw [s29_eq]
  unfold f29
  have hl : (tickP f).length ≤ 64 := by unfold tickP; rw [List.length_map, List.length_range]; omega
  simp only [er1_ptr, ltick_s h.pa h.oa, ret_ret]
  obtain ⟨st', tf', tt', v, z1, z2, z3⟩ := carry_loop hX h1X fi ti h.pa.lt h.pb.lt (tickP f) (fun x hx => by
    unfold tickP at hx
    obtain ⟨k, _, rfl⟩ := List.mem_map.1 hx
    exact pkt_len _) hl big 0 Y 1 tf tt (f, t, [], false) st (by omega) (lt_big (by omega)) hy (by omega) (by simp) hN1 hN2 h (CFr.refl _ _ _) (Own.nil _ _ _)
  rw [Int.natCast_zero] at z1
  exact ⟨st', tf', tt', v, z1, z2, z3⟩
end Go.Ab
