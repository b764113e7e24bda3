import Derived.Test.YtnnjfbbflfbcaaaAbW03i
/- sinew/wire.of: the note of a body. -/
namespace Go.Ab
open Go.RowKit Go.Oct
set_option linter.unusedVariables false
set_option linter.unusedSimpArgs false

/-! ### plainly -/
def numO (most : Nat) (s : List UInt8) : Option (Nat × List UInt8) := if (numL s).2.2 = 0 ∧ (numL s).1 ≤ most then some ((numL s).1, s.drop (numL s).2.1) else none
def listO (s : List UInt8) : Option (List (List UInt8) × List UInt8) := if (listL s).2.2 = 0 then some ((listL s).1, s.drop (listL s).2.1) else none
def numsO : Nat → List UInt8 → Option (List Int × List UInt8)
  | 0, s => some ([], s)
  | k + 1, s => (numO 4611686018427387903 s).bind fun x => (numsO k x.2).bind fun y => some ((x.1 : Int) :: y.1, y.2)
def rowsO : Nat → List UInt8 → Option (List (List (List UInt8)) × List UInt8)
  | 0, s => some ([], s)
  | k + 1, s => (listO s).bind fun x => (rowsO k x.2).bind fun y => some (x.1 :: y.1, y.2)
def optO {α : Type} (b : Bool) (x : Option α) : Option α := if b then x else none
theorem goL_len (l : List UInt8) : ∀ (n a : Nat) (acc : List (List UInt8)), (goL l n a acc).1.length ≤ acc.length + n ∧ ((goL l n a acc).2.2 = 0 → a ≤ (goL l n a acc).2.1 ∧ (a ≤ l.length → (goL l n a acc).2.1 ≤ l.length))
  | 0, a, acc => by simp [goL]
  | n + 1, a, acc => by
    unfold goL
    split
    · rename_i h
      obtain ⟨h1, h2⟩ := goL_len l n (a + (strL (l.drop a)).2.1) (acc ++ [(strL (l.drop a)).1])
      have hu := strL_used h
      simp only [List.length_append, List.length_cons, List.length_nil, List.length_drop] at h1 hu
      exact ⟨by omega, fun g => ⟨by have := (h2 g).1; omega, fun ha => (h2 g).2 (by omega)⟩⟩
    · rename_i h
      exact ⟨by simp, fun g => absurd g h⟩
theorem listL_len (l : List UInt8) : (listL l).1.length ≤ 4096 ∧ ((listL l).2.2 = 0 → 1 ≤ (listL l).2.1 ∧ (listL l).2.1 ≤ l.length) := by
  unfold listL
  split
  · rename_i h
    have hu := numL_used h
    split
    · exact ⟨by simp, fun g => by simp at g⟩
    · rename_i h2
      obtain ⟨h3, h4⟩ := goL_len l (numL l).1 (numL l).2.1 []
      simp only [List.length_nil] at h3
      exact ⟨by omega, fun g => ⟨by have := (h4 g).1; omega, (h4 g).2 (by omega)⟩⟩
  · rename_i h
    exact ⟨by simp, fun g => absurd g h⟩
theorem err_nz {n : Nat} : (((n : Nat) : Int) != 0) = !decide (n = 0) := by
  by_cases h : n = 0
  · simp [h]
  · simp [h]
/-! ### the closures -/
structure OfSt (st0 st : St) (p q c : Nat) (s : List UInt8) (ok : Bool) (cs : List V) : Prop where
  ks : Ks st0 st
  hp : st0.n ≤ p
  hq : st0.n ≤ q
  hc : st0.n ≤ c
  pq : p ≠ q
  pc : p ≠ c
  qc : q ≠ c
  obp : st.ob p = some (.cells [.str s])
  obq : st.ob q = some (.cells cs)
  obc : st.ob c = some (.cells [.bool ok])
  len : s.length ≤ 4611686018427387903
theorem OfSt.put_p {st0 st : St} {p q c : Nat} {s : List UInt8} {ok : Bool} {cs : List V} (h : OfSt st0 st p q c s ok cs) (s' : List UInt8) (hl : s'.length ≤ 4611686018427387903) : OfSt st0 (st.put p (.cells [.str s'])) p q c s' ok cs :=
  ⟨h.ks.put h.hp _, h.hp, h.hq, h.hc, h.pq, h.pc, h.qc, put_at _ _ _, by rw [put_ne _ _ h.pq.symm]; exact h.obq, by rw [put_ne _ _ h.pc.symm]; exact h.obc, hl⟩
theorem OfSt.put_c {st0 st : St} {p q c : Nat} {s : List UInt8} {ok : Bool} {cs : List V} (h : OfSt st0 st p q c s ok cs) (ok' : Bool) : OfSt st0 (st.put c (.cells [.bool ok'])) p q c s ok' cs :=
  ⟨h.ks.put h.hc _, h.hp, h.hq, h.hc, h.pq, h.pc, h.qc, by rw [put_ne _ _ h.pc]; exact h.obp, by rw [put_ne _ _ h.qc]; exact h.obq, put_at _ _ _, h.len⟩
theorem OfSt.put_q {st0 st : St} {p q c : Nat} {s : List UInt8} {ok : Bool} {cs : List V} (h : OfSt st0 st p q c s ok cs) (cs' : List V) : OfSt st0 (st.put q (.cells cs')) p q c s ok cs' :=
  ⟨h.ks.put h.hq _, h.hp, h.hq, h.hc, h.pq, h.pc, h.qc, by rw [put_ne _ _ h.pq]; exact h.obp, put_at _ _ _, by rw [put_ne _ _ h.qc.symm]; exact h.obc, h.len⟩
theorem OfSt.app {st0 st : St} {p q c : Nat} {s : List UInt8} {ok : Bool} {cs : List V} (h : OfSt st0 st p q c s ok cs) {t : Nat} (ho : Own st0 st 1 t) : OfSt st0 (appSt st t 1) p q c s ok cs ∧ Own st0 (appSt st t 1) 1 (st.nt + 3) := by
  obtain ⟨k, o⟩ := ho.app h.ks
  exact ⟨⟨k, h.hp, h.hq, h.hc, h.pq, h.pc, h.qc, by rw [appSt_ob]; exact h.obp, by rw [appSt_ob]; exact h.obq, by rw [appSt_ob]; exact h.obc, h.len⟩, o⟩
theorem num_cl {st0 st : St} {p q c : Nat} {s : List UInt8} {ok : Bool} {cs : List V} (h : OfSt st0 st p q c s ok cs) (most : Nat) :
    ∃ (k : Nat) (st' : St) (s' : List UInt8) (ok' : Bool), s35 [.int .i64 (most : Nat), .ptr p 0, .ptr c 0] st = some (.ret (.int .i64 (k : Nat)), st') ∧ OfSt st0 st' p q c s' ok' cs ∧ optO ok (numO most s) = optO ok' (some (k, s')) ∧ k ≤ most ∧ (∀ t, Own st0 st 1 t → Own st0 st' 1 t) ∧ st'.nt = st.nt := by
  rw [s35_eq]
  unfold f35
  have lp : ∀ K, A.load false 1 (.ptr p 0) st K = K (.str s) st := fun K => by simp [h.obp]
  have lc : ∀ K, A.load false 1 (.ptr c 0) st K = K (.bool ok) st := fun K => by simp [h.obc]
  have sc : ∀ K, A.store 1 (.ptr c 0) (.bool false) st K = K (st.put c (.cells [.bool false])) := fun K => by simp [h.obc]
  have fail : optO ok (numO most s) = none → ∃ (k : Nat) (st' : St) (s' : List UInt8) (ok' : Bool), some (Out.ret (V.int .i64 0), st.put c (.cells [.bool false])) = some (.ret (.int .i64 (k : Nat)), st') ∧ OfSt st0 st' p q c s' ok' cs ∧ optO ok (numO most s) = optO ok' (some (k, s')) ∧ k ≤ most ∧ (∀ t, Own st0 st 1 t → Own st0 st' 1 t) ∧ st'.nt = st.nt :=
    fun hf => ⟨0, _, s, false, rfl, h.put_c false, by rw [hf]; rfl, Nat.zero_le _, fun t g => g, rfl⟩
  simp only [lp, er1_str, num_s s h.len, ret_ret, N3, ext_0, ext_1, ext_2, lc, un_not, eql_int, if_true, err_nz, bin_gtr, sc, er1_int]
  cases ok with
  | false => simp only [Bool.not_false, guard_tf]; exact fail rfl
  | true =>
    simp only [Bool.not_true, guard_ff]
    by_cases h0 : (numL s).2.2 = 0
    · simp only [h0, decide_true, Bool.not_true, guard_ff]
      have hu := numL_used h0
      by_cases h1 : (numL s).1 ≤ most
      · simp only [show ¬ ((most : Int) < ((numL s).1 : Int)) from by omega, decide_false, cond_false]
        unfold g35b111
        have e2 : ∀ K, A.store 1 (.ptr p 0) (.str (s.drop (numL s).2.1)) st K = K (st.put p (.cells [.str (s.drop (numL s).2.1)])) := fun K => by simp [h.obp]
        simp only [lp, sliceS_from hu.2.2, e2, er1_int]
        exact ⟨(numL s).1, _, s.drop (numL s).2.1, true, rfl, h.put_p _ (by have := h.len; simp; omega), by simp [optO, numO, h0, h1], h1, fun t g => g, rfl⟩
      · simp only [show ((most : Int) < ((numL s).1 : Int)) from by omega, decide_true, cond_true]
        exact fail (by simp [optO, numO, h1])
    · simp only [h0, decide_false, Bool.not_false, guard_tf]
      exact fail (by simp [optO, numO, h0])
theorem list_cl {st0 st : St} {p q c : Nat} {s : List UInt8} {ok : Bool} {cs : List V} (h : OfSt st0 st p q c s ok cs) :
    ∃ (l : List (List UInt8)) (t : Nat) (st' : St) (s' : List UInt8) (ok' : Bool), s37 [.ptr p 0, .ptr c 0] st = some (.ret (.lst (strsV l) t), st') ∧ OfSt st0 st' p q c s' ok' cs ∧ optO ok (listO s) = optO ok' (some (l, s')) ∧ l.length ≤ 4096 ∧ (∀ t, Own st0 st 1 t → Own st0 st' 1 t) ∧ st'.nt = st.nt := by
  rw [s37_eq]
  unfold f37
  have lp : ∀ K, A.load false 1 (.ptr p 0) st K = K (.str s) st := fun K => by simp [h.obp]
  have lc : ∀ K, A.load false 1 (.ptr c 0) st K = K (.bool ok) st := fun K => by simp [h.obc]
  have sc : ∀ K, A.store 1 (.ptr c 0) (.bool false) st K = K (st.put c (.cells [.bool false])) := fun K => by simp [h.obc]
  have fail : optO ok (listO s) = none → ∃ (l : List (List UInt8)) (t : Nat) (st' : St) (s' : List UInt8) (ok' : Bool), some (Out.ret (V.lst [] 1), st.put c (.cells [.bool false])) = some (.ret (.lst (strsV l) t), st') ∧ OfSt st0 st' p q c s' ok' cs ∧ optO ok (listO s) = optO ok' (some (l, s')) ∧ l.length ≤ 4096 ∧ (∀ t, Own st0 st 1 t → Own st0 st' 1 t) ∧ st'.nt = st.nt :=
    fun hf => ⟨[], 1, _, s, false, rfl, h.put_c false, by rw [hf]; rfl, Nat.zero_le _, fun t g => g, rfl⟩
  simp only [lp, er1_str, list_s s h.len, ret_ret, L3, ext_0, ext_1, ext_2, lc, un_not, eql_int, if_true, err_nz, sc, er1_lst]
  cases ok with
  | false => simp only [Bool.not_false, guard_tf]; exact fail rfl
  | true =>
    simp only [Bool.not_true, guard_ff]
    obtain ⟨hl1, hl2⟩ := listL_len s
    by_cases h0 : (listL s).2.2 = 0
    · simp only [h0, decide_true, Bool.not_true, cond_false]
      have hu := hl2 h0
      unfold g37b111
      have e2 : ∀ K, A.store 1 (.ptr p 0) (.str (s.drop (listL s).2.1)) st K = K (st.put p (.cells [.str (s.drop (listL s).2.1)])) := fun K => by simp [h.obp]
      simp only [lp, sliceS_from hu.2, e2, er1_lst]
      exact ⟨(listL s).1, 0, _, s.drop (listL s).2.1, true, rfl, h.put_p _ (by have := h.len; simp; omega), by simp [optO, listO, h0], hl1, fun t g => g, rfl⟩
    · simp only [h0, decide_false, Bool.not_false, cond_true]
      exact fail (by simp [optO, listO, h0])
end Go.Ab
