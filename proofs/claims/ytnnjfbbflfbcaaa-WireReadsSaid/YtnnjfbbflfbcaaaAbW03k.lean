import Derived.Test.YtnnjfbbflfbcaaaAbW03j
/- sinew/wire.of, walked. -/
namespace Go.Ab
open Go.RowKit Go.Oct
set_option linter.unusedVariables false
set_option linter.unusedSimpArgs false

theorem opt_bind {α β : Type} {a b c : Bool} {x : Option α} {y : α} {f : α → Option β} {z : β} (h1 : optO a x = optO b (some y)) (h2 : optO b (f y) = optO c (some z)) : optO a (x.bind f) = optO c (some z) := by
  cases a with
  | false =>
    have : b = false := by cases b; rfl; simp [optO] at h1
    subst this
    exact h2
  | true =>
    have h1' : x = optO b (some y) := h1
    subst h1'
    cases b with
    | false => exact h2
    | true => exact h2
def nC (kind : Int) (nums : List Int) (t1 : Nat) (texts : List (List UInt8)) (t2 : Nat) (rows : List (List (List UInt8))) (t3 : Nat) : List V := [.int .i64 kind, .lst (intsV nums) t1, .lst (strsV texts) t2, .lst (rowsV rows) t3]
def F35 (p c : Nat) : V := .fn 35 [] [.ptr p 0, .ptr c 0]
def F37 (p c : Nat) : V := .fn 37 [] [.ptr p 0, .ptr c 0]
theorem call35 (p c : Nat) (x : Int) (st : St) (K : V → St → Res) : A.call g24T (F35 p c) [.int .i64 x] st K = A.ret (s35 [.int .i64 x, .ptr p 0, .ptr c 0] st) K := rfl
theorem call37 (p c : Nat) (st : St) (K : V → St → Res) : A.call g24T (F37 p c) [] st K = A.ret (s37 [.ptr p 0, .ptr c 0] st) K := rfl
theorem of_nums (k : Nat) (hk : k ≤ 64) (kind : Int) (p q c : Nat) (st0 : St) : ∀ (f i : Nat) (s : List UInt8) (ok : Bool) (nums : List Int) (t : Nat) (st : St), i ≤ k → k < f + i → nums.length = i → OfSt st0 st p q c s ok (nC kind nums t [] 1 [] 1) → Own st0 st 1 t →
    ∃ l t' st' s' ok', g24b11111010 f (.ptr p 0) (.ptr q 0) (.ptr c 0) (F35 p c) (F37 p c) (.int .i64 (k : Nat)) (.int .i64 (i : Nat)) st = g24b111111 (.ptr p 0) (.ptr q 0) (.ptr c 0) (F35 p c) (F37 p c) st' ∧
      OfSt st0 st' p q c s' ok' (nC kind (nums ++ l) t' [] 1 [] 1) ∧ optO ok (numsO (k - i) s) = optO ok' (some (l, s')) ∧ (nums ++ l).length ≤ 64 := by
  intro f
  induction f with
  | zero => intro i s ok nums t st hi hf; omega
  | succ f ih =>
    intro i s ok nums t st hi hf hn h ho
    unfold g24b11111010
    by_cases hlt : i < k
    · obtain ⟨d, hd⟩ : ∃ d, k - i = d + 1 := ⟨k - i - 1, by omega⟩
      have e4 : ∀ K, A.bin .add (.int .i64 (i : Nat)) (.int .i64 1) K = K (.int .i64 ((i + 1 : Nat) : Int)) := fun K => bin_inc (by omega) K
      obtain ⟨x, st1, s1, ok1, r1, r2, r3, r4, r5, r6⟩ := num_cl h 4611686018427387903
      have ld : A.load false 1 (.ptr q 1) st = fun K => K (.lst (intsV nums) t) st := by funext K; simp [h.obq, nC]
      have ldv1 : ldv false 1 (.ptr q 1) st1 = some (.lst (intsV nums) t) := by simp [ldv, r2.obq, nC, kid]
      have o1 := r5 t ho
      obtain ⟨a1, a2⟩ := r2.app o1
      have stq : ∀ (v : List V) (u : Nat) K, A.store 1 (.ptr q 1) (.lst v u) (appSt st1 t 1) K = K ((appSt st1 t 1).put q (.cells [.int .i64 kind, .lst v u, .lst (strsV []) 1, .lst (rowsV []) 1])) := fun v u K => by simp [a1.obq, nC]
      rw [show ((4611686018427387903 : Nat) : Int) = 4611686018427387903 from rfl] at r1
      simp only [bin_lss, show ((i : Int) < (k : Int)) from by omega, decide_true, cond_true, faddr_ptr, Nat.zero_add, ld, call35, r1, ret_ret, kid, noP_ret, ldv1, chk_same, bslice_int1, elemsOf_ints]
      rw [app_own _ o1 (by simp; omega) (szok_ints _)]
      simp only [kid, noP_ret, stq, e4]
      rw [← intsV_app]
      have h2 : OfSt st0 ((appSt st1 t 1).put q (.cells (nC kind (nums ++ [(x : Int)]) (st1.nt + 3) [] 1 [] 1))) p q c s1 ok1 (nC kind (nums ++ [(x : Int)]) (st1.nt + 3) [] 1 [] 1) := a1.put_q _
      obtain ⟨l, t', st', s', ok', q1, q2, q3, q4⟩ := ih (i + 1) s1 ok1 (nums ++ [(x : Int)]) (st1.nt + 3) _ (by omega) (by omega) (by simp [hn]) h2 a2
      refine ⟨(x : Int) :: l, t', st', s', ok', q1, by simpa using q2, ?_, by simpa using q4⟩
      rw [hd]
      rw [show k - (i + 1) = d by omega] at q3
      exact opt_bind r3 (opt_bind q3 rfl)
    · have : i = k := by omega
      subst this
      simp only [bin_lss, Int.lt_irrefl, decide_false, cond_false]
      exact ⟨[], t, st, s, ok, rfl, by simpa using h, by simp [numsO], by simp; omega⟩
/-- What stands behind the rows. -/
def preO (s : List UInt8) : Option (Note × List UInt8) :=
  (numO 255 s).bind fun a => (numO 64 a.2).bind fun b => (numsO b.1 b.2).bind fun d => (listO d.2).bind fun e => (numO 4096 e.2).bind fun f => (rowsO f.1 f.2).bind fun g => some (⟨a.1, d.1, e.1, g.1⟩, g.2)
def parseO (s : List UInt8) : Option Note := (preO s).bind fun x => if x.2 = [] ∧ fitsW x.1 = true then some x.1 else none
structure NoteSmall (n : Note) : Prop where
  nums : n.nums.length ≤ 64
  texts : n.texts.length ≤ 4096
  rows : n.rows.length ≤ 4096
  row : ∀ r ∈ n.rows, r.length ≤ 4096
theorem NoteSmall.ok {n : Note} (h : NoteSmall n) : NoteOK n := ⟨by have := h.nums; omega, by have := h.texts; omega, by have := h.rows; omega, fun r hr => by have := h.row r hr; omega⟩
theorem NoteSmall.sm {n : Note} (h : NoteSmall n) : NoteSM n := ⟨by have := h.nums; omega, by have := h.texts; omega, by have := h.rows; omega, fun r hr => by have := h.row r hr; omega⟩
@[simp] theorem bslice_strs1 (l : List (List UInt8)) (t : Nat) (K : V → Res) : A.bslice 1 (.lst [] 1) 1 [(0, .lst (strsV l) t)] K = K (.lst (rowsV [l]) 2) := by simp [A.bslice, setP, V.er, rowsV]
@[simp] theorem elemsOf_rows (xs : List (List (List UInt8))) (t : Nat) (st : St) : elemsOf 5 1 (.lst (rowsV xs) t) st = some (rowsV xs) := by simp [elemsOf]
theorem rowsV_app (a b : List (List (List UInt8))) : rowsV (a ++ b) = rowsV a ++ rowsV b := by simp [rowsV]
theorem of_rows (k : Nat) (hk : k ≤ 4096) (kind : Int) (nums : List Int) (t1 : Nat) (texts : List (List UInt8)) (t2 : Nat) (hn : nums.length ≤ 64) (ht : texts.length ≤ 4096) (p q c : Nat) (st0 : St) : ∀ (f i : Nat) (s : List UInt8) (ok : Bool) (rows : List (List (List UInt8))) (t : Nat) (st : St), i ≤ k → k < f + i → rows.length = i → (∀ r ∈ rows, r.length ≤ 4096) → OfSt st0 st p q c s ok (nC kind nums t1 texts t2 rows t) → Own st0 st 1 t →
    ∃ (l : List (List (List UInt8))) (v : V) (st' : St) (s' : List UInt8) (ok' : Bool), g24b1111111010 f (.ptr p 0) (.ptr q 0) (.ptr c 0) (F37 p c) (.int .i64 (k : Nat)) (.int .i64 (i : Nat)) st = some (.ret v, st') ∧ Ks st0 st' ∧
      optO ok (rowsO (k - i) s) = optO ok' (some (l, s')) ∧ NoteSmall ⟨kind, nums, texts, rows ++ l⟩ ∧ v.era = .tup [noteV ⟨kind, nums, texts, rows ++ l⟩, .bool (ok' && (decide (s' = []) && fitsW ⟨kind, nums, texts, rows ++ l⟩))] := by
  intro f
  induction f with
  | zero => intro i s ok rows t st hi hf; omega
  | succ f ih =>
    intro i s ok rows t st hi hf hrl hrow h ho
    unfold g24b1111111010
    by_cases hlt : i < k
    · obtain ⟨d, hd⟩ : ∃ d, k - i = d + 1 := ⟨k - i - 1, by omega⟩
      have e4 : ∀ K, A.bin .add (.int .i64 (i : Nat)) (.int .i64 1) K = K (.int .i64 ((i + 1 : Nat) : Int)) := fun K => bin_inc (by omega) K
      obtain ⟨x, u, st1, s1, ok1, r1, r2, r3, r4, r5, r6⟩ := list_cl h
      have ld : A.load false 1 (.ptr q 3) st = fun K => K (.lst (rowsV rows) t) st := by funext K; simp [h.obq, nC]
      have ldv1 : ldv false 1 (.ptr q 3) st1 = some (.lst (rowsV rows) t) := by simp [ldv, r2.obq, nC, kid]
      have o1 := r5 t ho
      obtain ⟨a1, a2⟩ := r2.app o1
      have stq : ∀ (v : List V) (u : Nat) K, A.store 1 (.ptr q 3) (.lst v u) (appSt st1 t 1) K = K ((appSt st1 t 1).put q (.cells [.int .i64 kind, .lst (intsV nums) t1, .lst (strsV texts) t2, .lst v u])) := fun v u K => by simp [a1.obq, nC]
      simp only [bin_lss, show ((i : Int) < (k : Int)) from by omega, decide_true, cond_true, faddr_ptr, Nat.zero_add, ld, call37, r1, ret_ret, kid, noP_ret, ldv1, chk_same, bslice_strs1, elemsOf_rows]
      rw [app_own _ o1 (by simp; omega) (szok_rows _)]
      simp only [kid, noP_ret, stq, e4]
      rw [← rowsV_app]
      have h2 : OfSt st0 ((appSt st1 t 1).put q (.cells (nC kind nums t1 texts t2 (rows ++ [x]) (st1.nt + 3)))) p q c s1 ok1 (nC kind nums t1 texts t2 (rows ++ [x]) (st1.nt + 3)) := a1.put_q _
      obtain ⟨l, v, st', s', ok', q1, q2, q3, q4, q5⟩ := ih (i + 1) s1 ok1 (rows ++ [x]) (st1.nt + 3) _ (by omega) (by omega) (by simp [hrl]) (by
        intro r hr
        rcases List.mem_append.1 hr with g | g
        · exact hrow r g
        · rw [List.mem_singleton.1 g]; exact r4) h2 a2
      refine ⟨x :: l, v, st', s', ok', q1, q2, ?_, by simpa using q4, by simpa using q5⟩
      rw [hd]
      rw [show k - (i + 1) = d by omega] at q3
      exact opt_bind r3 (opt_bind q3 rfl)
    · have hik : i = k := by omega
      subst hik
      have sm : NoteSmall ⟨kind, nums, texts, rows⟩ := ⟨hn, ht, by show rows.length ≤ 4096; omega, hrow⟩
      have ld : ∀ K, A.load true 4 (.ptr q 0) st K = K (.agg (nC kind nums t1 texts t2 rows t)) st := fun K => by simp [h.obq, nC]
      have lc : ∀ K, A.load false 1 (.ptr c 0) st K = K (.bool ok) st := fun K => by simp [h.obc]
      have lp : ∀ K, A.load false 1 (.ptr p 0) st K = K (.str s) st := fun K => by simp [h.obp]
      have er : (V.agg (nC kind nums t1 texts t2 rows t)).er1 = noteV ⟨kind, nums, texts, rows⟩ := rfl
      have sq : ∀ K, A.store 4 (.ptr q 0) (.agg (nC kind nums t1 texts t2 rows t)) st K = K (st.put q (.cells (nC kind nums t1 texts t2 rows t))) := fun K => by
        rw [store_agg, h.obq, obo_some]
        simp [nC, putL]
      have h2 : OfSt st0 (st.put q (.cells (nC kind nums t1 texts t2 rows t))) p q c s ok (nC kind nums t1 texts t2 rows t) := h.put_q _
      have sc : ∀ (b : Bool) K, A.store 1 (.ptr c 0) (.bool b) (st.put q (.cells (nC kind nums t1 texts t2 rows t))) K = K ((st.put q (.cells (nC kind nums t1 texts t2 rows t))).put c (.cells [.bool b])) := fun b K => by simp [h2.obc]
      have fin : ∀ b : Bool, ∃ v st', A.res (rcell (A.load true 4 (.ptr q 0) ((st.put q (.cells (nC kind nums t1 texts t2 rows t))).put c (.cells [.bool b])) kid) (rcell (A.load false 1 (.ptr c 0) ((st.put q (.cells (nC kind nums t1 texts t2 rows t))).put c (.cells [.bool b])) kid) (some []))) ((st.put q (.cells (nC kind nums t1 texts t2 rows t))).put c (.cells [.bool b])) = some (.ret v, st') ∧ Ks st0 st' ∧ v.era = .tup [noteV ⟨kind, nums, texts, rows⟩, .bool b] := fun b => by
        have h3 := h2.put_c b
        have l1 : A.load true 4 (.ptr q 0) ((st.put q (.cells (nC kind nums t1 texts t2 rows t))).put c (.cells [.bool b])) kid = some (.ret (.agg (nC kind nums t1 texts t2 rows t)), (st.put q (.cells (nC kind nums t1 texts t2 rows t))).put c (.cells [.bool b])) := by
          rw [load_obA, h3.obq, obo_some]; simp [nC, kid]
        have l2 : A.load false 1 (.ptr c 0) ((st.put q (.cells (nC kind nums t1 texts t2 rows t))).put c (.cells [.bool b])) kid = some (.ret (.bool b), (st.put q (.cells (nC kind nums t1 texts t2 rows t))).put c (.cells [.bool b])) := by
          rw [load_ob, h3.obc, obo_some]; simp [kid]
        rw [l1, l2, rcell_some, rcell_some, res_two]
        exact ⟨_, _, rfl, h3.ks, rfl⟩
      simp only [bin_lss, Int.lt_irrefl, decide_false, cond_false, ld, lc, sq, kid, noP_ret, sc]
      cases ok with
      | false =>
        obtain ⟨v, st', f1, f2, f3⟩ := fin false
        simp only [guard_ft]
        exact ⟨[], v, st', s, false, f1, f2, rfl, by simpa using sm, by simpa using f3⟩
      | true =>
        simp only [guard_tt, lp, eql_str, Bool.false_eq_true, if_false]
        by_cases hs : s = []
        · subst hs
          obtain ⟨v, st', f1, f2, f3⟩ := fin (fitsW ⟨kind, nums, texts, rows⟩)
          have ldv1 : ldv true 4 (.ptr q 0) st = some (.agg (nC kind nums t1 texts t2 rows t)) := by
            unfold ldv; rw [ld]; rfl
          simp only [beq_self_eq_true, guard_tt, er, fits_s _ sm.ok, ret_ret, kid, noP_ret, ldv1, chk_same, sq, sc]
          exact ⟨[], v, st', [], true, f1, f2, by simp [rowsO, optO], by simpa using sm, by simpa using f3⟩
        · have hb : (s == []) = false := by simp [hs]
          obtain ⟨v, st', f1, f2, f3⟩ := fin false
          simp only [hb, guard_ft]
          exact ⟨[], v, st', s, true, f1, f2, by simp [rowsO, optO], by simpa using sm, by simpa [hs] using f3⟩
end Go.Ab
