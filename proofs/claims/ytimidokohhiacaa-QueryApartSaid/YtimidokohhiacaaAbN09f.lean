import Derived.Test.YtimidokohhiacaaAbP09k
import Derived.Test.YtimidokohhiacaaAbA09p
/- sinewlaw09: QueryBatch. -/
namespace Go.Ab
open Go.Proofs Go.RowKit
set_option linter.unusedVariables false
set_option linter.unusedSimpArgs false
set_option maxRecDepth 100000
theorem odd_part (b : UInt8) : oddB b = !partB b := all256 (P := fun b => oddB b = !partB b) (by decide +kernel) b
theorem any_odd (s : List UInt8) : s.any oddB = !s.all partB := by
  induction s with
  | nil => rfl
  | cons b s ih => rw [List.any_cons, List.all_cons, odd_part, ih]; cases partB b <;> simp
theorem word_s (s : List UInt8) (st : St) : s39 [.str s] st = some (.ret (.bool (isWord s)), st) := by
  rw [s39_eq]
  refine fg_of (v := .bool (isWord s)) (st' := st) ?_ (Ks.refl st) rfl
  unfold f39 isWord
  simp only [eql_str, if_true, lenS_str, bin_leq]
  cases h1 : (s != []) with
  | false => rw [guard_ft]; rfl
  | true =>
    rw [guard_tt]
    by_cases h2 : s.length ≤ 16
    · rw [decide_eq_true (show ((s.length : Int) ≤ 16) by omega), guard_tt]
      simp only [er1_str, er1_fn, s73_v, ret_ret, un_not, any_odd, Bool.not_not, er1_bool, h2, decide_true, Bool.true_and]
    · rw [decide_eq_false (show ¬ ((s.length : Int) ≤ 16) by omega), guard_ft, decide_eq_false h2]; rfl
theorem odd_ch (c : Chg) (st : St) : ∃ st', s38 [chV c] st = some (.ret (.bool (!okCh c)), st') ∧ Ks st st' := by
  rw [s38_eq]
  unfold f38
  have bx : ∀ K : V → St → Res, A.box (chV c) st K = K (.ptr st.n 0) (st.new (.cells (chC c))) := fun K => rfl
  rw [bx]
  have o := new_at st (.cells (chC c))
  have k : Ks st (st.new (.cells (chC c))) := (Ks.refl st).new _
  generalize st.new (.cells (chC c)) = s1 at o k ⊢
  have w1 : ∀ K : V → St → Res, A.load false 1 (.ptr st.n 1) s1 K = K (.str c.s) s1 := fun K => by rw [load_ob, o]; rfl
  have w2 : ∀ K : V → St → Res, A.load false 1 (.ptr st.n 2) s1 K = K (.str c.p) s1 := fun K => by rw [load_ob, o]; rfl
  have w3 : ∀ K : V → St → Res, A.load false 1 (.ptr st.n 3) s1 K = K (.str c.o) s1 := fun K => by rw [load_ob, o]; rfl
  unfold okCh
  simp only [faddr_ptr, Nat.zero_add, w1, er1_str, word_s, ret_ret, un_not]
  unfold g38b10_6
  cases h1 : isWord c.s with
  | false => rw [Bool.not_false, guard_tf]; unfold g38b10_13; rw [guard_tf]; exact ⟨s1, rfl, k⟩
  | true =>
    rw [Bool.not_true, guard_ff]
    simp only [faddr_ptr, Nat.zero_add, w2, er1_str, word_s, ret_ret, un_not]
    unfold g38b10_13
    cases h2 : isWord c.p with
    | false => rw [Bool.not_false, guard_tf]; exact ⟨s1, rfl, k⟩
    | true =>
      rw [Bool.not_true, guard_ff]
      simp only [faddr_ptr, Nat.zero_add, w3, er1_str, word_s, ret_ret, un_not, er1_bool, Bool.true_and]
      exact ⟨s1, rfl, k⟩
theorem idx_ch (cs : List Chg) (t : Nat) (hl : cs.length ≤ 1000000000) {st0 : St} : ∀ (n i : Nat) (st : St), i ≤ cs.length → cs.length < n + i → Ks st0 st →
    ∃ (r : Int) (st' : St), g74b1010 n (.lst (cs.map chV) t) (.fn 38 [] []) (.int .i64 (cs.length : Nat)) (.int .i64 (i : Nat)) st = some (.ret (.int .i64 r), st') ∧ decide (0 ≤ r) = !(cs.drop i).all okCh ∧ Ks st0 st' := by
  intro n
  induction n with
  | zero => intro i st hi hn; omega
  | succ n ih =>
    intro i st hi hn hk
    rw [g74b1010]
    simp only [bin_lss]
    by_cases hil : i < cs.length
    · have e4 : ∀ K, A.bin .add (.int .i64 (i : Nat)) (.int .i64 1) K = K (.int .i64 ((i + 1 : Nat) : Int)) := fun K => bin_inc (by omega) K
      have ld : ∀ (x : Chg) (s : St) K, A.load true 4 (.lptr (chC x)) s K = K (chV x) s := fun x s K => by rw [load_lptrA]; rfl
      have call : ∀ (v : V) (s : St) K, A.call g74T (.fn 38 [] []) [v] s K = A.ret (s38 [v.er1] s) K := fun v s K => rfl
      obtain ⟨s1, q1, k1⟩ := odd_ch cs[i] st
      simp only [show ((i : Int) < (cs.length : Int)) from by omega, decide_true, cond_true, iaddr_ch t hil, ld, call]
      rw [show (chV cs[i]).er1 = chV cs[i] from rfl, q1, ret_ret, List.drop_eq_getElem_cons hil, List.all_cons]
      cases h : okCh cs[i] with
      | false => exact ⟨i, s1, rfl, by rw [decide_eq_true (by omega)]; rfl, hk.trans k1⟩
      | true =>
        rw [Bool.not_true, cond_false, e4, Bool.true_and]
        exact ih (i + 1) s1 (by omega) (by omega) (hk.trans k1)
    · have : i = cs.length := by omega
      subst this
      simp only [Int.lt_irrefl, decide_false, cond_false, List.drop_length]
      exact ⟨-1, st, rfl, rfl, hk⟩
theorem anyodd_ch (cs : List Chg) (t : Nat) (hl : cs.length ≤ 1000000000) (st : St) : ∃ st', s40 [.lst (cs.map chV) t, .fn 38 [] []] st = some (.ret (.bool (!cs.all okCh)), st') ∧ Ks st st' := by
  rw [s40_eq]
  unfold f40
  have : ∃ (r : Int) (st' : St), s74 [.lst (cs.map chV) t, .fn 38 [] []] st = some (.ret (.int .i64 r), st') ∧ decide (0 ≤ r) = !cs.all okCh ∧ Ks st st' := by
    rw [s74_eq]
    unfold f74
    simp only [lenL_lst, List.length_map]
    obtain ⟨r, st', h1, h2, h3⟩ := idx_ch cs t hl (st0 := st) big 0 st (by omega) (lt_big (by omega)) (Ks.refl st)
    rw [show ((0 : Nat) : Int) = 0 from rfl] at h1
    rw [List.drop_zero] at h2
    exact ⟨r, st', h1, h2, h3⟩
  obtain ⟨r, st', h1, h2, h3⟩ := this
  simp only [er1_lst, er1_fn, h1, ret_ret, bin_geq, er1_bool, h2]
  exact ⟨st', rfl, h3⟩
def okB (cs : List Chg) : Bool := decide (0 < cs.length) && (decide (cs.length ≤ 64) && cs.all okCh)
end Go.Ab
