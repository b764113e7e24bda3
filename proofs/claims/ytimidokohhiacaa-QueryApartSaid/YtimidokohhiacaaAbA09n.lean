import Derived.Test.YtimidokohhiacaaAbA09m
/- sinewref09: Same, the whole. -/
namespace Go.Ab
open Go.Proofs Go.RowKit
set_option linter.unusedVariables false
set_option linter.unusedSimpArgs false
set_option maxRecDepth 100000
theorem samea_loop {c d : Nat} {st0 : St} {a b : Rq} (h : RqAt st0 c d a b) (hl : a.atoms.length = b.atoms.length) (hlen : a.atoms.length ≤ 1000000000) (hl2 : a.ch.length = b.ch.length) (hlen2 : a.ch.length ≤ 1000000000) (hp : ∀ x ∈ a.atoms, x.p.sz.2 ≤ 1000000 ∧ x.p.nd ≤ 1000000) :
    ∀ (n i : Nat) (st : St), i ≤ a.atoms.length → a.atoms.length < n + i → Ks st0 st → ∃ st', g15b111010 n (.ptr c 0) (.ptr d 0) (.int .i64 (i : Nat)) st = some (.ret (.bool (sameL sameAt (a.atoms.drop i) (b.atoms.drop i) && sameL sameC a.ch b.ch)), st') ∧ Ks st0 st' := by
  intro n
  induction n with
  | zero => intro i st hi hn; omega
  | succ n ih =>
    intro i st hi hn hk
    rw [g15b111010]
    have oc := (hk.ob c h.hc).trans h.oc
    have od := (hk.ob d h.hd).trans h.od
    obtain ⟨_, _, w1, _⟩ := rq_load oc
    obtain ⟨_, _, w2, _⟩ := rq_load od
    rw [faddr_ptr, faddr_ptr, w1, lenL_lst, List.length_map, bin_lss]
    by_cases hil : i < a.atoms.length
    · have hil2 : i < b.atoms.length := by omega
      have hcn : c < st.n := Nat.lt_of_lt_of_le h.hc hk.n
      have hdn : d < st.n := Nat.lt_of_lt_of_le h.hd hk.n
      rw [decide_eq_true (show ((i : Int) < (a.atoms.length : Int)) by omega), cond_true]
      rw [faddr_ptr, faddr_ptr, w1, iaddr_atp 0 hil, ld_at, faddr_ptr, faddr_ptr, w2, iaddr_atp 0 hil2, ld_at]
      obtain ⟨s4, e4, k4, p4, q4⟩ := copies a.atoms[i] b.atoms[i] hcn hdn oc od (g15b11101001001 (g15b111010 n) (.ptr c 0) (.ptr d 0) (.int .i64 (i : Nat)))
      have e4' := e4.trans (same_step (st := st) (hp a.atoms[i] (List.getElem_mem hil)) p4 q4 (g15b111010 n) (.ptr c 0) (.ptr d 0) i (by omega))
      rw [sameL_drop sameAt hil hil2]
      have k04 : Ks st0 s4 := hk.trans k4
      cases e1 : sameAt a.atoms[i] b.atoms[i] with
      | false =>
        rw [e1, if_neg Bool.false_ne_true] at e4'
        exact ⟨s4, e4', k04⟩
      | true =>
        rw [e1, if_pos rfl] at e4'
        obtain ⟨st', r1, r2⟩ := ih (i + 1) s4 (by omega) (by omega) k04
        exact ⟨st', e4'.trans r1, r2⟩
    · have : i = a.atoms.length := by omega
      subst this
      rw [decide_eq_false (Int.lt_irrefl _), cond_false]
      unfold g15b1111
      rw [List.drop_length, hl, List.drop_length]
      obtain ⟨st', r1, r2⟩ := samec_loop (st0 := st) ⟨Nat.lt_of_lt_of_le h.hc hk.n, Nat.lt_of_lt_of_le h.hd hk.n, oc, od⟩ hl2 hlen2 big 0 st (by omega) (lt_big (by omega)) (Ks.refl st)
      rw [List.drop_zero, List.drop_zero, show ((0 : Nat) : Int) = 0 from rfl] at r1
      rw [r1]
      exact ⟨st', rfl, hk.trans r2⟩
theorem samev_loop {c d : Nat} {st0 : St} {a b : Rq} (h : RqAt st0 c d a b) (hv : a.vars.length = b.vars.length) (hvlen : a.vars.length ≤ 1000000000) (hl : a.atoms.length = b.atoms.length) (hlen : a.atoms.length ≤ 1000000000) (hl2 : a.ch.length = b.ch.length) (hlen2 : a.ch.length ≤ 1000000000) (hp : ∀ x ∈ a.atoms, x.p.sz.2 ≤ 1000000 ∧ x.p.nd ≤ 1000000) :
    ∀ (n i : Nat), i ≤ a.vars.length → a.vars.length < n + i → ∃ st', g15b11010 n (.ptr c 0) (.ptr d 0) (.int .i64 (i : Nat)) st0 = some (.ret (.bool (sameL (fun x y : List UInt8 => x == y) (a.vars.drop i) (b.vars.drop i) && (sameL sameAt a.atoms b.atoms && sameL sameC a.ch b.ch))), st') ∧ Ks st0 st' := by
  intro n
  induction n with
  | zero => intro i hi hn; omega
  | succ n ih =>
    intro i hi hn
    rw [g15b11010]
    obtain ⟨_, w1, _, _⟩ := rq_load h.oc
    obtain ⟨_, w2, _, _⟩ := rq_load h.od
    simp only [faddr_ptr, Nat.zero_add, w1, lenL_lst, strsV_len, bin_lss]
    by_cases hil : i < a.vars.length
    · have hil2 : i < b.vars.length := by omega
      have e4 : ∀ K, A.bin .add (.int .i64 (i : Nat)) (.int .i64 1) K = K (.int .i64 ((i + 1 : Nat) : Int)) := fun K => bin_inc (by omega) K
      simp only [show ((i : Int) < (a.vars.length : Int)) from by omega, decide_true, cond_true, w2, iaddr_strs 0 hil, iaddr_strs 0 hil2, load_l1', eql_str, if_true]
      rw [sameL_drop _ hil hil2]
      cases e1 : (a.vars[i] == b.vars[i]) with
      | false =>
        rw [show (a.vars[i] != b.vars[i]) = true from by unfold bne; rw [e1]; rfl]
        exact ⟨st0, rfl, Ks.refl st0⟩
      | true =>
        rw [show (a.vars[i] != b.vars[i]) = false from by unfold bne; rw [e1]; rfl, cond_false, e4, Bool.true_and]
        exact ih (i + 1) (by omega) (by omega)
    · have : i = a.vars.length := by omega
      subst this
      simp only [Int.lt_irrefl, decide_false, cond_false]
      unfold g15b111
      rw [List.drop_length, hv, List.drop_length]
      obtain ⟨st', r1, r2⟩ := samea_loop h hl hlen hl2 hlen2 hp big 0 st0 (by omega) (lt_big (by omega)) (Ks.refl st0)
      rw [List.drop_zero, List.drop_zero, show ((0 : Nat) : Int) = 0 from rfl] at r1
      rw [r1]
      exact ⟨st', rfl, r2⟩
/-- Small enough to be gone through. -/
def okS (a : Rq) : Prop := a.vars.length ≤ 1000000000 ∧ a.atoms.length ≤ 1000000000 ∧ a.ch.length ≤ 1000000000 ∧ ∀ x ∈ a.atoms, x.p.sz.2 ≤ 1000000 ∧ x.p.nd ≤ 1000000
theorem same_s {a b : Rq} (ha : okS a) (st : St) : s15 [rqV a, rqV b] st = some (.ret (.bool (sameR a b)), st) := by
  obtain ⟨h1, h2, h3, h4⟩ := ha
  have main : ∃ st', f15 (rqV a) (rqV b) st = some (.ret (.bool (sameR a b)), st') ∧ Ks st st' := by
    unfold f15
    have bx : ∀ (r : Rq) (s : St) (K : V → St → Res), A.box (rqV r) s K = K (.ptr s.n 0) (s.new (.cells (rqC r))) := fun r s K => rfl
    rw [bx, bx]
    have k1 : Ks st ((st.new (.cells (rqC a))).new (.cells (rqC b))) := ((Ks.refl st).new _).new _
    have hat : RqAt ((st.new (.cells (rqC a))).new (.cells (rqC b))) st.n (st.n + 1) a b := ⟨by simp; omega, by simp, by rw [new_ne _ _ (by simp)]; exact new_at _ _, new_at (st.new (.cells (rqC a))) _⟩
    simp only [new_n]
    generalize (st.new (.cells (rqC a))).new (.cells (rqC b)) = s1 at k1 hat ⊢
    obtain ⟨w0, w1, w2, w3⟩ := rq_load hat.oc
    obtain ⟨x0, x1, x2, x3⟩ := rq_load hat.od
    have bad : sameR a b = false → ∃ st', some (Out.ret ((V.bool false).er1), s1) = some (.ret (.bool (sameR a b)), st') ∧ Ks st st' := fun hb => ⟨s1, by rw [hb]; rfl, k1⟩
    simp only [faddr_ptr, Nat.zero_add, w0, x0, eql_int, if_true]
    unfold g15b100_6
    by_cases c1 : a.kind = b.kind
    case neg =>
      rw [show (a.kind != b.kind) = true from bne_iff_ne.2 c1, guard_tf]
      unfold g15b100_17
      rw [guard_tf]
      unfold g15b100_28
      rw [guard_tf]
      exact bad (by unfold sameR; rw [beq_eq_false_iff_ne.2 c1]; rfl)
    rw [show (a.kind != b.kind) = false from by rw [c1]; exact bne_self_eq_false _, guard_ff]
    simp only [faddr_ptr, Nat.zero_add, w1, x1, lenL_lst, strsV_len, eql_int, if_true]
    unfold g15b100_17
    by_cases c2 : a.vars.length = b.vars.length
    case neg =>
      rw [show (((a.vars.length : Nat) : Int) != ((b.vars.length : Nat) : Int)) = true from bne_iff_ne.2 (by omega), guard_tf]
      unfold g15b100_28
      rw [guard_tf]
      exact bad (by unfold sameR; rw [sameL_len _ _ _ c2]; simp)
    rw [show (((a.vars.length : Nat) : Int) != ((b.vars.length : Nat) : Int)) = false from by rw [c2]; exact bne_self_eq_false _, guard_ff]
    simp only [faddr_ptr, Nat.zero_add, w2, x2, lenL_lst, List.length_map, eql_int, if_true]
    unfold g15b100_28
    by_cases c3 : a.atoms.length = b.atoms.length
    case neg =>
      rw [show (((a.atoms.length : Nat) : Int) != ((b.atoms.length : Nat) : Int)) = true from bne_iff_ne.2 (by omega), guard_tf]
      exact bad (by unfold sameR; rw [sameL_len _ _ _ c3]; simp)
    rw [show (((a.atoms.length : Nat) : Int) != ((b.atoms.length : Nat) : Int)) = false from by rw [c3]; exact bne_self_eq_false _, guard_ff]
    simp only [faddr_ptr, Nat.zero_add, w3, x3, lenL_lst, List.length_map, eql_int, if_true]
    by_cases c4 : a.ch.length = b.ch.length
    case neg =>
      rw [show (((a.ch.length : Nat) : Int) != ((b.ch.length : Nat) : Int)) = true from bne_iff_ne.2 (by omega), cond_true]
      exact bad (by unfold sameR; rw [sameL_len _ _ _ c4]; simp)
    rw [show (((a.ch.length : Nat) : Int) != ((b.ch.length : Nat) : Int)) = false from by rw [c4]; exact bne_self_eq_false _, cond_false]
    unfold g15b11
    obtain ⟨st', q1, q2⟩ := samev_loop hat c2 h1 c3 h2 c4 h3 h4 big 0 (by omega) (lt_big (by omega))
    rw [List.drop_zero, List.drop_zero] at q1
    refine ⟨st', ?_, k1.trans q2⟩
    rw [show ((0 : Nat) : Int) = 0 from rfl] at q1
    rw [q1]
    unfold sameR
    rw [show (a.kind == b.kind) = true from by rw [c1]; exact beq_self_eq_true _, Bool.true_and]
  obtain ⟨st', q1, q2⟩ := main
  rw [s15_eq]
  exact fg_of q1 q2 rfl
end Go.Ab
