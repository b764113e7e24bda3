import Derived.Test.YtimidokohhiacaaAbN09f
/- sinewlaw09: QueryBatch, the reference and the law. -/
namespace Go.Ab
open Go.Proofs Go.RowKit
set_option linter.unusedVariables false
set_option linter.unusedSimpArgs false
set_option maxRecDepth 100000
theorem part_iff (b : UInt8) : partB b = true ↔ ((48 : Int) ≤ b.toNat ∧ (b.toNat : Int) ≤ 57) ∨ ((97 : Int) ≤ b.toNat ∧ (b.toNat : Int) ≤ 122) ∨ (b.toNat : Int) = 45 ∨ (b.toNat : Int) = 58 := by
  unfold partB partI
  simp only [Bool.or_eq_true, Bool.and_eq_true, decide_eq_true_eq, beq_iff_eq]
/-- The bytes of a word, as the reference asks for them. -/
theorem ris_29 (L : V → V → St → Res) (s : List UInt8) {i : Nat} (hi : i < s.length) (hl : s.length ≤ 1000000000) (st : St) (v : Bool) : g69bznc_29 L (.str s) (.int .i64 (i : Nat)) (.bool v) st = if v = true ∧ (s[i].toNat : Int) ≠ 58 then some (.ret (.bool false), st) else L (.str s) (.int .i64 ((i + 1 : Nat) : Int)) st := by
  have e4 : ∀ K, A.bin .add (.int .i64 (i : Nat)) (.int .i64 1) K = K (.int .i64 ((i + 1 : Nat) : Int)) := fun K => bin_inc (by omega) K
  unfold g69bznc_29
  cases v with
  | false => rw [guard_ft, e4, if_neg (by simp)]
  | true =>
    rw [guard_tt]
    simp only [idxS_at hi, eql_int, if_true]
    by_cases h : (s[i].toNat : Int) = 58
    · rw [show ((s[i].toNat : Int) != 58) = false from by rw [h]; rfl, cond_false, e4, if_neg (by simp [h])]
    · rw [show ((s[i].toNat : Int) != 58) = true from bne_iff_ne.2 h, cond_true, if_pos ⟨trivial, h⟩]; rfl
theorem ris_23 (L : V → V → St → Res) (s : List UInt8) {i : Nat} (hi : i < s.length) (hl : s.length ≤ 1000000000) (st : St) (v : Bool) : g69bznc_23 L (.str s) (.int .i64 (i : Nat)) (.bool v) st = if v = true ∧ (s[i].toNat : Int) ≠ 45 ∧ (s[i].toNat : Int) ≠ 58 then some (.ret (.bool false), st) else L (.str s) (.int .i64 ((i + 1 : Nat) : Int)) st := by
  unfold g69bznc_23
  cases v with
  | false => rw [guard_ft, ris_29 L s hi hl st false, if_neg (by simp), if_neg (by simp)]
  | true =>
    rw [guard_tt]
    simp only [idxS_at hi, eql_int, if_true]
    rw [ris_29 L s hi hl st _]
    by_cases h : (s[i].toNat : Int) = 45
    · rw [show ((s[i].toNat : Int) != 45) = false from by rw [h]; rfl, if_neg (by simp), if_neg (by simp [h])]
    · rw [show ((s[i].toNat : Int) != 45) = true from bne_iff_ne.2 h]
      by_cases h2 : (s[i].toNat : Int) = 58
      · rw [if_neg (by simp [h2]), if_neg (by simp [h2])]
      · rw [if_pos ⟨rfl, h2⟩, if_pos ⟨trivial, h, h2⟩]
theorem ris_11 (L : V → V → St → Res) (s : List UInt8) {i : Nat} (hi : i < s.length) (hl : s.length ≤ 1000000000) (st : St) (v : Bool) : g69bznc_11 L (.str s) (.int .i64 (i : Nat)) (.bool v) st = if v = true ∧ ((s[i].toNat : Int) < 48 ∨ 57 < (s[i].toNat : Int)) ∧ (s[i].toNat : Int) ≠ 45 ∧ (s[i].toNat : Int) ≠ 58 then some (.ret (.bool false), st) else L (.str s) (.int .i64 ((i + 1 : Nat) : Int)) st := by
  unfold g69bznc_11
  cases v with
  | false => rw [guard_ft, ris_23 L s hi hl st false, if_neg (by simp), if_neg (by simp)]
  | true =>
    rw [guard_tt]
    simp only [idxS_at hi, bin_lss, guardT_b, bin_gtr]
    by_cases h : (s[i].toNat : Int) < 48
    · rw [decide_eq_true h, guard_tf, ris_23 L s hi hl st true]
      by_cases h2 : (s[i].toNat : Int) ≠ 45 ∧ (s[i].toNat : Int) ≠ 58
      · rw [if_pos ⟨rfl, h2⟩, if_pos ⟨trivial, .inl h, h2⟩]
      · rw [if_neg (fun g => h2 g.2), if_neg (fun g => h2 g.2.2)]
    · rw [decide_eq_false h, guard_ff, ris_23 L s hi hl st _]
      by_cases h1 : 57 < (s[i].toNat : Int)
      · rw [decide_eq_true h1]
        by_cases h2 : (s[i].toNat : Int) ≠ 45 ∧ (s[i].toNat : Int) ≠ 58
        · rw [if_pos ⟨rfl, h2⟩, if_pos ⟨trivial, .inr h1, h2⟩]
        · rw [if_neg (fun g => h2 g.2), if_neg (fun g => h2 g.2.2)]
      · rw [decide_eq_false h1, if_neg (by simp), if_neg (by rintro ⟨_, g | g, _⟩; exact h g; exact h1 g)]
theorem ris_loop (s : List UInt8) (hl : s.length ≤ 1000000000) (st : St) : ∀ (n i : Nat), i ≤ s.length → s.length < n + i → g69b1010 n (.str s) (.int .i64 (i : Nat)) st = some (.ret (.bool ((s.drop i).all partB && (decide (1 ≤ s.length) && decide (s.length ≤ 16)))), st) := by
  intro n
  induction n with
  | zero => intro i hi hn; omega
  | succ n ih =>
    intro i hi hn
    rw [g69b1010]
    simp only [lenS_str, bin_lss]
    by_cases hil : i < s.length
    · rw [decide_eq_true (show ((i : Int) < (s.length : Int)) by omega), cond_true, List.drop_eq_getElem_cons hil, List.all_cons]
      have step : (A.idxS (.str s) (.int .i64 (i : Nat)) fun a3 => A.bin .lss a3 (.int .u8 97) fun a4 => A.guard a4 false (A.idxS (.str s) (.int .i64 (i : Nat)) fun a5 => A.bin .gtr a5 (.int .u8 122) fun a6 => g69bznc_11 (g69b1010 n) (.str s) (.int .i64 (i : Nat)) a6 st) (g69bznc_11 (g69b1010 n) (.str s) (.int .i64 (i : Nat)) (.bool true) st)) = if partB s[i] = true then (g69b1010 n) (.str s) (.int .i64 ((i + 1 : Nat) : Int)) st else some (.ret (.bool false), st) := by
        simp only [idxS_at hil, bin_lss, bin_gtr]
        have hp := part_iff s[i]
        by_cases h1 : (s[i].toNat : Int) < 97
        · rw [decide_eq_true h1, guard_tf, ris_11 _ s hil hl st true]
          by_cases h2 : partB s[i] = true
          · rw [if_pos h2, if_neg]
            rintro ⟨_, g1, g2, g3⟩
            have := hp.1 h2
            omega
          · rw [if_neg h2, if_pos]
            refine ⟨rfl, ?_, ?_, ?_⟩
            · rcases Int.lt_or_le (s[i].toNat : Int) 48 with g | g
              · exact .inl g
              · rcases Int.lt_or_le 57 (s[i].toNat : Int) with g' | g'
                · exact .inr g'
                · exact absurd (hp.2 (.inl ⟨g, g'⟩)) h2
            · exact fun g => h2 (hp.2 (.inr (.inr (.inl g))))
            · exact fun g => h2 (hp.2 (.inr (.inr (.inr g))))
        · rw [decide_eq_false h1, guard_ff, ris_11 _ s hil hl st _]
          by_cases h3 : 122 < (s[i].toNat : Int)
          · rw [decide_eq_true h3]
            have hnp : ¬ partB s[i] = true := fun g => by have := hp.1 g; omega
            rw [if_neg hnp, if_pos ⟨rfl, .inr (by omega), by omega, by omega⟩]
          · rw [decide_eq_false h3, if_neg (by simp), if_pos (hp.2 (.inr (.inl ⟨by omega, by omega⟩)))]
      rw [step]
      cases hp : partB s[i] with
      | true => rw [if_pos rfl, ih (i + 1) (by omega) (by omega), Bool.true_and]
      | false => rw [if_neg Bool.false_ne_true]; rfl
    · have : i = s.length := by omega
      subst this
      rw [decide_eq_false (Int.lt_irrefl _), cond_false, List.drop_length]
      simp only [lenS_str, bin_geq, bin_leq]
      by_cases h1 : 1 ≤ s.length
      · rw [decide_eq_true (show ((1 : Int) ≤ (s.length : Int)) by omega), guard_tt, decide_eq_true h1]
        by_cases h2 : s.length ≤ 16
        · rw [decide_eq_true (show ((s.length : Int) ≤ 16) by omega), decide_eq_true h2]; rfl
        · rw [decide_eq_false (show ¬ ((s.length : Int) ≤ 16) by omega), decide_eq_false h2]; rfl
      · rw [decide_eq_false (show ¬ ((1 : Int) ≤ (s.length : Int)) by omega), guard_ft, decide_eq_false h1]; rfl
theorem rword_s (s : List UInt8) (hl : s.length ≤ 1000000000) (st : St) : s69 [.str s] st = some (.ret (.bool (isWord s)), st) := by
  rw [s69_eq]
  refine fg_of (v := .bool (isWord s)) (st' := st) ?_ (Ks.refl st) rfl
  unfold f69
  have := ris_loop s hl st big 0 (by omega) (lt_big (by omega))
  rw [show ((0 : Nat) : Int) = 0 from rfl, List.drop_zero] at this
  rw [this]
  have e : (s.all partB && (decide (1 ≤ s.length) && decide (s.length ≤ 16))) = isWord s := by
    unfold isWord
    rw [Bool.eq_iff_iff]
    simp only [Bool.and_eq_true, decide_eq_true_eq, bne_iff_ne, ne_eq]
    constructor
    · rintro ⟨h1, h2, h3⟩; exact ⟨by rintro rfl; simp at h2, h3, h1⟩
    · rintro ⟨h1, h2, h3⟩; exact ⟨h3, List.length_pos_iff.2 h1, h2⟩
  rw [e]
/-! May, of changes -/
theorem mayc_loop {c d : Nat} {st0 : St} {cs : List Chg} (hc : c < st0.n) (oc : st0.ob c = some (.cells (rqC ⟨2, [], [], cs⟩))) (hd : d < st0.n) (od : st0.ob d = some (.cells [.lst [] 0, .lst [] 0])) (hlen : cs.length ≤ 1000000000) (hw : ∀ x ∈ cs, x.s.length ≤ 1000000000 ∧ x.p.length ≤ 1000000000 ∧ x.o.length ≤ 1000000000) :
    ∀ (n i : Nat) (st : St), i ≤ cs.length → cs.length < n + i → Ks st0 st → ∃ st', g35bzcy n (.ptr c 0) (.ptr d 0) (.int .i64 (i : Nat)) st = some (.ret (.bool ((cs.drop i).all okCh && (decide (0 < cs.length) && decide (cs.length ≤ 64)))), st') ∧ Ks st0 st' := by
  intro n
  induction n with
  | zero => intro i st hi hn; omega
  | succ n ih =>
    intro i st hi hn hk
    rw [g35bzcy]
    obtain ⟨_, _, _, w3⟩ := rq_load ((hk.ob c hc).trans oc)
    have od' := (hk.ob d hd).trans od
    simp only [faddr_ptr, Nat.zero_add, w3, lenL_lst, List.length_map, bin_lss]
    by_cases hil : i < cs.length
    · have e4 : ∀ K, A.bin .add (.int .i64 (i : Nat)) (.int .i64 1) K = K (.int .i64 ((i + 1 : Nat) : Int)) := fun K => bin_inc (by omega) K
      have fa : ∀ K : V → Res, A.faddr 1 (.lptr (chC cs[i])) K = K (.lptr [.str cs[i].s, .str cs[i].p, .str cs[i].o]) := fun K => rfl
      have la : ∀ K : V → St → Res, A.load true 3 (.lptr [.str cs[i].s, .str cs[i].p, .str cs[i].o]) st K = K (.agg [.str cs[i].s, .str cs[i].p, .str cs[i].o]) st := fun K => by rw [load_lptrA]; rfl
      have bx : ∀ K : V → St → Res, A.box (.agg [(.str []), (.str []), (.str [])]) st K = K (.ptr st.n 0) (st.new (.cells [.str [], .str [], .str []])) := fun K => rfl
      simp only [show ((i : Int) < (cs.length : Int)) from by omega, decide_true, cond_true, iaddr_ch 0 hil, fa, la, bx]
      rw [sv_all 3 _ (new_at _ _) rfl rfl rfl]
      have k2 : Ks st0 ((st.new (.cells [.str [], .str [], .str []])).put st.n (.cells [.str cs[i].s, .str cs[i].p, .str cs[i].o])) := (hk.new _).put hk.n _
      have o2 := put_at (st.new (.cells [.str [], .str [], .str []])) st.n (.cells [.str cs[i].s, .str cs[i].p, .str cs[i].o])
      generalize (st.new (.cells [.str [], .str [], .str []])).put st.n (.cells [.str cs[i].s, .str cs[i].p, .str cs[i].o]) = s2 at k2 o2 ⊢
      obtain ⟨z1, z2, z3⟩ := hw cs[i] (List.getElem_mem hil)
      have v1 : ∀ K : V → St → Res, A.load false 1 (.ptr st.n 0) s2 K = K (.str cs[i].s) s2 := fun K => by rw [load_ob, o2]; rfl
      have v2 : ∀ K : V → St → Res, A.load false 1 (.ptr st.n 1) s2 K = K (.str cs[i].p) s2 := fun K => by rw [load_ob, o2]; rfl
      have v3 : ∀ K : V → St → Res, A.load false 1 (.ptr st.n 2) s2 K = K (.str cs[i].o) s2 := fun K => by rw [load_ob, o2]; rfl
      rw [List.drop_eq_getElem_cons hil, List.all_cons]
      have hok : okCh cs[i] = (isWord cs[i].s && (isWord cs[i].p && isWord cs[i].o)) := rfl
      rw [hok]
      unfold g35bzbih
      simp only [faddr_ptr, Nat.zero_add, v1, er1_str, rword_s cs[i].s z1, ret_ret, un_not]
      cases h1 : isWord cs[i].s with
      | false =>
        rw [Bool.not_false, guard_tf]
        unfold g35bzn0y_11
        rw [guard_tf]
        exact ⟨s2, rfl, k2⟩
      | true =>
        rw [Bool.not_true, guard_ff]
        simp only [faddr_ptr, Nat.zero_add, v2, er1_str, rword_s cs[i].p z2, ret_ret, un_not]
        unfold g35bzn0y_11
        cases h2 : isWord cs[i].p with
        | false => rw [Bool.not_false, guard_tf]; exact ⟨s2, rfl, k2⟩
        | true =>
          rw [Bool.not_true, guard_ff]
          simp only [faddr_ptr, Nat.zero_add, v3, er1_str, rword_s cs[i].o z3, ret_ret, un_not]
          cases h3 : isWord cs[i].o with
          | false => exact ⟨s2, rfl, k2⟩
          | true =>
            rw [Bool.not_true, cond_false, e4]
            simp only [Bool.true_and]
            exact ih (i + 1) s2 (by omega) (by omega) k2
    · have : i = cs.length := by omega
      subst this
      simp only [Int.lt_irrefl, decide_false, cond_false, List.drop_length]
      unfold g35bz39
      have y0 : ∀ K : V → St → Res, A.load false 1 (.ptr d 0) st K = K (.lst [] 0) st := fun K => by rw [load_ob, od']; rfl
      have y1 : ∀ K : V → St → Res, A.load false 1 (.ptr d 1) st K = K (.lst [] 0) st := fun K => by rw [load_ob, od']; rfl
      simp only [faddr_ptr, Nat.zero_add, y0, y1, lenL_lst, List.length_nil]
      rw [bin_addN 0 0 _ (by omega)]
      simp only [eql_int, Bool.false_eq_true, if_false]
      rw [show (((0 + 0 : Nat) : Int) == 0) = true from rfl]
      unfold g35bz6i_9
      rw [guard_tt]
      simp only [faddr_ptr, Nat.zero_add, w3, lenL_lst, List.length_map, bin_geq]
      unfold g35bz6i_15
      refine ⟨st, ?_, hk⟩
      by_cases h1 : 0 < cs.length
      · rw [decide_eq_true (show ((1 : Int) ≤ (cs.length : Int)) by omega), guard_tt, decide_eq_true h1]
        simp only [faddr_ptr, Nat.zero_add, w3, lenL_lst, List.length_map, bin_leq]
        by_cases h2 : cs.length ≤ 64
        · rw [decide_eq_true (show ((cs.length : Int) ≤ 64) by omega), decide_eq_true h2]; rfl
        · rw [decide_eq_false (show ¬ ((cs.length : Int) ≤ 64) by omega), decide_eq_false h2]; rfl
      · rw [decide_eq_false (show ¬ ((1 : Int) ≤ (cs.length : Int)) by omega), guard_ft, decide_eq_false h1]; rfl
theorem may_b (cs : List Chg) (hl : cs.length ≤ 1000000000) (hw : ∀ x ∈ cs, x.s.length ≤ 1000000000 ∧ x.p.length ≤ 1000000000 ∧ x.o.length ≤ 1000000000) (st : St) : s35 [rqV ⟨2, [], [], cs⟩] st = some (.ret (.bool (okB cs)), st) := by
  rw [s35_eq]
  have main : ∃ st', f35 (rqV ⟨2, [], [], cs⟩) st = some (.ret (.bool (okB cs)), st') ∧ Ks st st' := by
    unfold f35
    have bx : ∀ K : V → St → Res, A.box (rqV ⟨2, [], [], cs⟩) st K = K (.ptr st.n 0) (st.new (.cells (rqC ⟨2, [], [], cs⟩))) := fun K => rfl
    rw [bx]
    have o1 := new_at st (.cells (rqC ⟨2, [], [], cs⟩))
    have k1 : Ks st (st.new (.cells (rqC ⟨2, [], [], cs⟩))) := (Ks.refl st).new _
    have n1 : (st.new (.cells (rqC ⟨2, [], [], cs⟩))).n = st.n + 1 := rfl
    generalize st.new (.cells (rqC ⟨2, [], [], cs⟩)) = s1 at o1 k1 n1 ⊢
    have ld2 : ∀ K : V → St → Res, A.load true 2 (.ptr st.n 1) s1 K = K (.agg [.lst [] 0, .lst [] 0]) s1 := fun K => by rw [load_obA, o1]; rfl
    have bx2 : ∀ K : V → St → Res, A.box (.agg [(.lst [] 1), (.lst [] 1)]) s1 K = K (.ptr s1.n 0) (s1.new (.cells [.lst [] 1, .lst [] 1])) := fun K => rfl
    rw [faddr_ptr, Nat.zero_add, ld2, bx2, sv_all 2 _ (new_at _ _) rfl rfl rfl]
    have k2 : Ks st ((s1.new (.cells [.lst [] 1, .lst [] 1])).put s1.n (.cells [.lst [] 0, .lst [] 0])) := (k1.new _).put (by omega) _
    have o2 := put_at (s1.new (.cells [.lst [] 1, .lst [] 1])) s1.n (.cells [.lst [] 0, .lst [] 0])
    have o12 : ((s1.new (.cells [.lst [] 1, .lst [] 1])).put s1.n (.cells [.lst [] 0, .lst [] 0])).ob st.n = some (.cells (rqC ⟨2, [], [], cs⟩)) := by rw [put_ne _ _ (by omega), new_ne _ _ (by omega)]; exact o1
    have n2 : ((s1.new (.cells [.lst [] 1, .lst [] 1])).put s1.n (.cells [.lst [] 0, .lst [] 0])).n = st.n + 2 := by simp; omega
    generalize (s1.new (.cells [.lst [] 1, .lst [] 1])).put s1.n (.cells [.lst [] 0, .lst [] 0]) = s2 at k2 o2 o12 n2 ⊢
    obtain ⟨w0, _, _, w3⟩ := rq_load o12
    simp only [faddr_ptr, Nat.zero_add, w0, eql_int, Bool.false_eq_true, if_false]
    rw [show ((2 : Int) == 2) = true from rfl, cond_true]
    obtain ⟨st', q1, q2⟩ := mayc_loop (st0 := s2) (by omega) o12 (show s1.n < s2.n by omega) o2 hl hw big 0 s2 (by omega) (lt_big (by omega)) (Ks.refl s2)
    rw [show ((0 : Nat) : Int) = 0 from rfl, List.drop_zero] at q1
    refine ⟨st', ?_, k2.trans q2⟩
    rw [q1]
    have e : (cs.all okCh && (decide (0 < cs.length) && decide (cs.length ≤ 64))) = okB cs := by
      unfold okB
      cases decide (0 < cs.length) <;> cases decide (cs.length ≤ 64) <;> cases cs.all okCh <;> rfl
    rw [e]
  obtain ⟨st', q1, q2⟩ := main
  exact fg_of q1 q2 rfl
theorem checked_b (cs : List Chg) (hl : cs.length ≤ 1000000000) (hw : ∀ x ∈ cs, x.s.length ≤ 1000000000 ∧ x.p.length ≤ 1000000000 ∧ x.o.length ≤ 1000000000) (st : St) : s23 [rqV ⟨2, [], [], cs⟩] st = some (.ret (.int .i64 (if okB cs = true then 0 else 1)), st) := by
  rw [s23_eq]
  have main : ∃ st', f23 (rqV ⟨2, [], [], cs⟩) st = some (.ret (.int .i64 (if okB cs = true then 0 else 1)), st') ∧ Ks st st' := by
    unfold f23
    have bx : ∀ K : V → St → Res, A.box (rqV ⟨2, [], [], cs⟩) st K = K (.ptr st.n 0) (st.new (.cells (rqC ⟨2, [], [], cs⟩))) := fun K => rfl
    rw [bx]
    have o1 := new_at st (.cells (rqC ⟨2, [], [], cs⟩))
    have k1 : Ks st (st.new (.cells (rqC ⟨2, [], [], cs⟩))) := (Ks.refl st).new _
    generalize st.new (.cells (rqC ⟨2, [], [], cs⟩)) = s1 at o1 k1 ⊢
    have ld : ∀ K : V → St → Res, A.load true 4 (.ptr st.n 0) s1 K = K (rqV ⟨2, [], [], cs⟩) s1 := fun K => by rw [load_obA, o1]; rfl
    rw [ld, show (rqV ⟨2, [], [], cs⟩).er1 = rqV ⟨2, [], [], cs⟩ from rfl, may_b cs hl hw, ret_ret, un_not]
    cases okB cs with
    | true => exact ⟨s1, rfl, k1⟩
    | false => exact ⟨s1, rfl, k1⟩
  obtain ⟨st', q1, q2⟩ := main
  exact fg_of q1 q2 rfl
end Go.Ab
