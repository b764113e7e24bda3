import Derived.Test.YtiegejeleanfbaaAbS13f
/- sinewlaw13: Route. -/
namespace Go.Ab
open Go.RowKit Go.Proofs Sh13
set_option linter.unusedVariables false
set_option linter.unusedSimpArgs false
abbrev pS (w : List UInt8) (k : Int) : Int := pt w Crc.sum k
theorem odd33_s {st : St} {q t : Nat} {sh : List Int} (h : st.ob q = some (.cells [.lst (intsV sh) t])) (x : Int) : s33 [.int .i64 x, .ptr q 0] st = some (.ret (.bool (!inB sh.length x)), st) := by
  rw [s33_eq]; unfold f33
  by_cases h0 : x < 0
  · have : inB sh.length x = false := by simp [inB]; omega
    simp [h0, this]
  · by_cases h1 : (sh.length : Int) ≤ x
    · have : inB sh.length x = false := by simp [inB]; omega
      simp [h0, h, h1, this]
    · have : inB sh.length x = true := by simp [inB]; omega
      simp [h0, h, h1, this]
section
variable {st0 st : St} {q : Nat} {sh fx : List Int}
/-- The innermost: the parts of one variable. -/
theorem route_k {L1 : V → V → V → V → V → St → Res} {L2 : V → V → V → V → V → V → V → V → V → V → St → Res} {v : Nat} {s f c : Int} (hs : 1 ≤ s ∧ s ≤ 64) (hc : 0 ≤ c ∧ c ≤ 64) (hv : v < fx.length) (hf : fx[v] = f) (hq : q < st0.n) (X1 X2 X3 Y1 Y2 : V) (i : Nat) (hi : i < 1000) :
    ∀ (n m : Nat) (k : Int) (next : List Int) (t : Nat) (st : St), 0 ≤ k → k + m = s → m < n → next.length + m ≤ 100000 → Ks st0 st → Own st0 st 1 t → st.ob q = some (.cells (intsV fx)) →
    ∃ st' t', g18b1111111010011001101001100110 L1 L2 n (.sl q 0 fx.length 1) (.int .i64 (v : Nat)) (.int .i64 s) (.lst (intsV next) t) (.int .i64 c) X1 X2 X3 Y1 Y2 (.int .i64 (i : Nat)) (.int .i64 s) (.int .i64 k) st =
      L2 (.sl q 0 fx.length 1) (.int .i64 (v : Nat)) (.int .i64 s) (.lst (intsV (next ++ inO f s c m k)) t') X1 X2 X3 Y1 Y2 (.int .i64 ((i + 1 : Nat) : Int)) st' ∧ Ks st0 st' ∧ Own st0 st' 1 t' ∧ st'.ob q = some (.cells (intsV fx)) := by
  intro n
  induction n with
  | zero => intro m k next t st _ _ hm; omega
  | succ n ih =>
    intro m k next t st hk0 hkm hmn hlen hk ho hqs
    unfold g18b1111111010011001101001100110
    have I := intsAt_sl hqs
    have ea : ∀ K, (A.iaddr 1 (.sl q 0 fx.length 1) (.int .i64 (v : Nat)) fun a => A.load false 1 a st K) = K (.int .i64 f) st := fun K => by rw [I.at_ v hv K, hf]
    cases m with
    | zero =>
      have : ¬ (k < s) := by omega
      refine ⟨st, t, ?_, hk, ho, hqs⟩
      simp only [bin_lss, this, decide_false, cond_false, bin_inc (show i < 9223372036854775807 by omega), inO, List.append_nil]
    | succ m =>
      have hks : k < s := by omega
      have hcs : 0 ≤ c * s := Int.mul_nonneg hc.1 (by omega)
      have hcs2 : c * s ≤ 64 * 64 := Int.mul_le_mul hc.2 hs.2 (by omega) (by omega)
      have goA : ∃ st' t', g18b11111110100110011010011001100110011 L1 L2 (g18b1111111010011001101001100110 L1 L2 n) (.sl q 0 fx.length 1) (.int .i64 (v : Nat)) (.int .i64 s) (.lst (intsV next) t) (.int .i64 c) (.int .i64 k) X1 X2 X3 Y1 Y2 (.int .i64 (i : Nat)) (.int .i64 s) (.int .i64 k) (.bool (keepB f k)) st =
          L2 (.sl q 0 fx.length 1) (.int .i64 (v : Nat)) (.int .i64 s) (.lst (intsV (next ++ inO f s c (m + 1) k)) t') X1 X2 X3 Y1 Y2 (.int .i64 ((i + 1 : Nat) : Int)) st' ∧ Ks st0 st' ∧ Own st0 st' 1 t' ∧ st'.ob q = some (.cells (intsV fx)) := by
        unfold g18b11111110100110011010011001100110011
        cases hb : keepB f k with
        | true =>
          have hk2 := ho.app hk
          obtain ⟨st', t', e, r⟩ := ih m (k + 1) (next ++ [c * s + k]) _ _ (by omega) (by omega) (by omega) (by simp; omega) hk2.1 hk2.2 (by rw [appSt_ob]; exact hqs)
          refine ⟨st', t', ?_, r⟩
          have e1 : ∀ K, A.app 1 (.lst (intsV next) t) (some (intsV [c * s + k])) st K = K (.lst (intsV (next ++ [c * s + k])) (st.nt + 3)) (appSt st t 1) := fun K => by
            rw [app_own K ho (by simp; omega) (by simp), intsV_app]
          simp only [cond_true, bin_mul _ (show -9223372036854775808 ≤ c * s by omega) (show c * s ≤ 9223372036854775807 by omega), bin_add _ (show -9223372036854775808 ≤ c * s + k by omega) (show c * s + k ≤ 9223372036854775807 by omega), bslice_int1, elemsOf_ints, e1, bin_add _ (show -9223372036854775808 ≤ k + 1 by omega) (show k + 1 ≤ 9223372036854775807 by omega)]
          rw [e]
          simp only [inO, hb, if_true, List.append_assoc]
        | false =>
          obtain ⟨st', t', e, r⟩ := ih m (k + 1) next t st (by omega) (by omega) (by omega) (by omega) hk ho hqs
          refine ⟨st', t', ?_, r⟩
          simp only [cond_false, bin_add _ (show -9223372036854775808 ≤ k + 1 by omega) (show k + 1 ≤ 9223372036854775807 by omega)]
          rw [e]
          simp only [inO, hb, Bool.false_eq_true, if_false, List.nil_append]
      obtain ⟨st', t', e, r⟩ := goA
      refine ⟨st', t', ?_, r⟩
      simp only [bin_lss, hks, decide_true, cond_true, ea]
      by_cases hneg : f < 0
      · have : keepB f k = true := by simp [keepB, hneg]
        rw [this] at e
        simp only [hneg, decide_true, guard_tf]; exact e
      · have : keepB f k = (f == k) := by simp [keepB, hneg]; rfl
        rw [this] at e
        simp only [hneg, decide_false, guard_ff, ea, eql_int, Bool.false_eq_true, if_false]; exact e
theorem route_c {L1 : V → V → V → V → V → St → Res} {v : Nat} {s f : Int} (hs : 1 ≤ s ∧ s ≤ 64) (hv : v < fx.length) (hf : fx[v] = f) (hv2 : v < 1000) (hq : q < st0.n) (X1 X2 : V) (out : List Int) (ho : out.length ≤ 64) (hor : ∀ c ∈ out, 0 ≤ c ∧ c ≤ 64) (t0 : Nat) :
    ∀ (n i : Nat) (next : List Int) (t : Nat) (st : St), i ≤ out.length → out.length < n + i → next.length ≤ i * 64 → Ks st0 st → Own st0 st 1 t → st.ob q = some (.cells (intsV fx)) →
    ∃ st' t', g18b11111110100110011010 L1 n (.sl q 0 fx.length 1) (.int .i64 (v : Nat)) (.int .i64 s) (.lst (intsV next) t) X1 X2 (.int .i64 (v : Nat)) (.lst (intsV out) t0) (.int .i64 (out.length : Nat)) (.int .i64 (i : Nat)) st =
      L1 (.sl q 0 fx.length 1) (.lst (intsV (next ++ stepO s f (out.drop i))) t') X1 X2 (.int .i64 ((v + 1 : Nat) : Int)) st' ∧ Ks st0 st' ∧ Own st0 st' 1 t' ∧ st'.ob q = some (.cells (intsV fx)) := by
  have hB := big_le
  intro n
  induction n with
  | zero => intro i next t st hi hn; omega
  | succ n ih =>
    intro i next t st hi hn hlen hk hw hqs
    unfold g18b11111110100110011010
    by_cases h : i < out.length
    · have hc := hor _ (List.getElem_mem h)
      obtain ⟨st1, t1, e1, k1, o1, q1⟩ := route_k (L1 := L1) (L2 := g18b11111110100110011010 L1 n) (st0 := st0) hs hc hv hf hq X1 X2 (.int .i64 (v : Nat)) (.lst (intsV out) t0) (.int .i64 (out.length : Nat)) i (by omega) big s.toNat 0 next t st (by omega) (by omega) (by omega) (by omega) hk hw hqs
      have hil := inO_len f s out[i] s.toNat 0
      obtain ⟨st2, t2, e2, r⟩ := ih (i + 1) (next ++ inO f s out[i] s.toNat 0) t1 st1 (by omega) (by omega) (by rw [List.length_append]; omega) k1 o1 q1
      refine ⟨st2, t2, ?_, r⟩
      simp only [bin_lss, show ((i : Int) < (out.length : Int)) from by omega, decide_true, cond_true, iaddr_ints t0 h, load_l1']
      rw [e1, e2, List.drop_eq_getElem_cons h]
      simp only [stepO, List.flatMap_cons, List.append_assoc]
    · have : i = out.length := by omega
      subst this
      refine ⟨st, t, ?_, hk, hw, hqs⟩
      simp only [bin_lss, Int.lt_irrefl, decide_false, cond_false, bin_inc (show v < 9223372036854775807 by omega), List.drop_length, stepO, List.flatMap_nil, List.append_nil]
theorem outF_drop {i : Nat} (h1 : i < sh.length) (h2 : i < fx.length) (out : List Int) : outF (sh.drop i) (fx.drop i) out = outF (sh.drop (i + 1)) (fx.drop (i + 1)) (stepO sh[i] fx[i] out) := by
  rw [List.drop_eq_getElem_cons h1, List.drop_eq_getElem_cons h2]; rfl
theorem route_v (M : May sh) (hl : fx.length = sh.length) (hq : q < st0.n) (t0 : Nat) : ∀ (n i : Nat) (out : List Int) (t : Nat) (st : St), i ≤ sh.length → sh.length < n + i → (out.length : Int) ≤ pr (sh.take i) → (∀ c ∈ out, 0 ≤ c ∧ c < pr (sh.take i)) → Ks st0 st → st.ob q = some (.cells (intsV fx)) →
    ∃ st' t', g18b1111111010 n (.sl q 0 fx.length 1) (.lst (intsV out) t) (.lst (intsV sh) t0) (.int .i64 (sh.length : Nat)) (.int .i64 (i : Nat)) st =
      some (.ret (.tup [.lst (intsV (outF (sh.drop i) (fx.drop i) out)) t', .int .i64 0]), st') ∧ Ks st0 st' := by
  have hB := big_le
  have hM := M.len
  intro n
  induction n with
  | zero => intro i out t st hi hn; omega
  | succ n ih =>
    intro i out t st hi hn hlen hrange hk hqs
    unfold g18b1111111010
    have hpi : pr (sh.take i) ≤ 64 := by
      have := M.prod
      rw [← List.take_append_drop i sh, pr_app] at this
      have h1 := pr_pos (l := sh.take i) fun x hx => (M.each x (List.mem_of_mem_take hx)).1
      have h2 := pr_pos (l := sh.drop i) fun x hx => (M.each x (List.mem_of_mem_drop hx)).1
      have := mul_ge h1 h2; omega
    by_cases h : i < sh.length
    · have h2 : i < fx.length := by omega
      have hs := M.each _ (List.getElem_mem h)
      obtain ⟨st1, t1, e1, k1, o1, q1⟩ := route_c (L1 := g18b1111111010 n) (st0 := st0) (f := fx[i]) hs h2 rfl (by omega) hq (.lst (intsV sh) t0) (.int .i64 (sh.length : Nat)) out (by omega) (fun c hc => by have := hrange c hc; omega) t big 0 [] 1 st (by omega) (by omega) (by simp) hk (Own.nil _ _ _) hqs
      rw [List.nil_append, List.drop_zero] at e1
      have et : pr (sh.take (i + 1)) = pr (sh.take i) * sh[i] := by
        rw [List.take_add_one, List.getElem?_eq_getElem h]
        show pr (sh.take i ++ [sh[i]]) = _
        rw [pr_app]; simp [pr]
      have hsl := stepO_len (s := sh[i]) (f := fx[i]) out
      obtain ⟨st2, t2, e2, r⟩ := ih (i + 1) (stepO sh[i] fx[i] out) t1 st1 (by omega) (by omega) (by
        rw [et]
        have : ((out.length * sh[i].toNat : Nat) : Int) ≤ pr (sh.take i) * sh[i] := by
          rw [Int.natCast_mul, Int.toNat_of_nonneg (by omega)]
          exact Int.mul_le_mul_of_nonneg_right hlen (by omega)
        omega) (by rw [et]; exact stepO_range hrange) k1 q1
      refine ⟨st2, t2, ?_, r⟩
      simp only [bin_lss, show ((i : Int) < (sh.length : Int)) from by omega, decide_true, cond_true, iaddr_ints t0 h, load_l1', lenL_lst, intsV_len]
      rw [outF_drop h h2]
      exact e1.trans e2
    · have : i = sh.length := by omega
      subst this
      refine ⟨st, t, ?_, hk⟩
      rw [List.drop_length, ← hl, List.drop_length]
      simp [outF, hl]
theorem route_fix (M : May sh) {p t0 tw : Nat} {vars : List Int} {words : List (List UInt8)} (hvw : vars.length = words.length) (hv16 : vars.length ≤ 16) (hw : ∀ w ∈ words, w.length ≤ 4611686018427387900) (hvr : ∀ v ∈ vars, 0 ≤ v ∧ v < sh.length) (hq : st0.n ≤ q) (hp : p < q) (tv : Nat) :
    ∀ (n i : Nat) (fx : List Int) (st : St), fx.length = sh.length → i ≤ vars.length → vars.length < n + i → Ks st0 st → q < st.n → st.ob q = some (.cells (intsV fx)) → st.ob p = some (.cells [.lst (intsV sh) t0]) →
    ∃ st' t', g18b11111010 n (.lst (strsV words) tw) (.ptr p 0) (.sl q 0 fx.length 1) (.lst (intsV vars) tv) (.int .i64 (vars.length : Nat)) (.int .i64 (i : Nat)) st =
      some (.ret (.tup [.lst (intsV (match fixF pS sh (vars.drop i) (words.drop i) fx with | some fy => outF sh fy [0] | none => [])) t', .int .i64 0]), st') ∧ Ks st0 st' := by
  have hB := big_le
  have hM := M.len
  intro n
  induction n with
  | zero => intro i fx st _ hi hn; omega
  | succ n ih =>
    intro i fx st hl hi hn hk hqn hqs hps
    unfold g18b11111010
    by_cases h : i < vars.length
    · have h2 : i < words.length := by omega
      have hv := hvr _ (List.getElem_mem h)
      obtain ⟨hlt, hg⟩ := getD_in hv.1 hv.2
      have hlf : vars[i].toNat < fx.length := by omega
      have hgf : fx.getD vars[i].toNat (-1) = fx[vars[i].toNat] := by rw [List.getD_eq_getElem?_getD, List.getElem?_eq_getElem hlf]; rfl
      have ea : ∀ K, A.iaddr 1 (.lst (intsV sh) t0) (.int .i64 vars[i]) K = K (.lptr [.int .i64 (sh.getD vars[i].toNat 1)]) := fun K => by
        have := iaddr_ints t0 hlt K
        rw [Int.toNat_of_nonneg hv.1] at this
        rw [this, hg]
      have hpart := part_s (st := st) words[i] (hw _ (List.getElem_mem h2)) (sh.getD vars[i].toNat 1)
      have epart : (if sh.getD vars[i].toNat 1 < 1 ∨ 64 < sh.getD vars[i].toNat 1 then (0 : Int) else (Crc.sum (words[i] ++ [35]) : Int) % sh.getD vars[i].toNat 1) = pS words[i] (sh.getD vars[i].toNat 1) := rfl
      rw [epart] at hpart
      have hrng : 0 ≤ pS words[i] (sh.getD vars[i].toNat 1) := (pt_range (by rw [hg]; exact M.each _ (List.getElem_mem hlt))).1
      have I := intsAt_sl hqs
      have eb : ∀ K, (A.iaddr 1 (.sl q 0 fx.length 1) (.int .i64 vars[i]) fun a => A.load false 1 a st K) = K (.int .i64 (fx.getD vars[i].toNat (-1))) st := fun K => by
        have := I.at_ _ hlf K
        rw [Int.toNat_of_nonneg hv.1] at this
        rw [this, hgf]
      have ec : ∀ K : V → Res, A.iaddr 1 (.sl q 0 fx.length 1) (.int .i64 vars[i]) K = K (.ptr q vars[i].toNat) := fun K => by
        have := iaddr_sl (id := q) (off := 0) (sz := 1) K hlf
        rw [Int.toNat_of_nonneg hv.1] at this
        rw [this]; congr 2; omega
      rw [List.drop_eq_getElem_cons h, List.drop_eq_getElem_cons h2]
      unfold fixF
      simp only [bin_lss, show ((i : Int) < (vars.length : Int)) from by omega, decide_true, cond_true, iaddr_ints tv h, iaddr_strs tw h2, load_l1', load_ob, hps, obo_some, List.getElem?_cons_zero, ob_some', ea, er1_str, er1_int, hpart, ret_ret, kid_eq, noP_ret, g18b111110100110011, g18b1111101001100111]
      have keep : ∃ st' t', g18b11111010 n (.lst (strsV words) tw) (.ptr p 0) (.sl q 0 fx.length 1) (.lst (intsV vars) tv) (.int .i64 (vars.length : Nat)) (.int .i64 ((i + 1 : Nat) : Int)) (st.put q (.cells (intsV (fx.set vars[i].toNat (pS words[i] (sh.getD vars[i].toNat 1)))))) =
          some (.ret (.tup [.lst (intsV (match fixF pS sh (vars.drop (i + 1)) (words.drop (i + 1)) (fx.set vars[i].toNat (pS words[i] (sh.getD vars[i].toNat 1))) with | some fy => outF sh fy [0] | none => [])) t', .int .i64 0]), st') ∧ Ks st0 st' := by
        have := ih (i + 1) (fx.set vars[i].toNat (pS words[i] (sh.getD vars[i].toNat 1))) (st.put q (.cells (intsV (fx.set vars[i].toNat (pS words[i] (sh.getD vars[i].toNat 1)))))) (by simpa using hl) (by omega) (by omega) (hk.put hq _) (by simpa using hqn) (by simp) (by rw [put_ne _ _ (by omega)]; exact hps)
        simpa using this
      have estore : ∀ K : St → Res, (A.store 1 (.ptr q vars[i].toNat) (.int .i64 (pS words[i] (sh.getD vars[i].toNat 1))) st K) = K (st.put q (.cells (intsV (fx.set vars[i].toNat (pS words[i] (sh.getD vars[i].toNat 1)))))) := fun K => by
        rw [store_int, hqs, obo_some, if_pos (by simpa using hlf)]; simp [intsV, List.map_set]
      by_cases hge : 0 ≤ fx.getD vars[i].toNat (-1)
      · by_cases hne : fx.getD vars[i].toNat (-1) = pS words[i] (sh.getD vars[i].toNat 1)
        · obtain ⟨st', t', e, r⟩ := keep
          refine ⟨st', t', ?_, r⟩
          rw [if_neg (fun g => g.2 hne), eb]
          simp only [bin_geq, hge, decide_true, guard_tt]
          rw [eb]
          have : (fx.getD vars[i].toNat (-1) != pS words[i] (sh.getD vars[i].toNat 1)) = false := by simpa using hne
          simp only [eql_int, if_true, this, cond_false, ec, estore, bin_inc (show i < 9223372036854775807 by omega)]
          exact e
        · refine ⟨st, 1, ?_, hk⟩
          rw [if_pos ⟨hge, hne⟩, eb]
          simp only [bin_geq, hge, decide_true, guard_tt]
          rw [eb]
          have : (fx.getD vars[i].toNat (-1) != pS words[i] (sh.getD vars[i].toNat 1)) = true := by simpa using hne
          simp only [eql_int, if_true, this, cond_true]
          rfl
      · obtain ⟨st', t', e, r⟩ := keep
        refine ⟨st', t', ?_, r⟩
        rw [if_neg (fun g => hge g.1), eb]
        simp only [bin_geq, hge, decide_false, guard_ft, ec, estore, bin_inc (show i < 9223372036854775807 by omega)]
        exact e
    · have : i = vars.length := by omega
      subst this
      have e0 : fixF pS sh (vars.drop vars.length) (words.drop vars.length) fx = some fx := by rw [List.drop_length]; simp [fixF]
      rw [e0]
      obtain ⟨st', t', e, r⟩ := route_v (q := q) (st0 := st) (fx := fx) M hl hqn t0 big 0 [0] 2 st (by omega) (by omega) (by simp [pr]) (by simp [pr]) (Ks.refl st) hqs
      refine ⟨st', t', ?_, hk.trans r⟩
      simp only [bin_lss, Int.lt_irrefl, decide_false, cond_false, g18b111111, bslice_int1, load_ob, hps, obo_some, List.getElem?_cons_zero, ob_some', lenL_lst, intsV_len]
      simpa using e
end
end Go.Ab
