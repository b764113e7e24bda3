import Derived.Test.YtiegejeleanfbaaAbS13g
import Derived.Test.YtiegejeleanfbaaAbSh2
/- sinewlaw13: Route, of both. -/
namespace Go.Ab
open Go.RowKit Go.Proofs Sh13
set_option linter.unusedVariables false
set_option linter.unusedSimpArgs false
def rOK (sh vars : List Int) (words : List (List UInt8)) : Bool := mayB sh && (decide (vars.length = words.length) && (decide (vars.length ≤ 16) && vars.all (inB sh.length)))
theorem pS_nn {sh : List Int} (M : May sh) : ∀ (v : Nat) (w : List UInt8), v < sh.length → 0 ≤ pS w (sh.getD v 1) := by
  intro v w hv
  have : sh.getD v 1 = sh[v] := by rw [List.getD_eq_getElem?_getD, List.getElem?_eq_getElem hv]; rfl
  rw [this]
  exact (pt_range (M.each _ (List.getElem_mem hv))).1
theorem rOK_ok {sh vars : List Int} {words : List (List UInt8)} (h : rOK sh vars words = true) : May sh ∧ vars.length = words.length ∧ vars.length ≤ 16 ∧ ∀ v ∈ vars, 0 ≤ v ∧ v < sh.length := by
  simp only [rOK, Bool.and_eq_true, decide_eq_true_eq, List.all_eq_true, inB] at h
  exact ⟨mayB_may.1 h.1, h.2.1, h.2.2.1, h.2.2.2⟩
theorem flat_zeros (n : Nat) : flat (List.replicate n (.int .i64 0)) = intsV (List.replicate n 0) := by
  rw [← flat_ints]; simp [intsV, List.map_replicate]
section
variable {st : St}
theorem mkslM_ints (n : Nat) (hn : n ≤ 1073741824) (K : V → St → Res) : A.mkslM 1 8 (.int .i64 0) (.int .i64 (n : Nat)) (.int .i64 (n : Nat)) st K = K (.sl st.n 0 n 1) (st.new (.cells (intsV (List.replicate n 0)))) := by
  have : ((n : Int) ≤ 1073741824) := by omega
  simp [A.mkslM, this, flat_zeros]
theorem route_s (sh vars : List Int) (words : List (List UInt8)) (t tv tw : Nat) (hsl : sh.length ≤ 9223372036854775807) (hvl : vars.length ≤ 9223372036854775807) (hw : ∀ w ∈ words, w.length ≤ 4611686018427387900) :
    s18 [.lst (intsV sh) t, .lst (intsV vars) tv, .lst (strsV words) tw] st =
      some (.ret (if rOK sh vars words then .tup [.lst (intsV (routeL pS sh vars words)) 0, .int .i64 0] else .tup [.lst [] 0, .int .i64 1]), st) := by
  have hB := big_le
  rw [s18_eq]
  have hk1 : Ks st (st.new (.cells [.lst (intsV sh) t])) := (Ks.refl st).new _
  have hp : (st.new (.cells [.lst (intsV sh) t])).ob st.n = some (.cells [.lst (intsV sh) t]) := new_at _ _
  have hzn : (st.new (.cells [.lst (intsV sh) t])).n = st.n + 1 := rfl
  have f18e : f18 (.lst (intsV sh) t) (.lst (intsV vars) tv) (.lst (strsV words) tw) st =
      A.guard (.bool !mayB sh) false (A.eql 2 true (.int .i64 (vars.length : Nat)) (.int .i64 (words.length : Nat)) fun a10 => g18b1100_11 (.lst (intsV vars) tv) (.lst (strsV words) tw) (.ptr st.n 0) (.fn 33 [] [.ptr st.n 0]) a10 (st.new (.cells [.lst (intsV sh) t])))
        (g18b1100_11 (.lst (intsV vars) tv) (.lst (strsV words) tw) (.ptr st.n 0) (.fn 33 [] [.ptr st.n 0]) (.bool true) (st.new (.cells [.lst (intsV sh) t]))) := by
    unfold f18
    rw [box_one rfl]
    simp only [load_ob, hp, obo_some, List.getElem?_cons_zero, ob_some', er1_lst, may_s sh t hsl, ret_ret, un_not, lenL_lst, intsV_len, strsV_len]
  rw [f18e]
  generalize st.new (.cells [.lst (intsV sh) t]) = z at hk1 hp hzn
  have bad : rOK sh vars words = false → (fg (some (.ret (.tup [.lst [] 1, .int .i64 1]), z)) st) = some (.ret (if rOK sh vars words then .tup [.lst (intsV (routeL pS sh vars words)) 0, .int .i64 0] else .tup [.lst [] 0, .int .i64 1]), st) := by
    intro h
    rw [fg_of rfl hk1 (by simp), h]; simp
  cases hm : mayB sh with
  | false =>
    have hr : rOK sh vars words = false := by simp [rOK, hm]
    simp only [Bool.not_false, guard_tf, g18b1100_11, er1_lst, er1_int]
    exact bad hr
  | true =>
    by_cases hvw : vars.length = words.length
    · have hne : (((vars.length : Nat) : Int) != (words.length : Nat)) = false := by simp [hvw]
      by_cases h16 : 16 < vars.length
      · have hr : rOK sh vars words = false := by simp [rOK]; omega
        have h16' : (16 : Int) < vars.length := by omega
        simp only [Bool.not_true, guard_ff, eql_int, if_true, hne, g18b1100_11, lenL_lst, intsV_len, bin_gtr, h16', decide_true, guard_tf, er1_lst, er1_int]
        exact bad hr
      · have h16' : ¬ (16 : Int) < vars.length := by omega
        have hc := containsFn_s (st := z) (t := tv) (fv := .fn 33 [] [.ptr st.n 0]) (p := fun x => !inB sh.length x) hvl rfl (fun x _ K => by
          rw [show A.call g37T (.fn 33 [] [.ptr st.n 0]) [.int .i64 x] z K = A.ret (s33 [.int .i64 x, .ptr st.n 0] z) K from rfl, odd33_s hp]; rfl)
        rw [any_not] at hc
        simp only [Bool.not_true, guard_ff, eql_int, if_true, hne, g18b1100_11, lenL_lst, intsV_len, bin_gtr, h16', decide_false, er1_lst, er1_fn, hc, ret_ret]
        cases hin : vars.all (inB sh.length) with
        | false =>
          have hr : rOK sh vars words = false := by simp [rOK, hin]
          simp only [Bool.not_false, cond_true, er1_int]
          exact bad hr
        | true =>
          have hr : rOK sh vars words = true := by
            have : vars.length ≤ 16 := by omega
            simp [rOK, hm, hin, hvw, this]; omega
          obtain ⟨M, _, _, hvr⟩ := rOK_ok hr
          have hM := M.len
          -- the parts, none fixed yet
          have init : ∀ (n i : Nat) (s0 : St), i ≤ sh.length → sh.length < n + i → s0.ob (st.n + 1) = some (.cells (intsV (List.replicate i (-1) ++ List.replicate (sh.length - i) 0))) → s0.ob st.n = some (.cells [.lst (intsV sh) t]) → Ks st s0 → st.n + 1 < s0.n →
              ∃ s1, g18b1111010 n (.lst (intsV vars) tv) (.lst (strsV words) tw) (.ptr st.n 0) (.sl (st.n + 1) 0 sh.length 1) (.int .i64 (sh.length : Nat)) (.int .i64 (i : Nat)) s0 = g18b11111 (.lst (intsV vars) tv) (.lst (strsV words) tw) (.ptr st.n 0) (.sl (st.n + 1) 0 sh.length 1) s1 ∧
                s1.ob (st.n + 1) = some (.cells (intsV (List.replicate sh.length (-1)))) ∧ s1.ob st.n = some (.cells [.lst (intsV sh) t]) ∧ Ks st s1 ∧ st.n + 1 < s1.n := by
            intro n
            induction n with
            | zero => intro i s0 hi hn; omega
            | succ n ih =>
              intro i s0 hi hn ho hps hk hnn
              unfold g18b1111010
              by_cases h : i < sh.length
              · have eset : (List.replicate i (-1 : Int) ++ List.replicate (sh.length - i) 0).set i (-1) = List.replicate (i + 1) (-1) ++ List.replicate (sh.length - (i + 1)) 0 := by
                  rw [List.set_append_right _ _ (by simp)]
                  simp only [List.length_replicate, Nat.sub_self]
                  obtain ⟨m, hm⟩ : ∃ m, sh.length - i = m + 1 := ⟨sh.length - i - 1, by omega⟩
                  rw [hm, List.replicate_succ, List.set_cons_zero, List.replicate_succ', List.append_assoc]
                  congr 2
                  show _ = List.replicate (sh.length - (i + 1)) 0
                  congr 1; omega
                obtain ⟨s1, q1, q2⟩ := ih (i + 1) (s0.put (st.n + 1) (.cells (intsV (List.replicate (i + 1) (-1) ++ List.replicate (sh.length - (i + 1)) 0)))) (by omega) (by omega) (by simp) (by rw [put_ne _ _ (by omega)]; exact hps) (hk.put (by omega) _) (by simpa using hnn)
                refine ⟨s1, ?_, q2⟩
                have ia : ∀ K : V → Res, A.iaddr 1 (.sl (st.n + 1) 0 sh.length 1) (.int .i64 (i : Nat)) K = K (.ptr (st.n + 1) i) := fun K => by rw [iaddr_sl K h]; congr 2; omega
                have es : ∀ K : St → Res, A.store 1 (.ptr (st.n + 1) i) (.int .i64 (-1)) s0 K = K (s0.put (st.n + 1) (.cells (intsV (List.replicate (i + 1) (-1) ++ List.replicate (sh.length - (i + 1)) 0)))) := fun K => by
                  rw [store_int, ho, obo_some, if_pos (by simp; omega), ← eset]; simp [intsV, List.map_set]
                simp only [bin_lss, show ((i : Int) < (sh.length : Int)) from by omega, decide_true, cond_true, ia, es, bin_inc (show i < 9223372036854775807 by omega)]
                exact q1
              · have : i = sh.length := by omega
                subst this
                refine ⟨s0, ?_, by simpa using ho, hps, hk, hnn⟩
                simp only [bin_lss, Int.lt_irrefl, decide_false, cond_false]
          obtain ⟨s1, q1, q2, q3, q4, q5⟩ := init big 0 (z.new (.cells (intsV (List.replicate sh.length 0)))) (by omega) (by omega) (by rw [← hzn]; simp) (by rw [new_ne _ _ (by omega)]; exact hp) (hk1.new _) (by simp [hzn])
          obtain ⟨s2, t2, e2, k2⟩ := route_fix (st0 := st) (q := st.n + 1) (p := st.n) (t0 := t) (tw := tw) M hvw (by omega) hw hvr (by omega) (by omega) tv big 0 (List.replicate sh.length (-1)) s1 (by simp) (by omega) (by omega) q4 q5 q2 q3
          simp only [List.length_replicate, List.drop_zero] at e2
          have hfin : (A.cond (.bool false) (some (.ret (.tup [.lst [] 1, .int .i64 1]), z)) (g18b111 (.lst (intsV vars) tv) (.lst (strsV words) tw) (.ptr st.n 0) z)) = some (.ret (.tup [.lst (intsV (routeL pS sh vars words)) t2, .int .i64 0]), s2) := by
            simp only [cond_false, g18b111, load_ob, hp, obo_some, List.getElem?_cons_zero, ob_some', lenL_lst, intsV_len, mkslM_ints sh.length (by omega), lenL_sl, hzn]
            refine q1.trans ?_
            unfold g18b11111
            simp only [lenL_lst, intsV_len]
            exact e2
          simp only [Bool.not_true, er1_int]
          rw [fg_of hfin k2 (by simp), hr]; simp
    · have hr : rOK sh vars words = false := by simp [rOK, hvw]
      have hne : (((vars.length : Nat) : Int) != (words.length : Nat)) = true := by simp; omega
      simp only [Bool.not_true, guard_ff, eql_int, if_true, hne, g18b1100_11, guard_tf, er1_lst, er1_int]
      exact bad hr

/-- A cell's parts, all. -/
def digs (sh : List Int) (c : Int) : List Int := (List.range sh.length).map fun i => dig sh i c
theorem coords_s {sh : List Int} (M : May sh) (t : Nat) (c : Int) (hc : 0 ≤ c ∧ c ≤ 64) : ∃ st', s34 [.lst (intsV sh) t, .int .i64 c] st = some (.ret (.sl st.n 0 sh.length 1), st') ∧ st'.ob st.n = some (.cells (intsV (digs sh c))) ∧ Ks st st' := by
  have hB := big_le
  have hM := M.len
  have key : ∀ (n i : Nat) (s0 : St), i ≤ sh.length → i < n → s0.ob st.n = some (.cells (intsV (List.replicate i 0 ++ (digs sh c).drop i))) → Ks st s0 →
      ∃ s1, g34b11010 n (.lst (intsV sh) t) (.int .i64 (c / pr (sh.drop i))) (.sl st.n 0 sh.length 1) (.int .i64 ((i : Nat) - 1)) s0 = some (.ret (.sl st.n 0 sh.length 1), s1) ∧ s1.ob st.n = some (.cells (intsV (digs sh c))) ∧ Ks st s1 := by
    intro n
    induction n with
    | zero => intro i s0 _ hi; omega
    | succ n ih =>
      intro i s0 hi hin ho hk
      unfold g34b11010
      cases i with
      | zero =>
        refine ⟨s0, ?_, by simpa using ho, hk⟩
        simp
      | succ i =>
        have hlt : i < sh.length := by omega
        have hs := M.each _ (List.getElem_mem hlt)
        have ei : (((i + 1 : Nat) : Int) - 1) = (i : Nat) := by omega
        rw [ei]
        have hpp := pr_pos (l := sh.drop (i + 1)) fun x hx => (M.each x (List.mem_of_mem_drop hx)).1
        have hq0 : 0 ≤ c / pr (sh.drop (i + 1)) := Int.ediv_nonneg hc.1 (by omega)
        have hq1 : c / pr (sh.drop (i + 1)) ≤ c := Int.ediv_le_self _ hc.1
        have hgd : sh.getD i 1 = sh[i] := by rw [List.getD_eq_getElem?_getD, List.getElem?_eq_getElem hlt]; rfl
        have er : ∀ K, A.bin .rem (.int .i64 (c / pr (sh.drop (i + 1)))) (.int .i64 sh[i]) K = K (.int .i64 (dig sh i c)) := fun K => by
          rw [bin_rem K (by omega), Int.tmod_eq_emod_of_nonneg hq0, dig, hgd]
        have hlen : (digs sh c).length = sh.length := by simp [digs]
        have eset : (List.replicate (i + 1) (0 : Int) ++ (digs sh c).drop (i + 1)).set i (dig sh i c) = List.replicate i 0 ++ (digs sh c).drop i := by
          rw [List.replicate_succ', List.append_assoc, List.set_append_right _ _ (by simp), List.length_replicate, Nat.sub_self]
          congr 1
          rw [List.drop_eq_getElem_cons (by omega : i < (digs sh c).length)]
          simp [digs]
        have ia : ∀ K : V → Res, A.iaddr 1 (.sl st.n 0 sh.length 1) (.int .i64 (i : Nat)) K = K (.ptr st.n i) := fun K => by rw [iaddr_sl K hlt]; congr 2; omega
        have es : ∀ K : St → Res, A.store 1 (.ptr st.n i) (.int .i64 (dig sh i c)) s0 K = K (s0.put st.n (.cells (intsV (List.replicate i 0 ++ (digs sh c).drop i)))) := fun K => by
          rw [store_int, ho, obo_some, if_pos (by simp; omega), ← eset]; simp [intsV, List.map_set]
        obtain ⟨s1, q1, q2⟩ := ih i (s0.put st.n (.cells (intsV (List.replicate i 0 ++ (digs sh c).drop i)))) (by omega) (by omega) (by simp) (hk.put (by omega) _)
        refine ⟨s1, ?_, q2⟩
        have ed : c / pr (sh.drop (i + 1)) / sh[i] = c / pr (sh.drop i) := by
          rw [List.drop_eq_getElem_cons hlt]; simp only [pr]
          rw [Int.ediv_ediv_of_nonneg (by omega), Int.mul_comm]
        simp only [bin_geq, show (0 : Int) ≤ ((i : Nat) : Int) from by omega, decide_true, cond_true, iaddr_ints t hlt, load_l1', er, ia, es, g34b1101001001]
        rw [bin_quo _ hq0 (by omega) (by omega), ed, bin_sub _ (by omega) (by omega)]
        exact q1
  have hlen : (digs sh c).length = sh.length := by simp [digs]
  obtain ⟨s1, q1, q2, q3⟩ := key big sh.length (st.new (.cells (intsV (List.replicate sh.length 0)))) (by omega) (by omega) (by rw [List.drop_of_length_le (by omega)]; simp) ((Ks.refl st).new _)
  refine ⟨s1, ?_, q2, q3⟩
  rw [s34_eq]; unfold f34
  simp only [lenL_lst, intsV_len, mkslM_ints sh.length (by omega)]
  rw [bin_sub _ (by omega) (by omega)]
  rw [List.drop_length] at q1
  simpa [pr] using q1
theorem rroute_s (sh vars : List Int) (words : List (List UInt8)) (t tv tw : Nat) (hsl : sh.length ≤ 9223372036854775807) (hvl : vars.length ≤ 9223372036854775807) (hw : ∀ w ∈ words, w.length ≤ 4611686018427387900) :
    s19 [.lst (intsV sh) t, .lst (intsV vars) tv, .lst (strsV words) tw] st =
      some (.ret (if rOK sh vars words then .tup [.lst (intsV (routeL pS sh vars words)) 0, .int .i64 0] else .tup [.lst [] 0, .int .i64 1]), st) := by
  have hB := big_le
  rw [s19_eq]
  have bad : ∀ z, Ks st z → rOK sh vars words = false → (fg (some (.ret (.tup [.lst [] 1, .int .i64 1]), z)) st) = some (.ret (if rOK sh vars words then .tup [.lst (intsV (routeL pS sh vars words)) 0, .int .i64 0] else .tup [.lst [] 0, .int .i64 1]), st) := by
    intro z hz h
    rw [fg_of rfl hz (by simp), h]; simp
  unfold f19
  simp only [er1_lst, rcells_s sh t hsl, ret_ret]
  cases hm : mayB sh with
  | false =>
    have hr : rOK sh vars words = false := by simp [rOK, hm]
    simp only [Bool.false_eq_true, if_false, ext_0, ext_1, eql_int, if_true, show ((1 : Int) != 0) = true from rfl, guard_tf, er1_int]
    exact bad st (Ks.refl st) hr
  | true =>
    have M := mayB_may.1 hm
    have hM := M.len
    simp only [if_true, ext_0, ext_1, eql_int, bne_self_eq_false, guard_ff, lenL_lst, intsV_len, strsV_len]
    by_cases hvw : vars.length = words.length
    · have hne : (((vars.length : Nat) : Int) != (words.length : Nat)) = false := by simp [hvw]
      by_cases h16 : 16 < vars.length
      · have hr : rOK sh vars words = false := by simp [rOK]; omega
        have h16' : (16 : Int) < vars.length := by omega
        simp only [hne, guard_ff, bin_gtr, h16', decide_true, cond_true, er1_int]
        exact bad st (Ks.refl st) hr
      · have h16' : ¬ (16 : Int) < vars.length := by omega
        simp only [hne, guard_ff, bin_gtr, h16', decide_false, cond_false, g19b111]
        -- the look at the variables
        have look : ∀ (n i : Nat), i ≤ vars.length → vars.length < n + i →
            g19b111010 n (.lst (intsV sh) t) (.lst (intsV vars) tv) (.lst (strsV words) tw) (.int .i64 (pr sh)) (.int .i64 (i : Nat)) st =
              bif (vars.drop i).all (inB sh.length) then g19b1111 (.lst (intsV sh) t) (.lst (intsV vars) tv) (.lst (strsV words) tw) (.int .i64 (pr sh)) st else some (.ret (.tup [.lst [] 1, .int .i64 1]), st) := by
          intro n
          induction n with
          | zero => intro i hi hn; omega
          | succ n ih =>
            intro i hi hn
            unfold g19b111010
            by_cases h : i < vars.length
            · rw [all_drop _ h]
              simp only [lenL_lst, intsV_len, bin_lss, show ((i : Int) < (vars.length : Int)) from by omega, decide_true, cond_true, iaddr_ints tv h, load_l1', bin_geq]
              by_cases h0 : vars[i] < 0
              · have : inB sh.length vars[i] = false := by simp [inB]; omega
                simp only [h0, decide_true, guard_tf, this, Bool.false_and, er1_lst, er1_int]; rfl
              · by_cases h1 : (sh.length : Int) ≤ vars[i]
                · have : inB sh.length vars[i] = false := by simp [inB]; omega
                  simp only [h0, decide_false, guard_ff, h1, decide_true, this, Bool.false_and, er1_lst, er1_int]; rfl
                · have : inB sh.length vars[i] = true := by simp [inB]; omega
                  simp only [h0, decide_false, guard_ff, h1, this, Bool.true_and, cond_false, bin_inc (show i < 9223372036854775807 by omega)]
                  exact ih (i + 1) (by omega) (by omega)
            · have : i = vars.length := by omega
              subst this
              simp only [lenL_lst, intsV_len, bin_lss, Int.lt_irrefl, decide_false, cond_false, List.drop_length, List.all_nil]; rfl
        have hlook := look big 0 (by omega) (by omega)
        rw [List.drop_zero] at hlook
        rw [show ((.int .i64 0) : V) = .int .i64 ((0 : Nat) : Int) from rfl, hlook]
        cases hin : vars.all (inB sh.length) with
        | false =>
          have hr : rOK sh vars words = false := by simp [rOK, hin]
          exact bad st (Ks.refl st) hr
        | true =>
          have hr : rOK sh vars words = true := by
            have : vars.length ≤ 16 := by omega
            simp [rOK, hm, hin, hvw, this]; omega
          obtain ⟨_, _, _, hvr⟩ := rOK_ok hr
          have hpp := pr_pos (l := sh) fun x hx => (M.each x hx).1
          have hM2 := M.prod
          -- one cell
          have one : ∀ (L : V → V → V → V → V → V → St → Res) (X Y : V) (c : Int) (q : Nat) (n i : Nat) (ok : Bool) (s0 : St), i ≤ vars.length → vars.length < n + i → s0.ob q = some (.cells (intsV (digs sh c))) →
              g19b11111010010011010 L n (.lst (intsV sh) t) (.lst (intsV vars) tv) (.lst (strsV words) tw) X Y (.int .i64 c) (.sl q 0 sh.length 1) (.bool ok) (.int .i64 (i : Nat)) s0 =
                A.cond (.bool (ok && cellOk pS sh c (vars.drop i) (words.drop i))) (A.bslice 1 (.int .i64 0) 1 [(0, .int .i64 c)] fun a18 => A.app 1 Y (elemsOf 5 1 a18 s0) s0 fun a19 z20 => A.bin .add (.int .i64 c) (.int .i64 1) fun a21 => L (.lst (intsV sh) t) (.lst (intsV vars) tv) (.lst (strsV words) tw) X a19 a21 z20)
                  (A.bin .add (.int .i64 c) (.int .i64 1) fun a22 => L (.lst (intsV sh) t) (.lst (intsV vars) tv) (.lst (strsV words) tw) X Y a22 s0) := by
            intro L X Y c q n
            induction n with
            | zero => intro i ok s0 hi hn; omega
            | succ n ih =>
              intro i ok s0 hi hn hq
              unfold g19b11111010010011010
              by_cases h : i < vars.length
              · have h2 : i < words.length := by omega
                have hv := hvr _ (List.getElem_mem h)
                obtain ⟨hlt, hg⟩ := getD_in hv.1 hv.2
                rw [List.drop_eq_getElem_cons h, List.drop_eq_getElem_cons h2]
                simp only [lenL_lst, intsV_len, bin_lss, show ((i : Int) < (vars.length : Int)) from by omega, decide_true, cond_true]
                cases ok with
                | false =>
                  simp only [guard_ft, bin_inc (show i < 9223372036854775807 by omega), Bool.false_and]
                  have := ih (i + 1) false s0 (by omega) (by omega) hq
                  simpa using this
                | true =>
                  have I := intsAt_sl hq
                  have hdl : (digs sh c).length = sh.length := by simp [digs]
                  rw [hdl] at I
                  have ia : ∀ K : V → Res, A.iaddr 1 (.sl q 0 sh.length 1) (.int .i64 vars[i]) K = K (.ptr q vars[i].toNat) := fun K => by
                    have := iaddr_sl (id := q) (off := 0) (sz := 1) K hlt
                    rw [Int.toNat_of_nonneg hv.1] at this
                    rw [this]; congr 2; omega
                  have gd : (intsV (digs sh c))[vars[i].toNat]? = some (.int .i64 (dig sh vars[i].toNat c)) := by
                    rw [List.getElem?_eq_getElem (by simpa [hdl] using hlt)]; simp [digs]
                  have ea : ∀ K, A.iaddr 1 (.lst (intsV sh) t) (.int .i64 vars[i]) K = K (.lptr [.int .i64 (sh.getD vars[i].toNat 1)]) := fun K => by
                    have := iaddr_ints t hlt K
                    rw [Int.toNat_of_nonneg hv.1] at this
                    rw [this, hg]
                  have hpart := rpart_s (st := s0) words[i] (hw _ (List.getElem_mem h2)) (sh.getD vars[i].toNat 1)
                  have epart : (if sh.getD vars[i].toNat 1 < 1 ∨ 64 < sh.getD vars[i].toNat 1 then (0 : Int) else (Crc.sum (words[i] ++ [35]) : Int) % sh.getD vars[i].toNat 1) = pS words[i] (sh.getD vars[i].toNat 1) := rfl
                  rw [epart] at hpart
                  have hl : ldv false 1 (.ptr q vars[i].toNat) s0 = some (.int .i64 (dig sh vars[i].toNat c)) := by simp [ldv, hq, gd]
                  simp only [guard_tt, iaddr_ints tv h, iaddr_strs tw h2, load_l1', ia, load_ob, hq, obo_some, gd, ob_some', ea, er1_str, er1_int, hpart, ret_ret, kid_eq, noP_ret, hl, ldv_lptr, chk_same, eql_int, Bool.false_eq_true, if_false, bin_inc (show i < 9223372036854775807 by omega), Bool.true_and]
                  have := ih (i + 1) (dig sh vars[i].toNat c == pS words[i] (sh.getD vars[i].toNat 1)) s0 (by omega) (by omega) hq
                  exact this
              · have : i = vars.length := by omega
                subst this
                have e0 : cellOk pS sh c (vars.drop vars.length) (words.drop vars.length) = true := by rw [List.drop_length]; rfl
                rw [e0]
                simp only [lenL_lst, intsV_len, bin_lss, Int.lt_irrefl, decide_false, cond_false, Bool.and_true]
          -- all cells
          have all : ∀ (n c : Nat) (acc : List Int) (ta : Nat) (s0 : St), (c : Int) ≤ pr sh → (pr sh).toNat < n + c → acc.length ≤ c → Ks st s0 → Own st s0 1 ta →
              ∃ s1 t1, g19b11111010 n (.lst (intsV sh) t) (.lst (intsV vars) tv) (.lst (strsV words) tw) (.int .i64 (pr sh)) (.lst (intsV acc) ta) (.int .i64 (c : Nat)) s0 =
                some (.ret (.tup [.lst (intsV (acc ++ ((rangeI (pr sh).toNat).drop c).filter fun c => cellOk pS sh c vars words)) t1, .int .i64 0]), s1) ∧ Ks st s1 := by
            intro n
            induction n with
            | zero => intro c acc ta s0 hc hn; omega
            | succ n ih =>
              intro c acc ta s0 hc hn hlen hk ho
              unfold g19b11111010
              by_cases h : (c : Int) < pr sh
              · obtain ⟨s1, q1, q2, q3⟩ := coords_s (st := s0) M t c ⟨by omega, by omega⟩
                have ho1 := ho.mono q3
                have hdr : (rangeI (pr sh).toNat).drop c = (c : Int) :: (rangeI (pr sh).toNat).drop (c + 1) := by
                  have hl : c < (rangeI (pr sh).toNat).length := by rw [rangeI_len]; omega
                  rw [List.drop_eq_getElem_cons hl]; simp [rangeI]
                rw [hdr]
                have ho2 := one (g19b11111010 n) (.int .i64 (pr sh)) (.lst (intsV acc) ta) (c : Nat) s0.n big 0 true s1 (by omega) (by omega) q2
                simp only [bin_lss, h, decide_true, cond_true, er1_lst, er1_int, q1, ret_ret]
                rw [show ((.int .i64 0) : V) = .int .i64 ((0 : Nat) : Int) from rfl, ho2, Bool.true_and, List.drop_zero, List.drop_zero, List.filter_cons]
                cases hok : cellOk pS sh c vars words with
                | true =>
                  have hk2 := ho1.app (hk.trans q3)
                  obtain ⟨s2, t2, p1, p2⟩ := ih (c + 1) (acc ++ [(c : Int)]) _ _ (by omega) (by omega) (by simp; omega) hk2.1 hk2.2
                  refine ⟨s2, t2, ?_, p2⟩
                  have e1 : ∀ K, A.app 1 (.lst (intsV acc) ta) (some (intsV [(c : Int)])) s1 K = K (.lst (intsV (acc ++ [(c : Int)])) (s1.nt + 3)) (appSt s1 ta 1) := fun K => by
                    rw [app_own K ho1 (by simp; omega) (by simp), intsV_app]
                  simp only [cond_true, bslice_int1, elemsOf_ints, e1, bin_inc (show c < 9223372036854775807 by omega), if_true]
                  rw [p1, List.append_assoc]; rfl
                | false =>
                  obtain ⟨s2, t2, p1, p2⟩ := ih (c + 1) acc ta s1 (by omega) (by omega) (by omega) (hk.trans q3) ho1
                  refine ⟨s2, t2, ?_, p2⟩
                  simp only [cond_false, bin_inc (show c < 9223372036854775807 by omega), Bool.false_eq_true, if_false]
                  exact p1
              · refine ⟨s0, ta, ?_, hk⟩
                have : (rangeI (pr sh).toNat).drop c = [] := List.drop_eq_nil_of_le (by rw [rangeI_len]; omega)
                rw [this]
                simp [h]
          obtain ⟨s1, t1, p1, p2⟩ := all big 0 [] 1 st (by omega) (by omega) (by simp) (Ks.refl st) (Own.nil _ _ _)
          rw [List.nil_append, List.drop_zero, ← route_eq (fun x hx => (M.each x hx).1) (pS_nn M) hvw hvr] at p1
          simp only [_root_.cond_true, g19b1111]
          refine Eq.trans (fg_of p1 p2 (by simp)) ?_
          rw [hr]; simp
    · have hr : rOK sh vars words = false := by simp [rOK, hvw]
      have hne : (((vars.length : Nat) : Int) != (words.length : Nat)) = true := by simp; omega
      simp only [hne, guard_tf, er1_lst, er1_int]
      exact bad st (Ks.refl st) hr
end
end Go.Ab
