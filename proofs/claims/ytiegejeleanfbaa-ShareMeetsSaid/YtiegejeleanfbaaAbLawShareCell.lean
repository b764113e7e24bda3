import Derived.Test.YtiegejeleanfbaaAbS13h
import Derived.Test.YtiegejeleanfbaaAbIn2
/- sinewlaw13.ShareCell, ShareMeets: words of all variables have one cell; what agrees meets. -/
namespace Go.Ab
open Go.Proofs Go.RowKit Sh13
set_option linter.unusedVariables false
set_option linter.unusedSimpArgs false
/-- The parts of words of all variables. -/
def partsL : List Int → List (List UInt8) → List Int
  | s :: ss, w :: ws => pS w s :: partsL ss ws
  | _, _ => []
theorem partsL_len : ∀ {sh : List Int} {ws : List (List UInt8)}, sh.length ≤ ws.length → (partsL sh ws).length = sh.length
  | [], _, _ => by simp [partsL]
  | s :: ss, [], h => by simp at h
  | s :: ss, w :: ws, h => by simp [partsL, partsL_len (sh := ss) (ws := ws) (by simpa using h)]
theorem partsL_get : ∀ {sh : List Int} {ws : List (List UInt8)} (i : Nat) (h : i < (partsL sh ws).length) (h1 : i < sh.length) (h2 : i < ws.length), (partsL sh ws)[i] = pS ws[i] sh[i]
  | [], _, i, h, h1, _ => by simp at h1
  | s :: ss, [], i, h, _, h2 => by simp at h2
  | s :: ss, w :: ws, 0, _, _, _ => rfl
  | s :: ss, w :: ws, i + 1, h, h1, h2 => by
    simp only [partsL, List.getElem_cons_succ]
    exact partsL_get i _ _ _
theorem getD_at {l : List Int} {i : Nat} {d : Int} (h : i < l.length) : l.getD i d = l[i] := by rw [List.getD_eq_getElem?_getD, List.getElem?_eq_getElem h]; rfl
theorem partsL_ok {sh : List Int} (M : May sh) {ws : List (List UInt8)} (hl : sh.length ≤ ws.length) : ∀ i (h : i < (partsL sh ws).length) (h2 : i < sh.length), 0 ≤ (partsL sh ws)[i] ∧ (partsL sh ws)[i] < sh[i] := by
  intro i h h2
  rw [partsL_get i h h2 (by omega)]
  exact pt_range (M.each _ (List.getElem_mem h2))
theorem fixF_all {sh : List Int} {ws : List (List UInt8)} (hl : sh.length = ws.length) : ∀ (k i : Nat), i + k = sh.length → fixF pS sh ((rangeI sh.length).drop i) (ws.drop i) ((partsL sh ws).take i ++ List.replicate k (-1)) = some (partsL sh ws)
  | 0, i, h => by
    have hp := partsL_len (sh := sh) (ws := ws) (by omega)
    rw [List.drop_of_length_le (by rw [rangeI_len]; omega), List.take_of_length_le (by omega)]
    simp [fixF]
  | k + 1, i, h => by
    have hp := partsL_len (sh := sh) (ws := ws) (by omega)
    have h1 : i < (rangeI sh.length).length := by rw [rangeI_len]; omega
    have h2 : i < ws.length := by omega
    have h3 : i < sh.length := by omega
    rw [List.drop_eq_getElem_cons h1, List.drop_eq_getElem_cons h2]
    have ei : (rangeI sh.length)[i] = (i : Int) := by simp [rangeI]
    rw [ei]
    unfold fixF
    have hlen : ((partsL sh ws).take i).length = i := by simp; omega
    have eg : ((partsL sh ws).take i ++ List.replicate (k + 1) (-1 : Int)).getD (i : Int).toNat (-1) = -1 := by
      rw [Int.toNat_natCast, List.getD_eq_getElem?_getD, List.getElem?_append_right (by omega), hlen, Nat.sub_self]; rfl
    rw [if_neg (by rw [eg]; omega), Int.toNat_natCast, getD_at h3]
    have es : ((partsL sh ws).take i ++ List.replicate (k + 1) (-1 : Int)).set i (pS ws[i] sh[i]) = (partsL sh ws).take (i + 1) ++ List.replicate k (-1) := by
      rw [List.set_append_right _ _ (by omega), hlen, Nat.sub_self, List.replicate_succ, List.set_cons_zero, List.take_add_one, List.getElem?_eq_getElem (by omega), partsL_get i (by omega) h3 h2, List.append_assoc]
      rfl
    rw [es]
    exact fixF_all hl k (i + 1) (by omega)
/-- Words of all variables have one cell. -/
theorem route_all {sh : List Int} (M : May sh) {ws : List (List UInt8)} (hl : sh.length = ws.length) : routeL pS sh (rangeI sh.length) ws = [horn sh (partsL sh ws) 0] := by
  have h := fixF_all hl sh.length 0 (by omega)
  rw [List.drop_zero, List.drop_zero, List.take_zero, List.nil_append] at h
  unfold routeL fixed
  rw [h]
  exact outF_all (partsL_len (by omega)) (partsL_ok M (by omega))
theorem rOK_all {sh : List Int} (M : May sh) {ws : List (List UInt8)} (hl : sh.length = ws.length) : rOK sh (rangeI sh.length) ws = true := by
  have := M.len
  simp only [rOK, mayB_may.2 M, rangeI_len, hl, decide_true, Bool.true_and, Bool.and_eq_true, decide_eq_true_eq, List.all_eq_true, inB]
  refine ⟨by omega, fun v hv => ?_⟩
  have := rangeI_mem.1 hv; omega
variable {st : St}
/-- The number so far. -/
theorem horn_step {sh : List Int} {ds : List Int} : ∀ {i : Nat} (a : Int) (h1 : i < sh.length) (h2 : i < ds.length), horn (sh.take (i + 1)) (ds.take (i + 1)) a = horn (sh.take i) (ds.take i) a * sh[i] + ds[i] := by
  intro i a h1 h2
  induction i generalizing sh ds a with
  | zero =>
    cases sh with
    | nil => simp at h1
    | cons s ss => cases ds with
      | nil => simp at h2
      | cons d ds => simp [horn]
  | succ i ih =>
    cases sh with
    | nil => simp at h1
    | cons s ss => cases ds with
      | nil => simp at h2
      | cons d ds =>
        simp only [List.take_succ_cons, horn, List.getElem_cons_succ]
        exact ih _ (by simpa using h1) (by simpa using h2)
theorem strs_take (words : List (List UInt8)) (n tw : Nat) (h : n ≤ words.length) (K : V → Res) : A.slice 1 (.lst (strsV words) tw) none (some (.int .i64 (n : Nat))) none K = K (.lst (strsV (words.take n)) (if n = words.length then tw else 0)) := slice_strs words tw n K h
theorem cell_loop {sh : List Int} (M : May sh) (words : List (List UInt8)) (t tw : Nat) (hl : sh.length ≤ words.length) (hwl : words.length ≤ 9223372036854775807) (hw : ∀ w ∈ words, w.length ≤ 9223372036854775807) :
    ∀ (n i : Nat) (ta : Nat) (s0 : St), i ≤ sh.length → sh.length < n + i → (∀ w ∈ words.take i, w.length ≤ 4096) → Ks st s0 → Own st s0 1 ta →
    ∃ s1, g8b11111010 n (.lst (intsV sh) t) (.lst (strsV words) tw) (.lst (intsV (rangeI i)) ta) (.int .i64 (horn (sh.take i) ((partsL sh words).take i) 0)) (.int .i64 (i : Nat)) s0 = some (.ret (.bool true), s1) := by
  have hM := M.len
  have hM2 := M.prod
  have hp := partsL_len hl
  intro n
  induction n with
  | zero => intro i ta s0 hi hn; omega
  | succ n ih =>
    intro i ta s0 hi hn hall hk ho
    unfold g8b11111010
    by_cases h : i < sh.length
    · have h2 : i < words.length := by omega
      have hwi := hw _ (List.getElem_mem h2)
      simp only [lenL_lst, intsV_len, bin_lss, show ((i : Int) < (sh.length : Int)) from by omega, decide_true, cond_true, iaddr_strs tw h2, load_l1', lenS_str, bin_gtr]
      by_cases h1 : 4096 < words[i].length
      · have : (4096 : Int) < words[i].length := by omega
        exact ⟨s0, by simp [this]⟩
      · have h1' : ¬ (4096 : Int) < words[i].length := by omega
        have hk2 := ho.app hk
        have hs := M.each _ (List.getElem_mem h)
        have hpi : pr (sh.take i) ≤ 64 := by
          have := M.prod
          rw [← List.take_append_drop i sh, pr_app] at this
          have h1 := pr_pos (l := sh.take i) fun x hx => (M.each x (List.mem_of_mem_take hx)).1
          have h2 := pr_pos (l := sh.drop i) fun x hx => (M.each x (List.mem_of_mem_drop hx)).1
          have := mul_ge h1 h2; omega
        have hr := horn_range (sh := sh.take i) (ds := (partsL sh words).take i) (a := 0) (m := 1) (by simp; omega) (fun j hj1 hj2 => by
          have := partsL_ok M hl j (by simp at hj1; omega) (by simp at hj2; omega)
          simpa using this) ⟨by omega, by omega⟩
        rw [Int.one_mul] at hr
        have hst := horn_step (sh := sh) (ds := partsL sh words) (i := i) 0 h (by omega)
        rw [partsL_get i (by omega) h h2] at hst
        have hpt : 0 ≤ pS words[i] sh[i] ∧ pS words[i] sh[i] < sh[i] := pt_range hs
        have hpart := part_s (st := appSt s0 ta 1) words[i] (by omega) sh[i]
        have epart : (if sh[i] < 1 ∨ 64 < sh[i] then (0 : Int) else (Crc.sum (words[i] ++ [35]) : Int) % sh[i]) = pS words[i] sh[i] := rfl
        rw [epart] at hpart
        have e1 : ∀ K, A.app 1 (.lst (intsV (rangeI i)) ta) (some (intsV [(i : Int)])) s0 K = K (.lst (intsV (rangeI (i + 1))) (s0.nt + 3)) (appSt s0 ta 1) := fun K => by
          rw [app_own K ho (by simp [rangeI_len]; omega) (by simp), ← intsV_app, ← rangeI_succ]
        generalize horn (sh.take i) ((partsL sh words).take i) 0 = a at hr hst
        have hm0 : 0 ≤ a * sh[i] := Int.mul_nonneg hr.1 (by omega)
        have hm1 : a * sh[i] ≤ 64 * 64 := Int.mul_le_mul (by omega) hs.2 (by omega) (by omega)
        obtain ⟨s1, q⟩ := ih (i + 1) (s0.nt + 3) (appSt s0 ta 1) (by omega) (by omega) (by
          intro w hw'
          rw [List.take_add_one, List.getElem?_eq_getElem h2] at hw'
          rcases List.mem_append.1 hw' with g | g
          · exact hall w g
          · have : w = words[i] := by simpa using g
            subst this; omega) hk2.1 hk2.2
        refine ⟨s1, ?_⟩
        rw [hst] at q
        generalize pS words[i] sh[i] = d at q hpart hpt
        simp only [h1', decide_false, cond_false, g8b1111101001001, bslice_int1, elemsOf_ints, e1, iaddr_ints t h, iaddr_strs tw h2, load_l1', bin_mul _ (show -9223372036854775808 ≤ a * sh[i] by omega) (show a * sh[i] ≤ 9223372036854775807 by omega), er1_str, er1_int, hpart, ret_ret, kid_eq, noP_ret, ldv_lptr, chk_same,
          bin_add _ (show -9223372036854775808 ≤ a * sh[i] + d by omega) (show a * sh[i] + d ≤ 9223372036854775807 by omega), bin_inc (show i < 9223372036854775807 by omega)]
        exact q
    · have : i = sh.length := by omega
      subst this
      have htl : sh.length = (words.take sh.length).length := by simp; omega
      have hr := route_s (st := s0) sh (rangeI sh.length) (words.take sh.length) t ta (if sh.length = words.length then tw else 0) (by omega) (by rw [rangeI_len]; omega) (fun w hw' => by have := hall w hw'; omega)
      rw [rOK_all M htl, if_pos rfl, route_all M htl] at hr
      have ep : ∀ (sh : List Int) (ws : List (List UInt8)), partsL sh (ws.take sh.length) = partsL sh ws := by
        intro sh
        induction sh with
        | nil => intro ws; simp [partsL]
        | cons s ss ih => intro ws; cases ws with
          | nil => simp [partsL]
          | cons w ws => simp [partsL, ih]
      rw [ep] at hr
      refine ⟨s0, ?_⟩
      rw [List.take_length, List.take_of_length_le (by omega)]
      simp only [lenL_lst, intsV_len, bin_lss, Int.lt_irrefl, decide_false, cond_false, g8b111111, strs_take words sh.length tw hl, er1_lst, hr, ret_ret, ext_0, ext_1, g8b1111111, eql_int, Bool.false_eq_true, if_false, beq_self_eq_true, guard_tt, List.length_singleton, show (((1 : Nat) : Int) == 1) = true from rfl, g8b11111110_8, g8b11111110_15]
      have ia := iaddr_ints (xs := [horn sh (partsL sh words) 0]) (i := 0) 0 (by simp)
      have ia' : ∀ K, A.iaddr 1 (.lst (intsV [horn sh (partsL sh words) 0]) 0) (.int .i64 0) K = K (.lptr [.int .i64 (horn sh (partsL sh words) 0)]) := fun K => by simpa using ia K
      simp [ia']
theorem shareCell_law (sh : List Int) (words : List (List UInt8)) (t tw : Nat) (hsl : sh.length ≤ 9223372036854775807) (hwl : words.length ≤ 9223372036854775807) (hw : ∀ w ∈ words, w.length ≤ 9223372036854775807) :
    ∃ st', s8 [.lst (intsV sh) t, .lst (strsV words) tw] st = some (.ret (.bool true), st') := by
  have hB := big_le
  rw [s8_eq]; unfold f8
  simp only [er1_lst, cells_s sh t hsl, ret_ret]
  cases hm : mayB sh with
  | false => exact ⟨st, by simp⟩
  | true =>
    have M := mayB_may.1 hm
    have hM := M.len
    simp only [if_true, ext_0, ext_1, eql_int, bne_self_eq_false, guard_ff, lenL_lst, intsV_len, strsV_len, bin_lss]
    by_cases h : words.length < sh.length
    · exact ⟨st, by simp [h]⟩
    · have h' : ¬ ((words.length : Int) < sh.length) := by omega
      obtain ⟨s1, q⟩ := cell_loop (st := st) M words t tw (by omega) hwl hw big 0 1 st (by omega) (by omega) (by simp) (Ks.refl st) (Own.nil _ _ _)
      refine ⟨s1, ?_⟩
      simp only [h', decide_false, cond_false, g8b111]
      simpa [horn, rangeI] using q
theorem shareCell_row {W : World} {v0 v1 : Value} {x0 x1 : V} {n0 n1 : Nat}
    (r0 : Rs (E0 W) [x0] [v0]) (s0 : Sh Try.prog n0 24 x0.cells) (f0 : fit Try.prog 24 x0)
    (r1 : Rs (E0 W) [x1] [v1]) (s1 : Sh Try.prog n1 36 x1.cells) (f1 : fit Try.prog 36 x1) :
    Calls Try.prog 8 #[v0, v1] W fun e w' => e = .returned (.bool true) ∧ Below W.heap.size W w' := by
  obtain ⟨xs, rfl, h1, _⟩ := in_ints s0 f0 Try.underlying24 Try.underlying3
  obtain ⟨zs, rfl, h3, h4⟩ := in_strs s1 f1 Try.underlying36 Try.underlying9
  obtain ⟨st', hs⟩ := shareCell_law (st := St0) xs zs 0 0 h1 h3 h4
  exact bool_row sim8 W _ _ _ hs (Rs.cons r0 r1)
end Go.Ab
