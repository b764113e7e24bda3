import Derived.Test.YtiegejeleanfbaaAbLawShareCell
/- sinewlaw13.ShareMeets: what agrees meets. -/
namespace Go.Ab
open Go.Proofs Go.RowKit Sh13
set_option linter.unusedVariables false
set_option linter.unusedSimpArgs false
/-- The parts that are fixed by words of two variables. -/
theorem fixed_two {sh : List Int} (M : May sh) {ws : List (List UInt8)} (hl : sh.length ≤ ws.length) {a b : Nat} (ha : a < sh.length) (hb : b < sh.length) :
    ∃ fy, fixed pS sh [(a : Int), (b : Int)] [ws[a], ws[b]] = some fy ∧ fy.length = sh.length ∧ (∀ i (h : i < fy.length) (h2 : i < sh.length), fy[i] < sh[i]) ∧
      (∀ i (h : i < (partsL sh ws).length) (h2 : i < fy.length), keepB fy[i] (partsL sh ws)[i] = true) ∧ cnt sh fy = if a = b then pr sh / sh[a] else pr sh / sh[a] / sh[b] := by
  have hp := partsL_len hl
  have ga : ∀ i (h : i < sh.length), (List.replicate sh.length (-1 : Int)).getD i (-1) = -1 := fun i h => getD_rep h
  have pa : 0 ≤ pS ws[a] sh[a] ∧ pS ws[a] sh[a] < sh[a] := pt_range (M.each _ (List.getElem_mem ha))
  have pb : 0 ≤ pS ws[b] sh[b] ∧ pS ws[b] sh[b] < sh[b] := pt_range (M.each _ (List.getElem_mem hb))
  have c0 := cnt_set (sh := sh) (fx := List.replicate sh.length (-1)) (v := a) (k := pS ws[a] sh[a]) (by simp) ha pa.1 (by rw [ga a ha]; omega)
  rw [cnt_free, getD_at ha] at c0
  have sa := M.each _ (List.getElem_mem ha)
  have sb := M.each _ (List.getElem_mem hb)
  have c1 : cnt sh ((List.replicate sh.length (-1)).set a (pS ws[a] sh[a])) = pr sh / sh[a] := by rw [← c0, Int.mul_ediv_cancel _ (by omega)]
  have lt1 : ∀ i, i < sh.length → (List.replicate sh.length (-1 : Int)).getD i (-1) < 0 := fun i h => by rw [ga i h]; omega
  by_cases hab : a = b
  · subst hab
    refine ⟨(List.replicate sh.length (-1)).set a (pS ws[a] sh[a]), ?_, by simp, ?_, ?_, by rw [if_pos rfl]; exact c1⟩
    · unfold fixed fixF fixF
      rw [Int.toNat_natCast, getD_at ha, if_neg (by rw [ga a ha]; omega), if_neg (by rw [Sh13.getD_set (by simpa using ha), if_pos rfl]; omega)]
      simp [fixF]
    · intro i h h2
      rw [List.getElem_set]
      split
      · rename_i e; subst e; exact pa.2
      · have := M.each _ (List.getElem_mem h2); simp; omega
    · intro i h h2
      rw [List.getElem_set]
      split
      · rename_i e; subst e; rw [partsL_get a h ha (by omega)]; exact keepB_iff.2 (.inr rfl)
      · refine keepB_iff.2 (.inl ?_); simp
  · have g1 : ((List.replicate sh.length (-1 : Int)).set a (pS ws[a] sh[a])).getD b (-1) = -1 := by rw [Sh13.getD_set (by simpa using ha), if_neg hab, ga b hb]
    have c2 := cnt_set (sh := sh) (fx := (List.replicate sh.length (-1)).set a (pS ws[a] sh[a])) (v := b) (k := pS ws[b] sh[b]) (by simp) hb pb.1 (by rw [g1]; omega)
    rw [c1, getD_at hb] at c2
    refine ⟨((List.replicate sh.length (-1)).set a (pS ws[a] sh[a])).set b (pS ws[b] sh[b]), ?_, by simp, ?_, ?_, by rw [if_neg hab, ← c2, Int.mul_ediv_cancel _ (by omega)]⟩
    · unfold fixed fixF fixF
      rw [Int.toNat_natCast, Int.toNat_natCast, getD_at ha, getD_at hb, if_neg (by rw [ga a ha]; omega), if_neg (by rw [g1]; omega)]
      simp [fixF]
    · intro i h h2
      rw [List.getElem_set]
      split
      · rename_i e; subst e; exact pb.2
      · rw [List.getElem_set]
        split
        · rename_i e; subst e; exact pa.2
        · have := M.each _ (List.getElem_mem h2); simp; omega
    · intro i h h2
      rw [List.getElem_set]
      split
      · rename_i e; subst e; rw [partsL_get b h hb (by omega)]; exact keepB_iff.2 (.inr rfl)
      · rw [List.getElem_set]
        split
        · rename_i e; subst e; rw [partsL_get a h ha (by omega)]; exact keepB_iff.2 (.inr rfl)
        · refine keepB_iff.2 (.inl ?_); simp
theorem two_ok {sh : List Int} (M : May sh) {u w : List UInt8} {a b : Nat} (ha : a < sh.length) (hb : b < sh.length) : rOK sh [(a : Int), (b : Int)] [u, w] = true := by
  simp [rOK, mayB_may.2 M, inB]; omega
variable {st : St}
theorem found_loop (x y : Int) (l : List Int) (hl : l.length ≤ 100) (h0 : V) : ∀ (n i : Nat) (ok : Bool), i ≤ l.length → l.length < n + i →
    g6b1111111111111010 n (.lst (intsV [x]) 0) (.int .i64 y) (.lst (intsV l) 0) (.int .i64 0) (.bool ok) (.int .i64 (i : Nat)) st = g6b11111111111111 (.int .i64 y) (.lst (intsV l) 0) (.int .i64 0) (.bool (ok || (l.drop i).any (fun z => z == x))) st := by
  intro n
  induction n with
  | zero => intro i ok hi hn; omega
  | succ n ih =>
    intro i ok hi hn
    unfold g6b1111111111111010
    by_cases h : i < l.length
    · have ia : ∀ K, A.iaddr 1 (.lst (intsV [x]) 0) (.int .i64 0) K = K (.lptr [.int .i64 x]) := fun K => by simpa using iaddr_ints (xs := [x]) (i := 0) 0 (by simp) K
      rw [List.drop_eq_getElem_cons h, List.any_cons]
      simp only [lenL_lst, intsV_len, bin_lss, show ((i : Int) < (l.length : Int)) from by omega, decide_true, cond_true]
      cases ok with
      | true =>
        simp only [guard_tf, bin_inc (show i < 9223372036854775807 by omega)]
        rw [ih (i + 1) true (by omega) (by omega)]; simp
      | false =>
        simp only [guard_ff, iaddr_ints 0 h, load_l1', ia, eql_int, Bool.false_eq_true, if_false, bin_inc (show i < 9223372036854775807 by omega)]
        rw [ih (i + 1) (l[i] == x) (by omega) (by omega)]; simp
    · have : i = l.length := by omega
      subst this
      simp only [lenL_lst, intsV_len, bin_lss, Int.lt_irrefl, decide_false, cond_false, List.drop_length, List.any_nil, Bool.or_false]
theorem meets_fin {sh : List Int} (M : May sh) (words : List (List UInt8)) (t tw p : Nat) {x y : Int} (hp : st.ob p = some (.cells [.int .i64 x, .int .i64 y])) (h0 : 0 < sh.length) (hl : sh.length ≤ words.length) (hwl : words.length ≤ 9223372036854775807) (hw : ∀ w ∈ words.take sh.length, w.length ≤ 4096) :
    g6b1111111 (.lst (intsV sh) t) (.lst (strsV words) tw) (.ptr p 0) (.int .i64 (pr sh)) (.lst (intsV [horn sh (partsL sh words) 0]) 0) st = some (.ret (.bool true), st) := by
  have hB := big_le
  have hM := M.len
  have hM2 := M.prod
  have hpos := pr_pos (l := sh) fun x hx => (M.each x hx).1
  have ha : ∃ a : Nat, a < sh.length ∧ ∀ K : V → Res, (A.bin .and (.int .i64 x) (.int .i64 65535) fun a3 => A.bin .rem a3 (.int .i64 (sh.length : Nat)) K) = K (.int .i64 (a : Nat)) :=
    ⟨low 65536 x % sh.length, Nat.mod_lt _ h0, fun K => by rw [bin_and65535, bin_remN _ _ _ h0]⟩
  have hb : ∃ b : Nat, b < sh.length ∧ ∀ K : V → Res, (A.bin .and (.int .i64 y) (.int .i64 65535) fun a3 => A.bin .rem a3 (.int .i64 (sh.length : Nat)) K) = K (.int .i64 (b : Nat)) :=
    ⟨low 65536 y % sh.length, Nat.mod_lt _ h0, fun K => by rw [bin_and65535, bin_remN _ _ _ h0]⟩
  obtain ⟨a, ha, ea⟩ := ha
  obtain ⟨b, hb, eb⟩ := hb
  have ha2 : a < words.length := by omega
  have hb2 : b < words.length := by omega
  have sa := M.each _ (List.getElem_mem ha)
  have sb := M.each _ (List.getElem_mem hb)
  have wa : words[a].length ≤ 4096 := hw _ (by rw [List.mem_take_iff_getElem]; exact ⟨a, by omega, rfl⟩)
  have wb : words[b].length ≤ 4096 := hw _ (by rw [List.mem_take_iff_getElem]; exact ⟨b, by omega, rfl⟩)
  obtain ⟨fy, f1, f2, f3, f4, f5⟩ := fixed_two M hl ha hb
  have hr := route_s (st := st) sh [(a : Int), (b : Int)] [words[a], words[b]] t 2 2 (by omega) (by simp) (by intro w hw'; simp at hw'; rcases hw' with rfl | rfl <;> omega)
  rw [two_ok M ha hb, if_pos rfl] at hr
  have hlen := outF_count (sh := sh) (fx := fy) [0] f2 (fun x hx => (M.each x hx).1) f3
  have hmem := horn_mem (sh := sh) (ds := partsL sh words) (fx := fy) (out := [0]) (a := 0) (partsL_len hl) f2 (partsL_ok M hl) f4 (by simp)
  have hrl : routeL pS sh [(a : Int), (b : Int)] [words[a], words[b]] = outF sh fy [0] := by unfold routeL; rw [f1]
  rw [hrl] at hr
  rw [f5] at hlen
  generalize outF sh fy [0] = l at hr hlen hmem
  generalize horn sh (partsL sh words) 0 = hx at hmem
  have q1 : pr sh / sh[a] ≤ pr sh := Int.ediv_le_self _ (by omega)
  have q0 : 0 ≤ pr sh / sh[a] := Int.ediv_nonneg (by omega) (by omega)
  have hany : l.any (fun z => z == hx) = true := List.any_eq_true.2 ⟨hx, hmem, by simp⟩
  have fin : ∀ rest : Int, (l.length : Int) = rest → g6b11111111111 (.lst (intsV sh) t) (.lst (intsV [hx]) 0) (.lst (intsV [(a : Int), (b : Int)]) 2) (.lst (strsV [words[a], words[b]]) 2) (.int .i64 rest) st = some (.ret (.bool true), st) := by
    intro rest hrest
    subst hrest
    have hl2 : l.length ≤ 100 := by
      have : (l.length : Int) ≤ 64 := by
        rw [hlen]
        have q2 : pr sh / sh[a] / sh[b] ≤ pr sh / sh[a] := Int.ediv_le_self _ q0
        simp only [List.length_singleton]
        split <;> simp <;> omega
      omega
    have hf := found_loop (st := st) hx (l.length : Nat) l hl2 (.tup []) big 0 false (by omega) (by omega)
    unfold g6b11111111111
    simp only [er1_lst, hr, ret_ret, ext_0, ext_1, g6b111111111111101]
    refine Eq.trans hf ?_
    rw [List.drop_zero, hany]
    simp [g6b11111111111111, g6b111111111111110_9]
  unfold g6b1111111
  simp only [iaddrA_ptr, Int.le_refl, show (0 : Int) < ((2 : Nat) : Int) from by decide, and_self, if_true, Int.toNat_zero, Nat.zero_mul, Nat.add_zero, load_ob, hp, obo_some, List.getElem?_cons_zero, ob_some', show (0 : Int) ≤ 1 from by decide, show (1 : Int) < ((2 : Nat) : Int) from by decide, Int.toNat_one, Nat.one_mul, Nat.zero_add, List.getElem?_cons_succ, lenL_lst, intsV_len]
  rw [ea, eb]
  unfold g6b11111111 g6b111111111
  simp only [bslice_int2, iaddr_strs tw ha2, iaddr_strs tw hb2, load_l1', bslice_str2, iaddr_ints t ha, bin_quo _ (show 0 ≤ pr sh by omega) (show pr sh ≤ 9223372036854775807 by omega) (show 0 < sh[a] by omega), eql_int, if_true]
  by_cases hab : a = b
  · subst hab
    simp only [bne_self_eq_false, cond_false]
    exact fin _ (by rw [hlen]; simp)
  · have hne : (((a : Nat) : Int) != (b : Nat)) = true := by simp; omega
    simp only [hne, cond_true, iaddr_ints t hb, load_l1', bin_quo _ q0 (show pr sh / sh[a] ≤ 9223372036854775807 by omega) (show 0 < sh[b] by omega)]
    exact fin _ (by rw [hlen]; simp [hab])
theorem meets_loop {sh : List Int} (M : May sh) (words : List (List UInt8)) (t tw p : Nat) {x y : Int} (h0 : 0 < sh.length) (hl : sh.length ≤ words.length) (hwl : words.length ≤ 9223372036854775807) (hw : ∀ w ∈ words, w.length ≤ 9223372036854775807) (st0 : St) (hpn : p < st0.n) :
    ∀ (n i : Nat) (ta : Nat) (s0 : St), i ≤ sh.length → sh.length < n + i → (∀ w ∈ words.take i, w.length ≤ 4096) → Ks st0 s0 → Own st0 s0 1 ta → s0.ob p = some (.cells [.int .i64 x, .int .i64 y]) →
    ∃ s1, g6b1111010 n (.lst (intsV sh) t) (.lst (strsV words) tw) (.ptr p 0) (.int .i64 (pr sh)) (.lst (intsV (rangeI i)) ta) (.int .i64 (i : Nat)) s0 = some (.ret (.bool true), s1) := by
  have hM := M.len
  have hM2 := M.prod
  have hp := partsL_len hl
  intro n
  induction n with
  | zero => intro i ta s0 hi hn; omega
  | succ n ih =>
    intro i ta s0 hi hn hall hk ho hps
    unfold g6b1111010
    by_cases h : i < sh.length
    · have h2 : i < words.length := by omega
      have hwi := hw _ (List.getElem_mem h2)
      simp only [lenL_lst, intsV_len, bin_lss, show ((i : Int) < (sh.length : Int)) from by omega, decide_true, cond_true, iaddr_strs tw h2, load_l1', lenS_str, bin_gtr]
      by_cases h1 : 4096 < words[i].length
      · have : (4096 : Int) < words[i].length := by omega
        exact ⟨s0, by simp [this]⟩
      · have h1' : ¬ (4096 : Int) < words[i].length := by omega
        have hk2 := ho.app hk
        have e1 : ∀ K, A.app 1 (.lst (intsV (rangeI i)) ta) (some (intsV [(i : Int)])) s0 K = K (.lst (intsV (rangeI (i + 1))) (s0.nt + 3)) (appSt s0 ta 1) := fun K => by
          rw [app_own K ho (by simp [rangeI_len]; omega) (by simp), ← intsV_app, ← rangeI_succ]
        obtain ⟨s1, q⟩ := ih (i + 1) (s0.nt + 3) (appSt s0 ta 1) (by omega) (by omega) (by
          intro w hw'
          rw [List.take_add_one, List.getElem?_eq_getElem h2] at hw'
          rcases List.mem_append.1 hw' with g | g
          · exact hall w g
          · have : w = words[i] := by simpa using g
            subst this; omega) hk2.1 hk2.2 (by rw [appSt_ob]; exact hps)
        refine ⟨s1, ?_⟩
        simp only [h1', decide_false, cond_false, g6b111101001001, bslice_int1, elemsOf_ints, e1, bin_inc (show i < 9223372036854775807 by omega)]
        exact q
    · have : i = sh.length := by omega
      subst this
      have htl : sh.length = (words.take sh.length).length := by simp; omega
      have hr := route_s (st := s0) sh (rangeI sh.length) (words.take sh.length) t ta (if sh.length = words.length then tw else 0) (by omega) (by rw [rangeI_len]; omega) (fun w hw' => by have := hall w hw'; omega)
      rw [rOK_all M htl, if_pos rfl, route_all M htl] at hr
      have ep : ∀ (sh : List Int) (ws : List (List UInt8)), partsL sh (ws.take sh.length) = partsL sh ws := by
        intro sh
        induction sh with
        | nil => intro ws; simp [partsL]
        | cons s ss ih => intro ws; cases ws with
          | nil => simp [partsL]
          | cons w ws => simp [partsL, ih]
      rw [ep] at hr
      have hrg := horn_range (sh := sh) (ds := partsL sh words) (a := 0) (m := 1) hp (partsL_ok M hl) ⟨by omega, by omega⟩
      rw [Int.one_mul] at hrg
      have hfin := meets_fin (st := s0) M words t tw p hps h0 hl hwl hall
      refine ⟨s0, ?_⟩
      have ia' : ∀ K, A.iaddr 1 (.lst (intsV [horn sh (partsL sh words) 0]) 0) (.int .i64 0) K = K (.lptr [.int .i64 (horn sh (partsL sh words) 0)]) := fun K => by simpa using iaddr_ints (xs := [horn sh (partsL sh words) 0]) (i := 0) 0 (by simp) K
      simp only [lenL_lst, intsV_len, bin_lss, Int.lt_irrefl, decide_false, cond_false, g6b11111, strs_take words sh.length tw hl, er1_lst, hr, ret_ret, ext_0, ext_1, g6b111111, eql_int, if_true, bne_self_eq_false, guard_ff, List.length_singleton, show (((1 : Nat) : Int) != 1) = false from rfl, g6b11111100_8, ia', load_l1', show ¬ (horn sh (partsL sh words) 0 < 0) from by omega, g6b11111100_14, bin_geq, show ¬ (pr sh ≤ horn sh (partsL sh words) 0) from by omega]
      exact hfin
theorem shareMeets_law (sh : List Int) (words : List (List UInt8)) (x y : Int) (t tw : Nat) (hsl : sh.length ≤ 9223372036854775807) (hwl : words.length ≤ 9223372036854775807) (hw : ∀ w ∈ words, w.length ≤ 9223372036854775807) :
    ∃ st', s6 [.lst (intsV sh) t, .lst (strsV words) tw, .agg [.int .i64 x, .int .i64 y]] st = some (.ret (.bool true), st') := by
  have hB := big_le
  have hp : (st.new (.cells [.int .i64 x, .int .i64 y])).ob st.n = some (.cells [.int .i64 x, .int .i64 y]) := new_at _ _
  have hpn : st.n < (st.new (.cells [.int .i64 x, .int .i64 y])).n := by simp
  rw [s6_eq]; unfold f6
  rw [box_agg _ _ _ rfl]
  generalize st.new (.cells [.int .i64 x, .int .i64 y]) = z at hp hpn
  simp only [er1_lst, cells_s sh t hsl, ret_ret]
  cases hm : mayB sh with
  | false => exact ⟨z, by simp⟩
  | true =>
    have M := mayB_may.1 hm
    have hM := M.len
    simp only [if_true, ext_0, ext_1, eql_int, bne_self_eq_false, guard_ff, lenL_lst, intsV_len, strsV_len, bin_lss, Bool.false_eq_true, if_false]
    by_cases h0 : sh.length = 0
    · exact ⟨z, by simp [h0]⟩
    · have h0' : (((sh.length : Nat) : Int) == 0) = false := by simp; intro e; exact h0 (by rw [e]; rfl)
      by_cases h : words.length < sh.length
      · exact ⟨z, by simp [h0', h]⟩
      · have h' : ¬ ((words.length : Int) < sh.length) := by omega
        obtain ⟨s1, q⟩ := meets_loop M words t tw st.n (x := x) (y := y) (by omega) (by omega) hwl hw z hpn big 0 1 z (by omega) (by omega) (by simp) (Ks.refl z) (Own.nil _ _ _) hp
        refine ⟨s1, ?_⟩
        simp only [h0', guard_ff, h', decide_false, cond_false, g6b111]
        simpa [rangeI] using q
theorem shareMeets_row {W : World} {v0 v1 v2 : Value} {x0 x1 x2 : V} {n0 n1 n2 : Nat}
    (r0 : Rs (E0 W) [x0] [v0]) (s0 : Sh Try.prog n0 24 x0.cells) (f0 : fit Try.prog 24 x0)
    (r1 : Rs (E0 W) [x1] [v1]) (s1 : Sh Try.prog n1 36 x1.cells) (f1 : fit Try.prog 36 x1)
    (r2 : Rs (E0 W) [x2] [v2]) (s2 : Sh Try.prog n2 22 x2.cells) (f2 : fit Try.prog 22 x2) :
    Calls Try.prog 6 #[v0, v1, v2] W fun e w' => e = .returned (.bool true) ∧ Below W.heap.size W w' := by
  obtain ⟨xs, rfl, h1, _⟩ := in_ints s0 f0 Try.underlying24 Try.underlying3
  obtain ⟨zs, rfl, h3, h4⟩ := in_strs s1 f1 Try.underlying36 Try.underlying9
  obtain ⟨a, b, rfl, _, _⟩ := in_arr2 s2 f2 Try.underlying22 Try.underlying3 (by kernel_rfl)
  obtain ⟨st', hs⟩ := shareMeets_law (st := St0) xs zs a b 0 0 h1 h3 h4
  exact bool_row sim6 W _ _ _ hs (Rs.cons r0 (Rs.cons r1 r2))
end Go.Ab
