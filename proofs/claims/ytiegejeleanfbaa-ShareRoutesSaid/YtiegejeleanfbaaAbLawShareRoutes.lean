import Derived.Test.YtiegejeleanfbaaAbS13h
import Derived.Test.YtiegejeleanfbaaAbIn2
/- sinewlaw13.ShareRoutes: the cells of any words of any variables are the document's; parts, and how many cells there are. -/
namespace Go.Ab
open Go.Proofs Go.RowKit Sh13
set_option linter.unusedVariables false
set_option linter.unusedSimpArgs false
theorem routeL_len {sh vars : List Int} {words : List (List UInt8)} (h : rOK sh vars words = true) : (routeL pS sh vars words).length ≤ 64 := by
  obtain ⟨M, h1, _, h2⟩ := rOK_ok h
  rw [route_eq (fun x hx => (M.each x hx).1) (pS_nn M) h1 h2]
  refine Nat.le_trans (List.length_filter_le _ _) ?_
  rw [rangeI_len]; have := M.prod; omega
variable {st : St}
theorem routes_parts (sh : List Int) (words : List (List UInt8)) (hsl : sh.length ≤ 9223372036854775807) (hwl : words.length ≤ 9223372036854775807) (hw : ∀ w ∈ words, w.length ≤ 4096) (t tw : Nat) : ∀ (n i : Nat), i ≤ words.length → words.length < n + i →
    g5b1111111010 n (.lst (intsV sh) t) (.lst (strsV words) tw) (.int .i64 (i : Nat)) st = some (.ret (.bool true), st) := by
  intro n
  induction n with
  | zero => intro i hi hn; omega
  | succ n ih =>
    intro i hi hn
    unfold g5b1111111010
    by_cases h : i < words.length
    · by_cases h2 : i < sh.length
      · have p1 := part_s (st := st) words[i] (by have := hw _ (List.getElem_mem h); omega) sh[i]
        have p2 := rpart_s (st := st) words[i] (by have := hw _ (List.getElem_mem h); omega) sh[i]
        generalize (if sh[i] < 1 ∨ 64 < sh[i] then (0 : Int) else (Crc.sum (words[i] ++ [35]) : Int) % sh[i]) = r at p1 p2
        simp only [lenL_lst, strsV_len, intsV_len, bin_lss, show ((i : Int) < (words.length : Int)) from by omega, show ((i : Int) < (sh.length : Int)) from by omega, decide_true, guard_tt, cond_true, g5b111111101001, iaddr_strs tw h, iaddr_ints t h2, load_l1', er1_str, er1_int, p1, p2, ret_ret, kid_eq, noP_ret, ldv_lptr, chk_same, eql_int, if_true, bne_self_eq_false, cond_false, bin_inc (show i < 9223372036854775807 by omega)]
        exact ih (i + 1) (by omega) (by omega)
      · simp [h, h2]
    · simp [h]
theorem routes_fin (sh vars : List Int) (words : List (List UInt8)) (t tv tw : Nat) (hsl : sh.length ≤ 9223372036854775807) (hvl : vars.length ≤ 9223372036854775807) (hwl : words.length ≤ 9223372036854775807) (hw : ∀ w ∈ words, w.length ≤ 4096) :
    g5b11 (.lst (intsV sh) t) (.lst (intsV vars) tv) (.lst (strsV words) tw) st = some (.ret (.bool true), st) := by
  have hB := big_le
  have hw' : ∀ w ∈ words, w.length ≤ 4611686018427387900 := fun w h => by have := hw w h; omega
  have r1 := route_s (st := st) sh vars words t tv tw hsl hvl hw'
  have r2 := rroute_s (st := st) sh vars words t tv tw hsl hvl hw'
  have c1 := cells_s (st := st) sh t hsl
  have c2 := rcells_s (st := st) sh t hsl
  have p := routes_parts (st := st) sh words hsl hwl hw t tw big 0 (by omega) (by omega)
  have p' : g5b1111111010 big (.lst (intsV sh) t) (.lst (strsV words) tw) (.int .i64 0) st = some (.ret (.bool true), st) := p
  have rest : ∀ (a e : V) (A : Int), (∀ K : Bool → Res, True) → s14 [a, a] st = some (.ret (.bool true), st) → a.er1 = a → e = .int .i64 A →
      g5b1111 (.lst (intsV sh) t) (.lst (strsV words) tw) a e a e st = some (.ret (.bool true), st) := by
    intro a e A _ hs ha he
    subst he
    unfold g5b1111 g5b111111
    simp only [er1_lst, c1, c2, ret_ret]
    cases hm : mayB sh <;> simp [ha, hs, g5b11111100_10, g5b1111111, g5b111111101, p']
  unfold g5b11
  simp only [er1_lst, r1, r2, ret_ret]
  cases hr : rOK sh vars words with
  | true =>
    have hl := routeL_len hr
    have hs := same_s (st := st) (routeL pS sh vars words) (routeL pS sh vars words) 0 0 (by omega)
    rw [decide_eq_true rfl] at hs
    simp only [if_true, ext_0, ext_1]
    exact rest _ _ 0 (fun _ => trivial) hs rfl rfl
  | false =>
    have hs := same_s (st := st) [] [] 0 0 (by simp)
    rw [decide_eq_true rfl, intsV_nil] at hs
    simp only [Bool.false_eq_true, if_false, ext_0, ext_1]
    exact rest _ _ 1 (fun _ => trivial) hs rfl rfl
theorem shareRoutes_law (sh vars : List Int) (words : List (List UInt8)) (t tv tw : Nat) (hsl : sh.length ≤ 9223372036854775807) (hvl : vars.length ≤ 9223372036854775807) (hwl : words.length ≤ 9223372036854775807) (hw : ∀ w ∈ words, w.length ≤ 9223372036854775807) :
    s5 [.lst (intsV sh) t, .lst (intsV vars) tv, .lst (strsV words) tw] st = some (.ret (.bool true), st) := by
  have hB := big_le
  have key : ∀ (n i : Nat), i ≤ words.length → words.length < n + i → (∀ w ∈ words.take i, w.length ≤ 4096) →
      g5b1010 n (.lst (intsV sh) t) (.lst (intsV vars) tv) (.lst (strsV words) tw) (.int .i64 (i : Nat)) st = some (.ret (.bool true), st) := by
    intro n
    induction n with
    | zero => intro i hi hn; omega
    | succ n ih =>
      intro i hi hn hall
      unfold g5b1010
      by_cases h : i < words.length
      · have hwi := hw _ (List.getElem_mem h)
        simp only [lenL_lst, strsV_len, bin_lss, show ((i : Int) < (words.length : Int)) from by omega, decide_true, cond_true, iaddr_strs tw h, load_l1', lenS_str, bin_gtr]
        by_cases h1 : 4096 < words[i].length
        · have : (4096 : Int) < words[i].length := by omega
          simp [this]
        · have h1' : ¬ (4096 : Int) < words[i].length := by omega
          by_cases h2 : 40 < i
          · have : (40 : Int) < i := by omega
            simp [h1', this]
          · have h2' : ¬ (40 : Int) < i := by omega
            simp only [h1', h2', decide_false, guard_ff, cond_false, bin_inc (show i < 9223372036854775807 by omega)]
            refine ih (i + 1) (by omega) (by omega) ?_
            intro w hw'
            rw [List.take_add_one, List.getElem?_eq_getElem h] at hw'
            rcases List.mem_append.1 hw' with g | g
            · exact hall w g
            · have : w = words[i] := by simpa using g
              subst this; omega
      · have : i = words.length := by omega
        subst this
        rw [List.take_length] at hall
        have := routes_fin (st := st) sh vars words t tv tw hsl hvl hwl hall
        simp [this]
  rw [s5_eq]
  exact key big 0 (by omega) (by omega) (by simp)
theorem shareRoutes_row {W : World} {v0 v1 v2 : Value} {x0 x1 x2 : V} {n0 n1 n2 : Nat}
    (r0 : Rs (E0 W) [x0] [v0]) (s0 : Sh Try.prog n0 24 x0.cells) (f0 : fit Try.prog 24 x0)
    (r1 : Rs (E0 W) [x1] [v1]) (s1 : Sh Try.prog n1 24 x1.cells) (f1 : fit Try.prog 24 x1)
    (r2 : Rs (E0 W) [x2] [v2]) (s2 : Sh Try.prog n2 36 x2.cells) (f2 : fit Try.prog 36 x2) :
    Calls Try.prog 5 #[v0, v1, v2] W fun e w' => e = .returned (.bool true) ∧ Below W.heap.size W w' := by
  obtain ⟨xs, rfl, h1, _⟩ := in_ints s0 f0 Try.underlying24 Try.underlying3
  obtain ⟨ys, rfl, h2, _⟩ := in_ints s1 f1 Try.underlying24 Try.underlying3
  obtain ⟨zs, rfl, h3, h4⟩ := in_strs s2 f2 Try.underlying36 Try.underlying9
  have hs := shareRoutes_law (st := St0) xs ys zs 0 0 0 h1 h2 h3 h4
  exact bool_row sim5 W _ _ _ hs (Rs.cons r0 (Rs.cons r1 r2))
end Go.Ab
