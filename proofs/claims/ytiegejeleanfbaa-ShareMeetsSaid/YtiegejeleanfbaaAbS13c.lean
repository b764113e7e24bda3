import Derived.Test.YtiegejeleanfbaaAbS13b
/- sinewlaw13: loads. -/
namespace Go.Ab
open Go.RowKit Go.Proofs Sh13
set_option linter.unusedVariables false
set_option linter.unusedSimpArgs false
variable {st : St}

/-- What loads are asked of. -/
structure Ask (sh : List Int) (atoms : List (List Int)) (sizes : List Int) : Prop where
  pos : ∀ x ∈ sh, 1 ≤ x
  prod : pr sh ≤ 64
  len : sh.length ≤ 1000
  vars : ∀ a ∈ atoms, ∀ v ∈ a, 0 ≤ v ∧ v < sh.length
  size : ∀ s ∈ sizes, 0 ≤ s ∧ s ≤ 1048576
  many : atoms.length = sizes.length
  few : atoms.length ≤ 12
  short : ∀ a ∈ atoms, a.length ≤ 9223372036854775806

theorem getD_in {sh : List Int} {v : Int} (h0 : 0 ≤ v) (h : v < sh.length) : ∃ hlt : v.toNat < sh.length, sh.getD v.toNat 1 = sh[v.toNat] := by
  have hlt : v.toNat < sh.length := by omega
  exact ⟨hlt, by rw [List.getD_eq_getElem?_getD, List.getElem?_eq_getElem hlt]; rfl⟩
theorem kstep {sh a : List Int} {j : Nat} {k : Int} (hs : ∀ x ∈ sh, 1 ≤ x) (hp : pr sh ≤ 64) (hj : j < a.length) (hv : 0 ≤ a[j] ∧ a[j] < sh.length) (hk : 1 ≤ k) (he : k * restP sh 0 (a.take j) = pr sh) (hm : a[j] ∉ a.take j) :
    1 ≤ k * sh.getD a[j].toNat 1 ∧ k * sh.getD a[j].toNat 1 ≤ 64 ∧ k * sh.getD a[j].toNat 1 * restP sh 0 (a.take (j + 1)) = pr sh := by
  obtain ⟨hlt, hg⟩ := getD_in hv.1 hv.2
  have h1 : 1 ≤ sh.getD a[j].toNat 1 := by rw [hg]; exact hs _ (List.getElem_mem hlt)
  have et : a.take (j + 1) = a.take j ++ [a[j]] := by rw [List.take_add_one, List.getElem?_eq_getElem hj]; rfl
  have h2 := restP_add (l := sh) (i := 0) (v := a[j]) (seen := a.take j) hm (by omega) (by omega)
  rw [Int.sub_zero] at h2
  have e3 : k * sh.getD a[j].toNat 1 * restP sh 0 (a.take (j + 1)) = pr sh := by rw [et, Int.mul_assoc, ← h2]; exact he
  have h4 := mul_ge hk h1
  have h5 := mul_ge (show 1 ≤ k * sh.getD a[j].toNat 1 by omega) (restP_pos (l := sh) (i := 0) (seen := a.take (j + 1)) hs)
  exact ⟨by omega, by omega, e3⟩
theorem load_in {sh : List Int} {atoms : List (List Int)} {sizes : List Int} (H : Ask sh atoms sizes) (t u w : Nat) (L : V → V → V → V → V → V → St → Res) (i : Nat) (hi : i < atoms.length) (n0 : Int) (hn0 : 0 ≤ n0 ∧ n0 ≤ 12 * 1048576) (X Y : V) :
    ∀ (n j : Nat) (k : Int), j ≤ atoms[i].length → atoms[i].length < n + j → 1 ≤ k → k * restP sh 0 (atoms[i].take j) = pr sh →
    g28b110100110011010 L n (.lst (intsV sh) t) (.lst (intsV sizes) u) (.int .i64 n0) (.int .i64 (i : Nat)) (.lst (intsV atoms[i]) 0) (.int .i64 k) X Y (.int .i64 (i : Nat)) (.lst (intsV atoms[i]) 0) (.int .i64 (atoms[i].length : Nat)) (.int .i64 (j : Nat)) st
      = L (.lst (intsV sh) t) (.lst (intsV sizes) u) (.int .i64 (n0 + (sizes[i]'(by rw [← H.many]; exact hi) + kF sh (atoms[i].take j) (atoms[i].drop j) k - 1) / kF sh (atoms[i].take j) (atoms[i].drop j) k)) X Y (.int .i64 ((i + 1 : Nat) : Int)) st := by
  have hi2 : i < sizes.length := by rw [← H.many]; exact hi
  have hmem := List.getElem_mem hi
  have hsh := H.short _ hmem
  have hvs := H.vars _ hmem
  generalize hga : atoms[i] = a at *
  intro n
  induction n with
  | zero => intro j k hj hn; omega
  | succ n ih =>
    intro j k hj hn hk he
    unfold g28b110100110011010
    by_cases h : j < a.length
    · have hv := hvs a[j] (List.getElem_mem h)
      obtain ⟨hlt, hg⟩ := getD_in hv.1 hv.2
      have et : a.take (j + 1) = a.take j ++ [a[j]] := by rw [List.take_add_one, List.getElem?_eq_getElem h]; rfl
      have hc := contains_s (st := st) (a.take j) (if j = a.length then 0 else 0) a[j] (by simp; omega)
      simp only [bin_lss, show ((j : Int) < (a.length : Int)) from by omega, decide_true, cond_true, iaddr_ints _ h, load_l1', slice_ints a 0 j _ (by omega), er1_lst, er1_int, hc, ret_ret, un_not, g28b1101001100110100110011]
      rw [List.drop_eq_getElem_cons h]
      unfold kF
      by_cases hm : a[j] ∈ a.take j
      · simp only [hm, decide_true, Bool.not_true, cond_false, if_true, bin_inc (show j < 9223372036854775807 by omega)]
        rw [← et]
        exact ih (j + 1) k (by omega) (by omega) hk (by rw [et, restP_same (.inl hm)]; exact he)
      · obtain ⟨k1, k2, k3⟩ := kstep H.pos H.prod h hv hk he hm
        have ea : ∀ K, A.iaddr 1 (.lst (intsV sh) t) (.int .i64 a[j]) K = K (.lptr [.int .i64 (sh.getD a[j].toNat 1)]) := fun K => by
          have := iaddr_ints t hlt K
          rw [Int.toNat_of_nonneg hv.1] at this
          rw [this, hg]
        simp only [hm, decide_false, Bool.not_false, cond_true, if_false, ea, load_l1', bin_mul _ (show -9223372036854775808 ≤ k * sh.getD a[j].toNat 1 by omega) (show k * sh.getD a[j].toNat 1 ≤ 9223372036854775807 by omega), bin_inc (show j < 9223372036854775807 by omega)]
        rw [← et]
        exact ih (j + 1) _ (by omega) (by omega) k1 k3
    · have : j = a.length := by omega
      subst this
      have hk2 : k ≤ 64 := by
        have := mul_ge hk (restP_pos (l := sh) (i := 0) (seen := a.take a.length) H.pos)
        have := H.prod
        omega
      have hs := H.size sizes[i] (List.getElem_mem hi2)
      have hc := ceil_range hs.1 hs.2 hk
      simp only [bin_lss, Int.lt_irrefl, decide_false, cond_false, iaddr_ints u hi2, load_l1', List.drop_length, kF]
      rw [bin_add _ (by omega) (by omega), bin_sub _ (by omega) (by omega), bin_quo _ (by omega) (by omega) (by omega), bin_add _ (by omega) (by omega), bin_inc (by have := H.few; omega)]
theorem ldF_step {sh : List Int} {atoms : List (List Int)} {sizes : List Int} {i : Nat} (h1 : i < atoms.length) (h2 : i < sizes.length) (n : Int) :
    ldF sh (atoms.drop i) (sizes.drop i) n = ldF sh (atoms.drop (i + 1)) (sizes.drop (i + 1)) (n + (sizes[i] + kF sh [] atoms[i] 1 - 1) / kF sh [] atoms[i] 1) := by
  rw [List.drop_eq_getElem_cons h1, List.drop_eq_getElem_cons h2]; rfl
theorem k_ok {sh : List Int} {atoms : List (List Int)} {sizes : List Int} (H : Ask sh atoms sizes) {i : Nat} (hi : i < atoms.length) (hi2 : i < sizes.length) : 0 ≤ (sizes[i] + kF sh [] atoms[i] 1 - 1) / kF sh [] atoms[i] 1 ∧ (sizes[i] + kF sh [] atoms[i] 1 - 1) / kF sh [] atoms[i] 1 ≤ 1048576 := by
  have hk := k_range H.pos H.prod (H.vars _ (List.getElem_mem hi))
  have hs := H.size sizes[i] (List.getElem_mem hi2)
  exact ceil_range hs.1 hs.2 hk.1
theorem load_s {sh : List Int} {atoms : List (List Int)} {sizes : List Int} (H : Ask sh atoms sizes) (t u w : Nat) : s28 [.lst (intsV sh) t, .lst (intssV atoms) w, .lst (intsV sizes) u] st = some (.ret (.int .i64 (Sh13.load sh atoms sizes)), st) := by
  have hb := big_le
  have key : ∀ (n i : Nat) (n0 : Int), i ≤ atoms.length → atoms.length < n + i → 0 ≤ n0 → n0 ≤ i * 1048576 →
      g28b11010 n (.lst (intsV sh) t) (.lst (intsV sizes) u) (.int .i64 n0) (.lst (intssV atoms) w) (.int .i64 (atoms.length : Nat)) (.int .i64 (i : Nat)) st = some (.ret (.int .i64 (ldF sh (atoms.drop i) (sizes.drop i) n0)), st) := by
    intro n
    induction n with
    | zero => intro i n0 hi hn; omega
    | succ n ih =>
      intro i n0 hi hn h0 h1
      unfold g28b11010
      by_cases h : i < atoms.length
      · have h2 : i < sizes.length := by rw [← H.many]; exact h
        have hf := H.few
        have hc := k_ok H h h2
        simp only [bin_lss, show ((i : Int) < (atoms.length : Int)) from by omega, decide_true, cond_true, iaddr_intss w h, load_l1', lenL_lst, intsV_len]
        have := load_in (st := st) H t u w (g28b11010 n) i h n0 ⟨h0, by omega⟩ (.lst (intssV atoms) w) (.int .i64 (atoms.length : Nat)) big 0 1 (by omega) (by have := H.short _ (List.getElem_mem h); omega) (by omega) (by rw [List.take_zero, restP_nil, Int.one_mul])
        refine this.trans ?_
        rw [List.take_zero, List.drop_zero, ldF_step h h2]
        exact ih (i + 1) _ (by omega) (by omega) (by omega) (by push_cast; omega)
      · have : i = atoms.length := by omega
        subst this
        simp [ldF]
  rw [s28_eq]; unfold f28
  simp only [lenL_lst, intssV_len]
  exact key big 0 0 (by omega) (by have := H.few; omega) (by omega) (by omega)
theorem rload_in {sh : List Int} {atoms : List (List Int)} {sizes : List Int} (H : Ask sh atoms sizes) {v : V} (I : IntsAt st v sh) (u w : Nat) (L : V → V → V → V → V → St → Res) (i : Nat) (hi : i < atoms.length) (n0 : Int) (hn0 : 0 ≤ n0 ∧ n0 ≤ 12 * 1048576) :
    ∀ (n j : Nat) (k : Int), j ≤ atoms[i].length → atoms[i].length < n + j → 1 ≤ k → k * restP sh 0 (atoms[i].take j) = pr sh →
    g17b1101001001010 L n (v) (.lst (intssV atoms) w) (.lst (intsV sizes) u) (.int .i64 n0) (.int .i64 (i : Nat)) (.int .i64 k) (.int .i64 (j : Nat)) st
      = L (v) (.lst (intssV atoms) w) (.lst (intsV sizes) u) (.int .i64 (n0 + (sizes[i]'(by rw [← H.many]; exact hi) + kF sh (atoms[i].take j) (atoms[i].drop j) k - 1) / kF sh (atoms[i].take j) (atoms[i].drop j) k)) (.int .i64 ((i + 1 : Nat) : Int)) st := by
  have hi2 : i < sizes.length := by rw [← H.many]; exact hi
  have hmem := List.getElem_mem hi
  have hsh := H.short _ hmem
  have hvs := H.vars _ hmem
  have ia := fun K => iaddr_intss w hi K
  generalize hga : atoms[i] = a at *
  intro n
  induction n with
  | zero => intro j k hj hn; omega
  | succ n ih =>
    intro j k hj hn hk he
    unfold g17b1101001001010
    by_cases h : j < a.length
    · have hv := hvs a[j] (List.getElem_mem h)
      obtain ⟨hlt, hg⟩ := getD_in hv.1 hv.2
      have et : a.take (j + 1) = a.take j ++ [a[j]] := by rw [List.take_add_one, List.getElem?_eq_getElem h]; rfl
      have hc := in_s (st := st) (a.take j) (if j = a.length then 0 else 0) a[j] (by simp; omega)
      simp only [ia, load_l1', lenL_lst, intsV_len, bin_lss, show ((j : Int) < (a.length : Int)) from by omega, decide_true, cond_true, iaddr_ints _ h, slice_ints a 0 j _ (by omega), er1_lst, er1_int, hc, ret_ret, kid_eq, noP_ret, un_not, g17b110100100101001001]
      rw [List.drop_eq_getElem_cons h]
      unfold kF
      by_cases hm : a[j] ∈ a.take j
      · simp only [hm, decide_true, Bool.not_true, cond_false, if_true, bin_inc (show j < 9223372036854775807 by omega)]
        rw [← et]
        exact ih (j + 1) k (by omega) (by omega) hk (by rw [et, restP_same (.inl hm)]; exact he)
      · obtain ⟨k1, k2, k3⟩ := kstep H.pos H.prod h hv hk he hm
        have ea : ∀ K, (A.iaddr 1 v (.int .i64 a[j]) fun x => A.load false 1 x st K) = K (.int .i64 (sh.getD a[j].toNat 1)) st := fun K => by
          have := I.at_ _ hlt K
          rw [Int.toNat_of_nonneg hv.1] at this
          rw [this, hg]
        simp only [hm, decide_false, Bool.not_false, cond_true, if_false, ia, load_l1', iaddr_ints _ h, ea, bin_mul _ (show -9223372036854775808 ≤ k * sh.getD a[j].toNat 1 by omega) (show k * sh.getD a[j].toNat 1 ≤ 9223372036854775807 by omega), bin_inc (show j < 9223372036854775807 by omega)]
        rw [← et]
        exact ih (j + 1) _ (by omega) (by omega) k1 k3
    · have : j = a.length := by omega
      subst this
      have hk2 : k ≤ 64 := by
        have := mul_ge hk (restP_pos (l := sh) (i := 0) (seen := a.take a.length) H.pos)
        have := H.prod
        omega
      have hs := H.size sizes[i] (List.getElem_mem hi2)
      have hc := ceil_range hs.1 hs.2 hk
      simp only [ia, load_l1', lenL_lst, intsV_len, bin_lss, Int.lt_irrefl, decide_false, cond_false, iaddr_ints u hi2, List.drop_length, kF]
      rw [bin_add _ (by omega) (by omega), bin_sub _ (by omega) (by omega), bin_quo _ (by omega) (by omega) (by omega), bin_add _ (by omega) (by omega), bin_inc (by have := H.few; omega)]
theorem rload_v {sh : List Int} {atoms : List (List Int)} {sizes : List Int} (H : Ask sh atoms sizes) {v : V} (I : IntsAt st v sh) (u w : Nat) : s17 [v, .lst (intssV atoms) w, .lst (intsV sizes) u] st = some (.ret (.int .i64 (Sh13.load sh atoms sizes)), st) := by
  have hb := big_le
  have key : ∀ (n i : Nat) (n0 : Int), i ≤ atoms.length → atoms.length < n + i → 0 ≤ n0 → n0 ≤ i * 1048576 →
      g17b11010 n (v) (.lst (intssV atoms) w) (.lst (intsV sizes) u) (.int .i64 n0) (.int .i64 (i : Nat)) st = some (.ret (.int .i64 (ldF sh (atoms.drop i) (sizes.drop i) n0)), st) := by
    intro n
    induction n with
    | zero => intro i n0 hi hn; omega
    | succ n ih =>
      intro i n0 hi hn h0 h1
      unfold g17b11010
      by_cases h : i < atoms.length
      · have h2 : i < sizes.length := by rw [← H.many]; exact h
        have hf := H.few
        have hc := k_ok H h h2
        simp only [lenL_lst, intssV_len, intsV_len, bin_lss, show ((i : Int) < (atoms.length : Int)) from by omega, show ((i : Int) < (sizes.length : Int)) from by omega, decide_true, guard_tt, cond_true, g17b1101001]
        have := rload_in (st := st) H I u w (g17b11010 n) i h n0 ⟨h0, by omega⟩ big 0 1 (by omega) (by have := H.short _ (List.getElem_mem h); omega) (by omega) (by rw [List.take_zero, restP_nil, Int.one_mul])
        refine this.trans ?_
        rw [List.take_zero, List.drop_zero, ldF_step h h2]
        exact ih (i + 1) _ (by omega) (by omega) (by omega) (by push_cast; omega)
      · have : i = atoms.length := by omega
        subst this
        simp [ldF]
  rw [s17_eq]; unfold f17
  exact key big 0 0 (by omega) (by have := H.few; omega) (by omega) (by omega)
theorem rload_s {sh : List Int} {atoms : List (List Int)} {sizes : List Int} (H : Ask sh atoms sizes) (t u w : Nat) : s17 [.lst (intsV sh) t, .lst (intssV atoms) w, .lst (intsV sizes) u] st = some (.ret (.int .i64 (Sh13.load sh atoms sizes)), st) := rload_v H (intsAt_lst _ _ _) u w
end Go.Ab
