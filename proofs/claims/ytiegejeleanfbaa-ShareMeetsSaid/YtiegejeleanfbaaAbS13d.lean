import Derived.Test.YtiegejeleanfbaaAbS13c
/- sinewlaw13: the reference's shares. -/
namespace Go.Ab
open Go.RowKit Go.Proofs Sh13
set_option linter.unusedVariables false
set_option linter.unusedSimpArgs false

theorem light_s {st : St} (atoms : List (List Int)) (t : Nat) (hl : atoms.length ≤ 9223372036854775807) (hs : ∀ a ∈ atoms, a.length ≤ 9223372036854775807) :
    ∃ b, s10 [.lst (intssV atoms) t] st = some (.ret (.bool b), st) ∧ (b = true → atoms.length ≤ 21 ∧ ∀ a ∈ atoms, a.length ≤ 20) := by
  have key : ∀ (n i : Nat), i ≤ atoms.length → i ≤ 21 → atoms.length < n + i → (∀ a ∈ atoms.take i, a.length ≤ 20) →
      ∃ b, g10b1010 n (.lst (intssV atoms) t) (.int .i64 (i : Nat)) st = some (.ret (.bool b), st) ∧ (b = true → atoms.length ≤ 21 ∧ ∀ a ∈ atoms, a.length ≤ 20) := by
    intro n
    induction n with
    | zero => intro i hi _ hn; omega
    | succ n ih =>
      intro i hi h21 hn hall
      unfold g10b1010
      by_cases h : i < atoms.length
      · by_cases h20 : 20 < i
        · exact ⟨false, by simp [h, h20, show ((20 : Int) < (i : Int)) from by omega], by simp⟩
        · simp only [lenL_lst, intssV_len, bin_lss, show ((i : Int) < (atoms.length : Int)) from by omega, decide_true, cond_true, bin_gtr, show ¬ ((20 : Int) < (i : Int)) from by omega, decide_false, guard_ff, iaddr_intss t h, load_l1', intsV_len]
          by_cases hg : 20 < atoms[i].length
          · exact ⟨false, by simp [show ((20 : Int) < (atoms[i].length : Int)) from by omega], by simp⟩
          · simp only [show ¬ ((20 : Int) < (atoms[i].length : Int)) from by omega, decide_false, cond_false, bin_inc (show i < 9223372036854775807 by omega)]
            refine ih (i + 1) (by omega) (by omega) (by omega) ?_
            intro a ha
            rw [List.take_add_one, List.getElem?_eq_getElem h] at ha
            rcases List.mem_append.1 ha with g | g
            · exact hall a g
            · have : a = atoms[i] := by simpa using g
              subst this; omega
      · have : i = atoms.length := by omega
        subst this
        refine ⟨true, by simp, fun _ => ⟨h21, ?_⟩⟩
        rw [List.take_length] at hall; exact hall
  have hb := big_le
  rw [s10_eq]
  exact key big 0 (by omega) (by omega) (by omega) (by simp)
/-- May shares be asked for? -/
def inB (v x : Int) : Bool := decide (0 ≤ x) && decide (x < v)
def szB (s : Int) : Bool := decide (0 ≤ s) && decide (s ≤ 1048576)
def askB (w v : Int) (atoms : List (List Int)) (sizes : List Int) : Bool :=
  decide (1 ≤ w ∧ w ≤ 64 ∧ 0 ≤ v ∧ v ≤ 6 ∧ atoms.length = sizes.length ∧ atoms.length ≤ 12) && (sizes.all szB && atoms.all fun a => a.all (inB v))
theorem all_drop {α : Type} (p : α → Bool) {l : List α} {i : Nat} (h : i < l.length) : (l.drop i).all p = (p l[i] && (l.drop (i + 1)).all p) := by
  rw [List.drop_eq_getElem_cons h]; rfl
theorem asks_s {st : St} (w v : Int) (atoms : List (List Int)) (sizes : List Int) (t u : Nat) (hl : atoms.length ≤ 9223372036854775807) (hl2 : sizes.length ≤ 9223372036854775807) (hs : ∀ a ∈ atoms, a.length ≤ 9223372036854775807) :
    s29 [.int .i64 w, .int .i64 v, .lst (intssV atoms) t, .lst (intsV sizes) u] st = some (.ret (.bool (askB w v atoms sizes)), st) := by
  have hb := big_le
  have inner : ∀ (L : V → V → V → V → St → Res) (i : Nat) (hi : i < atoms.length) (n j : Nat), j ≤ atoms[i].length → atoms[i].length < n + j →
      g29b110100100110 L n (.int .i64 v) (.lst (intssV atoms) t) (.lst (intsV sizes) u) (.int .i64 (i : Nat)) (.int .i64 (j : Nat)) st =
        bif (atoms[i].drop j).all (inB v) then L (.int .i64 v) (.lst (intssV atoms) t) (.lst (intsV sizes) u) (.int .i64 ((i + 1 : Nat) : Int)) st else some (.ret (.bool false), st) := by
    intro L i hi n
    have hsh := hs _ (List.getElem_mem hi)
    have ia := fun K => iaddr_intss t hi K
    generalize atoms[i] = a at hsh ia
    induction n with
    | zero => intro j hj hn; omega
    | succ n ih =>
      intro j hj hn
      unfold g29b110100100110
      by_cases h : j < a.length
      · simp only [ia, load_l1', lenL_lst, intsV_len, bin_lss, show ((j : Int) < (a.length : Int)) from by omega, decide_true, cond_true, iaddr_ints 0 h, g29b11010010011001000_9]
        rw [all_drop _ h]
        by_cases h0 : a[j] < 0
        · have : inB v a[j] = false := by simp [inB]; omega
          simp only [h0, decide_true, guard_tf, er1_bool, this, Bool.false_and, cond_false]; rfl
        · by_cases h1 : v ≤ a[j]
          · have : inB v a[j] = false := by simp [inB]; omega
            simp only [h0, decide_false, guard_ff, ia, load_l1', iaddr_ints 0 h, bin_geq, h1, decide_true, er1_bool, this, Bool.false_and]; rfl
          · have : inB v a[j] = true := by simp [inB]; omega
            simp only [h0, decide_false, guard_ff, ia, load_l1', iaddr_ints 0 h, bin_geq, h1, bin_inc (show j < 9223372036854775807 by omega), this, Bool.true_and]
            exact ih (j + 1) (by omega) (by omega)
      · have : j = a.length := by omega
        subst this
        simp only [ia, load_l1', lenL_lst, intsV_len, bin_lss, Int.lt_irrefl, decide_false, bin_inc (show i < 9223372036854775807 by omega), List.drop_length, List.all_nil]
        rfl
  have key : atoms.length = sizes.length → ∀ (n i : Nat), i ≤ atoms.length → atoms.length < n + i →
      g29b11010 n (.int .i64 v) (.lst (intssV atoms) t) (.lst (intsV sizes) u) (.int .i64 (i : Nat)) st = some (.ret (.bool ((sizes.drop i).all szB && (atoms.drop i).all fun a => a.all (inB v))), st) := by
    intro he n
    induction n with
    | zero => intro i hi hn; omega
    | succ n ih =>
      intro i hi hn
      unfold g29b11010
      by_cases h : i < atoms.length
      · have h2 : i < sizes.length := by omega
        simp only [lenL_lst, intssV_len, bin_lss, show ((i : Int) < (atoms.length : Int)) from by omega, decide_true, cond_true, iaddr_ints u h2, load_l1', bin_gtr]
        rw [all_drop _ h2, all_drop _ h]
        by_cases h0 : sizes[i] < 0
        · have : szB sizes[i] = false := by simp [szB]; omega
          simp only [h0, decide_true, guard_tf, er1_bool, this, Bool.false_and]
        · by_cases h1 : 1048576 < sizes[i]
          · have : szB sizes[i] = false := by simp [szB]; omega
            simp only [h0, decide_false, guard_ff, h1, decide_true, er1_bool, this, Bool.false_and]; rfl
          · have : szB sizes[i] = true := by simp [szB]; omega
            simp only [h0, decide_false, guard_ff, h1, g29b1101001001, this, Bool.true_and]
            have hin := inner (g29b11010 n) i h big 0 (by omega) (by have := hs _ (List.getElem_mem h); omega)
            refine hin.trans ?_
            rw [List.drop_zero]
            cases hq : atoms[i].all (inB v) with
            | true => show g29b11010 n _ _ _ _ st = _; rw [ih (i + 1) (by omega) (by omega)]; simp
            | false => simp
      · have : i = atoms.length := by omega
        subst this
        simp only [lenL_lst, intssV_len, bin_lss, Int.lt_irrefl, decide_false, List.drop_length]
        rw [he, List.drop_length]; rfl
  rw [s29_eq]; unfold f29
  unfold askB
  simp only [bin_lss, bin_gtr, g29b100_7, g29b100_15, g29b100_22, g29b11, lenL_lst, intssV_len, intsV_len, eql_int, if_true]
  have no : ∀ (c : Prop) [Decidable c] (x : Bool), ¬ c → (decide c && x) = false := fun c _ x h => by simp [h]
  by_cases h1 : w < 1
  · rw [no _ _ (by omega)]; simp [h1]
  · by_cases h2 : 64 < w
    · rw [no _ _ (by omega)]; simp [h1, h2]
    · by_cases h3 : v < 0
      · rw [no _ _ (by omega)]; simp [h1, h2, h3]
      · by_cases h4 : 6 < v
        · rw [no _ _ (by omega)]; simp [h1, h2, h3, h4]
        · by_cases h5 : atoms.length = sizes.length
          · have hne : (((atoms.length : Nat) : Int) != (sizes.length : Nat)) = false := by simp [h5]
            by_cases h6 : 12 < atoms.length
            · have h6' : (12 : Int) < atoms.length := by omega
              rw [no _ _ (by omega)]; simp only [h1, h2, h3, h4, hne, h6', decide_false, decide_true, guard_ff]; rfl
            · have h6' : ¬ (12 : Int) < atoms.length := by omega
              have hk := key h5 big 0 (by omega) (by omega)
              simp only [h1, h2, h3, h4, hne, h6', decide_false, guard_ff]
              refine Eq.trans hk ?_
              simp only [List.drop_zero]
              rw [decide_eq_true (show 1 ≤ w ∧ w ≤ 64 ∧ 0 ≤ v ∧ v ≤ 6 ∧ atoms.length = sizes.length ∧ atoms.length ≤ 12 by omega), Bool.true_and]
          · have hne : (((atoms.length : Nat) : Int) != (sizes.length : Nat)) = true := by simp; omega
            rw [no _ _ (by omega)]; simp only [h1, h2, h3, h4, hne, decide_false, guard_ff, guard_tf, er1_bool]

/-! ### all shares -/
theorem all_inner {R : Fn} {L : V → V → V → V → St → Res} {st0 : St} (s : Int) (X Y : V) (rest : List (List Int)) (hr : rest.length ≤ 1073741824) (hrl : ∀ r ∈ rest, r.length ≤ 1000) : ∀ (n i : Nat) (acc : List (List Int)) (t : Nat) (st : St), i ≤ rest.length → rest.length < n + i → acc.length + (rest.length - i) ≤ 1073741824 → Ks st0 st → Own st0 st 1 t →
    ∃ st' t', g30b1110100100110 R L n X Y (.lst (intssV acc) t) (.int .i64 s) (.lst (intssV rest) 0) (.int .i64 (i : Nat)) st = (A.bin .add (.int .i64 s) (.int .i64 1) fun a13 => L X Y (.lst (intssV (acc ++ (rest.drop i).map (s :: ·))) t') a13 st') ∧ Ks st0 st' ∧ Own st0 st' 1 t' := by
  intro n
  induction n with
  | zero => intro i acc t st hi hn; omega
  | succ n ih =>
    intro i acc t st hi hn hl hk ho
    unfold g30b1110100100110
    by_cases h : i < rest.length
    · have hk1 := (Own.full st0 st 1).app hk
      have ho1 : Own st0 (appSt st 2 1) 1 t := by
        rcases ho with g | g | ⟨k, g1, g2, g3, g4⟩
        · exact .inl g
        · exact .inr (.inl g)
        · exact .inr (.inr ⟨k, g1, g2, by rw [appSt_nt]; omega, by rw [appSt_tk _ _ _ _ (by omega) (by omega)]; exact g4⟩)
      have hk2 := ho1.app hk1.1
      have hrl' := hrl _ (List.getElem_mem h)
      obtain ⟨st', t', e, k', o'⟩ := ih (i + 1) (acc ++ [s :: rest[i]]) _ _ (by omega) (by omega) (by simp; omega) hk2.1 hk2.2
      refine ⟨st', t', ?_, k', o'⟩
      have ea : ∀ K, A.app 1 (.lst (intssV acc) t) (some [.lst (intsV (s :: rest[i])) 0]) (appSt st 2 1) K = K (.lst (intssV (acc ++ [s :: rest[i]])) ((appSt st 2 1).nt + 3)) (appSt (appSt st 2 1) t 1) := fun K => by
        rw [app_own K ho1 (by simp; omega) (by simp), intssV_app]; rfl
      have eb : ∀ K, A.app 1 (.lst (intsV [s]) 2) (some (intsV rest[i])) st K = K (.lst (intsV (s :: rest[i])) (st.nt + 3)) (appSt st 2 1) := fun K => by
        rw [app_own (st0 := st0) K (Own.full st0 st 1) (by simp; omega) (by simp), ← intsV_app]; rfl
      simp only [lenL_lst, intssV_len, bin_lss, show ((i : Int) < (rest.length : Int)) from by omega, decide_true, cond_true, bslice_int1, iaddr_intss 0 h, load_l1', elemsOf_ints, eb, bslice_lst1, elemsOf_single, ea, bin_inc (show i < 9223372036854775807 by omega), one_lst]
      rw [e, List.drop_eq_getElem_cons h, List.map_cons, List.append_assoc]; rfl
    · have : i = rest.length := by omega
      subst this
      exact ⟨st, t, by simp, hk, ho⟩
theorem allT_short : ∀ (v : Nat) (m : Int), ∀ r ∈ allT v m, r.length = v
  | 0, m, r, h => by simp [allT] at h; simp [h]
  | v + 1, m, r, h => by
    simp only [allT, allF_mem] at h
    obtain ⟨j, _, r', h1, rfl⟩ := h
    simp [allT_short v _ r' h1]
theorem allF_split {f : Int → List (List Int)} {m : Int} (k : Nat) (s : Int) : allF f m (k + 1) s = (f (m / s)).map (s :: ·) ++ allF f m k (s + 1) := rfl
theorem all_outer {R : Fn} {st0 : St} {v : Nat} {m : Int} (hv : v ≤ 5) (hm : 0 ≤ m ∧ m ≤ 64) (hcap : m.toNat ^ (v + 1) ≤ 1073741824) (hR : ∀ s, 1 ≤ s → ∀ st, R [.int .i64 (v : Nat), .int .i64 (m / s)] st = some (.ret (.lst (intssV (allT v (m / s))) 0), st)) :
    ∀ (n k : Nat) (s : Int) (acc : List (List Int)) (t : Nat) (st : St), 1 ≤ s → s + k = m + 1 → k < n → acc.length + (allF (allT v) m k s).length ≤ 1073741824 → Ks st0 st → Own st0 st 1 t →
    ∃ st' t', g30b111010 R n (.int .i64 ((v + 1 : Nat) : Int)) (.int .i64 m) (.lst (intssV acc) t) (.int .i64 s) st = some (.ret (.lst (intssV (acc ++ allF (allT v) m k s)) t'), st') ∧ Ks st0 st' ∧ Own st0 st' 1 t' := by
  intro n
  have hb := big_le
  induction n with
  | zero => intro k s acc t st _ _ hk; omega
  | succ n ih =>
    intro k s acc t st hs hsk hkn hl hk ho
    unfold g30b111010
    cases k with
    | zero =>
      have : ¬ (s ≤ m) := by omega
      exact ⟨st, t, by simp [this, allF], hk, ho⟩
    | succ k =>
      have hd := div_range hm.1 hs
      have hlen : (allT v (m / s)).length ≤ 1073741824 := by
        simp only [allF_split, List.length_append, List.length_map] at hl; omega
      have e1 : ∀ K, A.bin .sub (.int .i64 ((v + 1 : Nat) : Int)) (.int .i64 1) K = K (.int .i64 (v : Nat)) := fun K => by
        rw [bin_sub K (by omega) (by omega)]; congr 2; omega
      obtain ⟨st1, t1, q1, q2, q3⟩ := all_inner (R := R) (L := g30b111010 R n) (st0 := st0) s (.int .i64 ((v + 1 : Nat) : Int)) (.int .i64 m) (allT v (m / s)) hlen (fun r hr => by rw [allT_short _ _ r hr]; omega) big 0 acc t st (by omega) (by omega) (by simp only [allF_split, List.length_append, List.length_map] at hl; omega) hk ho
      obtain ⟨st2, t2, p1, p2, p3⟩ := ih k (s + 1) (acc ++ (allT v (m / s)).map (s :: ·)) t1 st1 (by omega) (by omega) (by omega) (by simp only [allF_split, List.length_append, List.length_map] at hl ⊢; omega) q2 q3
      refine ⟨st2, t2, ?_, p2, p3⟩
      have hle : s ≤ m := by omega
      simp only [bin_leq, hle, decide_true, cond_true, e1, bin_quo _ hm.1 (show m ≤ 9223372036854775807 by omega) (show 0 < s by omega), er1_int, hR s hs, ret_ret, er1_lst, g30b111010010011]
      rw [show ((.int .i64 0) : V) = .int .i64 ((0 : Nat) : Int) from rfl, q1, bin_add _ (by omega) (by omega), List.drop_zero, p1, allF_split, List.append_assoc]
theorem all_n : ∀ (v n : Nat) (m : Int) (st : St), v < n → v ≤ 6 → 0 ≤ m → m ≤ 64 → m.toNat ^ v ≤ 1073741824 → s30n n [.int .i64 (v : Nat), .int .i64 m] st = some (.ret (.lst (intssV (allT v m)) 0), st) := by
  intro v
  induction v with
  | zero =>
    intro n m st hn _ _ _ _
    obtain ⟨n, rfl⟩ : ∃ k, n = k + 1 := ⟨n - 1, by omega⟩
    rw [s30n_eq]
    refine fg_of (v := .lst (intssV [[]]) 2) (st' := st) ?_ (Ks.refl st) (by simp)
    unfold f30
    simp [intssV]
  | succ v ih =>
    intro n m st hn hv hm0 hm1 hcap
    obtain ⟨n, rfl⟩ : ∃ k, n = k + 1 := ⟨n - 1, by omega⟩
    rw [s30n_eq]
    have hlen := allT_len (v + 1) m hm0
    have hb := big_le
    obtain ⟨st', t', e, k', o'⟩ := all_outer (R := s30n n) (st0 := st) (v := v) (m := m) (by omega) ⟨hm0, hm1⟩ hcap (fun s hs st => by
      have hd := div_range hm0 hs
      refine ih n (m / s) st (by omega) (by omega) hd.1 (by omega) ?_
      refine Nat.le_trans (Nat.pow_le_pow_left (show (m / s).toNat ≤ m.toNat by omega) v) ?_
      by_cases h0 : m.toNat = 0
      · rw [h0]; cases v <;> simp
      · exact Nat.le_trans (Nat.pow_le_pow_right (by omega) (by omega)) hcap) big m.toNat 1 [] 1 st (by omega) (by omega) (by omega) (by simp only [List.length_nil, Nat.zero_add]; simp only [allT] at hlen; omega) (Ks.refl st) (Own.nil _ _ _)
    refine fg_of (v := .lst (intssV (allT (v + 1) m)) t') (st' := st') ?_ k' (by simp)
    unfold f30
    have hne : (((v + 1 : Nat) : Int) == 0) = false := by simp; omega
    simp only [eql_int, Bool.false_eq_true, if_false, hne, cond_false]
    exact e
theorem all_s (v : Nat) (m : Int) (st : St) (hv : v ≤ 6) (h0 : 0 ≤ m) (h1 : m ≤ 64) (hcap : m.toNat ^ v ≤ 1073741824) : s30 [.int .i64 (v : Nat), .int .i64 m] st = some (.ret (.lst (intssV (allT v m)) 0), st) := by
  have hb := big_le
  rw [s30_n]; exact all_n v big m st (by omega) hv h0 h1 hcap
end Go.Ab
