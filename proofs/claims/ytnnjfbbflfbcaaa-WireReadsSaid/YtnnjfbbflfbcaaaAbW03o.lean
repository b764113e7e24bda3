import Derived.Test.YtnnjfbbflfbcaaaAbW03n
/- Both read the same; sinewref03.Unpack. -/
namespace Go.Ab
open Go.RowKit Go.Oct
set_option linter.unusedVariables false
set_option linter.unusedSimpArgs false

theorem txtEnd_none {kind : Int} {nums : List Int} (h : 255 < kind ∨ nums.any oddN = true) (s : List UInt8) : txtEnd kind nums s = none := by
  have hs : ∀ t r, shapedW ⟨kind, nums, t, r⟩ = false := fun t r => by
    unfold shapedW
    rcases h with h | h
    · simp [h]
    · simp [h]
  unfold txtEnd
  cases listO s with
  | none => rfl
  | some e =>
    show cntEnd kind nums e.1 e.2 = none
    unfold cntEnd
    cases numO 4096 e.2 with
    | none => rfl
    | some f =>
      show rowsEnd kind nums e.1 [] f.1 f.2 = none
      unfold rowsEnd
      cases rowsO f.1 f.2 with
      | none => rfl
      | some g => simp [hs]
theorem numO_R (most : Nat) (s : List UInt8) : numO most s = (numR s).bind fun x => if x.1.toNat ≤ most then some (x.1.toNat, x.2) else none := by
  unfold numO numR
  by_cases h : (numL s).2.2 = 0
  · simp [h]
  · simp [h]
theorem numR_nat {s : List UInt8} {x : Int × List UInt8} (h : numR s = some x) : ((x.1.toNat : Nat) : Int) = x.1 ∧ 0 ≤ x.1 := by
  unfold numR at h
  split at h
  · cases h; simp
  · cases h
theorem nums_RO (kind : Int) : ∀ (k : Nat) (s : List UInt8) (acc : List Int), ((numsO k s).bind fun y => txtEnd kind (acc ++ y.1) y.2) = (numsR k s).bind fun y => txtEnd kind (acc ++ y.1) y.2
  | 0, s, acc => rfl
  | k + 1, s, acc => by
    rw [show numsR (k + 1) s = (numR s).bind fun x => (numsR k x.2).bind fun y => some (x.1 :: y.1, y.2) from rfl,
      show numsO (k + 1) s = (numO 4611686018427387903 s).bind fun x => (numsO k x.2).bind fun y => some ((x.1 : Int) :: y.1, y.2) from rfl, numO_R]
    cases hx : numR s with
    | none => rfl
    | some x =>
      obtain ⟨hx1, hx2⟩ := numR_nat hx
      simp only [Option.bind_some]
      by_cases h : x.1.toNat ≤ 4611686018427387903
      · rw [if_pos h]
        have ih := nums_RO kind k x.2 (acc ++ [x.1])
        simp only [Option.bind_some, Option.bind_assoc]
        simp only [List.append_assoc, List.cons_append, List.nil_append] at ih
        rw [hx1]
        exact ih
      · rw [if_neg h]
        have : oddN x.1 = true := by
          unfold oddN
          have : 4611686018427387903 < x.1 := by omega
          simp [this]
        show none = _
        cases numsR k x.2 with
        | none => rfl
        | some y =>
          show none = txtEnd kind (acc ++ x.1 :: y.1) y.2
          rw [txtEnd_none (.inr (by simp [this]))]
theorem rowsO_len : ∀ {k : Nat} {s : List UInt8} {g : List (List (List UInt8)) × List UInt8}, rowsO k s = some g → g.1.length = k ∧ (∀ r ∈ g.1, r.length ≤ 4096)
  | 0, s, g, h => by cases h; simp
  | k + 1, s, g, h => by
    rw [show rowsO (k + 1) s = (listO s).bind fun x => (rowsO k x.2).bind fun y => some (x.1 :: y.1, y.2) from rfl] at h
    unfold listO at h
    split at h
    · simp only [Option.bind_some] at h
      cases h1 : rowsO k (s.drop (listL s).2.1) with
      | none => rw [h1] at h; cases h
      | some y =>
        rw [h1] at h
        cases h
        obtain ⟨a, b⟩ := rowsO_len h1
        refine ⟨by simp [a], fun r hr => ?_⟩
        rcases List.mem_cons.1 hr with g | g
        · rw [g]; exact (listL_len s).1
        · exact b r g
    · cases h
theorem lens_le {m : Nat} : ∀ {l : List (List (List UInt8))}, (∀ r ∈ l, r.length ≤ m) → lens l ≤ l.length * m
  | [], _ => by simp [lens]
  | r :: l, h => by
    rw [lens_cons, List.length_cons, Nat.succ_mul]
    have := lens_le (l := l) fun x hx => h x (List.mem_cons_of_mem _ hx)
    have := h r (by simp)
    omega
theorem txt_fits (kind : Int) (nums : List Int) (s : List UInt8) : ((listO s).bind fun e => (numO 4096 e.2).bind fun f => (rowsO f.1 f.2).bind fun g => if g.2 = [] ∧ fitsW ⟨kind, nums, e.1, g.1⟩ = true then some (⟨kind, nums, e.1, g.1⟩ : Note) else none) = txtEnd kind nums s := by
  unfold txtEnd
  cases h1 : listO s with
  | none => rfl
  | some e =>
    simp only [Option.bind_some]
    unfold cntEnd
    cases h2 : numO 4096 e.2 with
    | none => rfl
    | some f =>
      simp only [Option.bind_some]
      unfold rowsEnd
      cases h3 : rowsO f.1 f.2 with
      | none => rfl
      | some g =>
        obtain ⟨a, b⟩ := rowsO_len h3
        have hf : f.1 ≤ 4096 := by
          unfold numO at h2
          split at h2
          · rename_i h; cases h2; exact h.2
          · cases h2
        have he : e.1.length ≤ 4096 := by
          unfold listO at h1
          split at h1
          · cases h1; exact (listL_len s).1
          · cases h1
        have hl := lens_le b
        have hm : g.1.length * 4096 ≤ 4096 * 4096 := Nat.mul_le_mul_right _ (by omega)
        have := fits_shaped ⟨kind, nums, e.1, g.1⟩ (by show e.1.length + lens g.1 ≤ _; omega)
        simp only [Option.bind_some, List.nil_append, this]
theorem parse_read (s : List UInt8) : parseO s = readO s := by
  unfold parseO preO readO
  simp only [Option.bind_assoc, Option.bind_some, txt_fits]
  rw [numO_R]
  cases hx : numR s with
  | none => rfl
  | some x =>
    obtain ⟨hx1, hx2⟩ := numR_nat hx
    simp only [Option.bind_some]
    have step : ∀ kind : Int, ((numO 64 x.2).bind fun b => (numsO b.1 b.2).bind fun d => txtEnd kind d.1 d.2) = (numR x.2).bind fun b => if 64 < b.1 then none else (numsR b.1.toNat b.2).bind fun y => txtEnd kind y.1 y.2 := fun kind => by
      rw [numO_R]
      cases hy : numR x.2 with
      | none => rfl
      | some y =>
        obtain ⟨hy1, hy2⟩ := numR_nat hy
        simp only [Option.bind_some]
        by_cases h : y.1.toNat ≤ 64
        · rw [if_pos h, if_neg (by omega)]
          have := nums_RO kind y.1.toNat y.2 []
          simpa using this
        · rw [if_neg h, if_pos (by omega)]; rfl
    by_cases h : x.1.toNat ≤ 255
    · rw [if_pos h]
      simp only [Option.bind_some, hx1]
      exact step x.1
    · rw [if_neg h]
      have hk : 255 < x.1 := by omega
      rw [← step x.1]
      show none = _
      cases numO 64 x.2 with
      | none => rfl
      | some b =>
        simp only [Option.bind_some]
        cases numsO b.1 b.2 with
        | none => rfl
        | some d =>
          simp only [Option.bind_some]
          rw [txtEnd_none (.inl hk)]
/-! ### sinewref03.Unpack -/
theorem runp_s (s : List UInt8) (hs : s.length ≤ 4611686018427387903) (st : St) : s12 [.str s] st = some (.ret (U3 (unpL s)), st) := by
  rw [s12_eq]
  have key : ∃ (v : V) (st' : St), f12 (.str s) st = some (.ret v, st') ∧ Ks st st' ∧ v.era = U3 (unpL s) := by
    unfold f12
    have b2 : ∀ (st : St) K, A.box (.agg [.int .i64 0, .lst [] 1, .lst [] 1, .lst [] 1]) st K = K (.ptr st.n 0) (st.new (.cells (nC 0 [] 1 [] 1 [] 1))) := fun st K => rfl
    have b4 : ∀ K, A.build [.int .i64 0, .lst [] 1, .lst [] 1, .lst [] 1] [] K = K (.agg (nC 0 [] 1 [] 1 [] 1)) := fun K => rfl
    simp only [b2, b4]
    have hk : Ks st (st.new (.cells (nC 0 [] 1 [] 1 [] 1))) := (Ks.refl st).new _
    have ho : (st.new (.cells (nC 0 [] 1 [] 1 [] 1))).ob st.n = some (.cells (nC 0 [] 1 [] 1 [] 1)) := new_at _ _
    have hlt : st.n < (st.new (.cells (nC 0 [] 1 [] 1 [] 1))).n := by simp
    generalize st.new (.cells (nC 0 [] 1 [] 1 [] 1)) = st1 at hk ho hlt
    generalize hpe : st.n = p at ho hlt
    have hp' : st.n ≤ p := by omega
    have fin : ∀ (st1 : St) (cs : List V) (n : Note) (x y : Nat), Ks st st1 → st1.ob p = some (.cells (nC 0 [] 1 [] 1 [] 1)) → cs.length = 4 → ones cs = true → (V.agg cs).er = noteV n → ∃ v st', (A.store 4 (.ptr p 0) (.agg cs) st1 fun z => A.res (rcell (A.load true 4 (.ptr p 0) z kid) (rtmp (.int .i64 (x : Nat)) (rtmp (.int .i64 (y : Nat)) (some [])))) z) = some (.ret v, st') ∧ Ks st st' ∧ v.era = U3 (n, x, y) := by
      intro st1 cs n x y hk ho h4 h1 her
      have sq : ∀ K, A.store 4 (.ptr p 0) (.agg cs) st1 K = K (st1.put p (.cells cs)) := fun K => by
        rw [store_agg, ho, obo_some]
        have hl : cs.all V.one = true := h1
        have e : Go.Ab.putL (nC 0 [] 1 [] 1 [] 1) 0 cs = cs := by
          match cs, h4 with
          | [a, b, c, d], _ => rfl
        rw [if_pos ⟨h4, by simp [nC], hl⟩, e]
      have l1 : A.load true 4 (.ptr p 0) (st1.put p (.cells cs)) kid = some (.ret (.agg cs), st1.put p (.cells cs)) := by
        rw [load_obA, put_at, obo_some, h1, _root_.cond_true, if_pos (by omega)]
        rw [List.drop_zero, List.take_of_length_le (by omega)]; rfl
      rw [sq, l1, rtmp_some, rtmp_some, rcell_some, res_two]
      refine ⟨_, _, rfl, hk.put hp' _, ?_⟩
      have : (V.agg cs).er1.er = noteV n := by
        rw [← her]
        show V.agg ((cs.map V.er0).map V.er0) = V.agg (cs.map V.er0)
        rw [List.map_map]
        congr 2
        funext v
        cases v <;> rfl
      show V.tup [(V.agg cs).er1.er, _, _] = _
      rw [this]; rfl
    have fail : ∀ (st1 : St) (y : Nat), Ks st st1 → st1.ob p = some (.cells (nC 0 [] 1 [] 1 [] 1)) → ∃ v st', (A.store 4 (.ptr p 0) (.agg (nC 0 [] 1 [] 1 [] 1)) st1 fun z => A.res (rcell (A.load true 4 (.ptr p 0) z kid) (rtmp (.int .i64 0) (rtmp (.int .i64 (y : Nat)) (some [])))) z) = some (.ret v, st') ∧ Ks st st' ∧ v.era = U3 (emptyN, 0, y) := fun st1 y hk ho => fin st1 _ emptyN 0 y hk ho rfl rfl rfl
    simp only [lenS_str, bin_lss]
    unfold unpL
    by_cases c1 : s.length < 8
    · simp only [show ((s.length : Int) < 8) from by omega, decide_true, cond_true, if_pos c1]
      exact fail st1 11 hk ho
    have h4 := of4_lt s
    simp only [show ¬ ((s.length : Int) < 8) from by omega, decide_false, cond_false, if_neg c1, er1_str, rof4_s (show 4 ≤ s.length by omega), ret_ret]
    unfold g12b111
    simp only [bin_gtr, b4, lenS_str]
    by_cases c2 : 1048576 < of4 s
    · simp only [show ((1048576 : Int) < ((of4 s : Nat) : Int)) from by omega, decide_true, cond_true, if_pos c2]
      exact fail st1 31 hk ho
    have e0 : ∀ K, A.bin .sub (.int .i64 (s.length : Nat)) (.int .i64 8) K = K (.int .i64 ((s.length - 8 : Nat) : Int)) := fun K => bin_subN s.length 8 K (by omega) (by omega)
    simp only [show ¬ ((1048576 : Int) < ((of4 s : Nat) : Int)) from by omega, decide_false, cond_false, if_neg c2, e0, bin_lss]
    unfold g12b111101
    by_cases c3 : s.length < 8 + of4 s
    · simp only [show (((s.length - 8 : Nat) : Int) < ((of4 s : Nat) : Int)) from by omega, decide_true, cond_true, if_pos c3, b4]
      exact fail st1 11 hk ho
    have e1 : ∀ K, A.bin .add (.int .i64 8) (.int .i64 (of4 s : Nat)) K = K (.int .i64 ((8 + of4 s : Nat) : Int)) := fun K => bin_addN 8 _ K (by omega)
    have e2 : ∀ K, A.sliceS (.str s) (some (.int .i64 8)) (some (.int .i64 ((8 + of4 s : Nat) : Int))) K = K (.str ((s.drop 8).take (of4 s))) := fun K => by
      have := sliceS_part (s := s) (a := 8) (b := 8 + of4 s) (by omega) (by omega) K
      rw [Nat.add_sub_cancel_left] at this
      exact this
    have e3 : ∀ K, A.sliceS (.str s) (some (.int .i64 4)) none K = K (.str (s.drop 4)) := fun K => sliceS_from (a := 4) (by omega) K
    have hbl : ((s.drop 8).take (of4 s)).length ≤ 4611686018427387903 := by simp; omega
    simp only [show ¬ (((s.length - 8 : Nat) : Int) < ((of4 s : Nat) : Int)) from by omega, decide_false, cond_false, if_neg c3]
    unfold g12b11111
    simp only [e1, e2, e3, er1_str, rof4_s (show 4 ≤ (s.drop 4).length by simp; omega), ret_ret, rsum_s _ (show ((s.drop 8).take (of4 s)).length ≤ 9223372036854775807 by omega), eql_int, if_true]
    unfold g12b11111101
    by_cases c4 : Crc.sum ((s.drop 8).take (of4 s)) ≠ of4 (s.drop 4)
    · have : (((of4 (s.drop 4) : Nat) : Int) != ((Crc.sum ((s.drop 8).take (of4 s)) : Nat) : Int)) = true := by
        simp only [bne_iff_ne, ne_eq]; omega
      simp only [this, cond_true, b4]
      rw [if_pos c4]
      exact fail st1 30 hk ho
    have c4' : (((of4 (s.drop 4) : Nat) : Int) != ((Crc.sum ((s.drop 8).take (of4 s)) : Nat) : Int)) = false := by
      have : Crc.sum ((s.drop 8).take (of4 s)) = of4 (s.drop 4) := Classical.byContradiction c4
      rw [this]; simp
    simp only [c4', cond_false]
    rw [if_neg c4]
    unfold g12b1111111
    obtain ⟨n, b, g1, g2⟩ := read_s ((s.drop 8).take (of4 s)) hbl st1
    simp only [er1_str, g1, ret_ret, ext_0, ext_1, b2]
    rw [parse_read, g2]
    have hk2 : Ks st (st1.new (.cells (nC 0 [] 1 [] 1 [] 1))) := hk.new _
    have ho2 : (st1.new (.cells (nC 0 [] 1 [] 1 [] 1))).ob p = some (.cells (nC 0 [] 1 [] 1 [] 1)) := by rw [new_ne _ _ (by omega)]; exact ho
    have hq2 : (st1.new (.cells (nC 0 [] 1 [] 1 [] 1))).ob st1.n = some (.cells (nC 0 [] 1 [] 1 [] 1)) := new_at _ _
    have hpq : p ≠ st1.n := by omega
    have hqn : st.n ≤ st1.n := hk.n
    generalize st1.new (.cells (nC 0 [] 1 [] 1 [] 1)) = st2 at hk2 ho2 hq2
    generalize st1.n = q at hq2 hpq hqn
    have sq : ∀ K, A.store 4 (.ptr q 0) (noteV n) st2 K = K (st2.put q (.cells (noteC n))) := fun K => by
      unfold noteV
      rw [store_agg, hq2, obo_some]
      simp [nC, noteC, Go.Ab.putL]
    have hk3 : Ks st (st2.put q (.cells (noteC n))) := hk2.put hqn _
    have ho3 : (st2.put q (.cells (noteC n))).ob p = some (.cells (nC 0 [] 1 [] 1 [] 1)) := by rw [put_ne _ _ hpq]; exact ho2
    simp only [sq]
    unfold g12b11111111
    simp only [un_not]
    cases b with
    | false =>
      simp only [Bool.not_false, cond_true, b4, optO, if_false, Bool.false_eq_true]
      exact fail _ 31 hk3 ho3
    | true =>
      have l1 : ∀ K, A.load true 4 (.ptr q 0) (st2.put q (.cells (noteC n))) K = K (.agg (noteC n)) (st2.put q (.cells (noteC n))) := fun K => by
        rw [load_obA, put_at, obo_some]; rfl
      simp only [Bool.not_true, cond_false, l1, e1, optO, if_true]
      exact fin _ (noteC n) n (8 + of4 s) 0 hk3 ho3 rfl rfl rfl
  obtain ⟨v, st', h1, h2, h3⟩ := key
  have := fg_of h1 h2 (by rw [h3]; simp [U3, pu_note])
  rw [h3] at this
  exact this
end Go.Ab
