import Derived.Test.YtnnjfbbflfbcaaaAbW03k
/- sinew/wire.of; Unpack; All. -/
namespace Go.Ab
open Go.RowKit Go.Oct
set_option linter.unusedVariables false
set_option linter.unusedSimpArgs false

theorem of_s (s : List UInt8) (hs : s.length ≤ 4611686018427387903) (st : St) : ∃ (n : Note) (b : Bool), s24 [.str s] st = some (.ret (.tup [noteV n, .bool b]), st) ∧ parseO s = optO b (some n) ∧ NoteSmall n := by
  rw [s24_eq]
  have key : ∃ (n : Note) (b : Bool) (v : V) (st' : St), f24 (.str s) st = some (.ret v, st') ∧ Ks st st' ∧ v.era = .tup [noteV n, .bool b] ∧ parseO s = optO b (some n) ∧ NoteSmall n := by
    unfold f24
    have b1 : ∀ (st : St) K, A.box (.str s) st K = K (.ptr st.n 0) (st.new (.cells [.str s])) := fun st K => rfl
    have b2 : ∀ (st : St) K, A.box (.agg [.int .i64 0, .lst [] 1, .lst [] 1, .lst [] 1]) st K = K (.ptr st.n 0) (st.new (.cells (nC 0 [] 1 [] 1 [] 1))) := fun st K => rfl
    have b3 : ∀ (st : St) K, A.box (.bool false) st K = K (.ptr st.n 0) (st.new (.cells [.bool false])) := fun st K => rfl
    simp only [b1, b2, b3]
    have h0 : OfSt st (((st.new (.cells [.str s])).new (.cells (nC 0 [] 1 [] 1 [] 1))).new (.cells [.bool false])) st.n (st.n + 1) (st.n + 1 + 1) s false (nC 0 [] 1 [] 1 [] 1) :=
      ⟨(((Ks.refl st).new _).new _).new _, Nat.le_refl _, by omega, by omega, by omega, by omega, by omega,
        by simp [new_ob]; omega, by simp [new_ob], by simp [new_ob], hs⟩
    simp only [new_n]
    generalize ((st.new (.cells [.str s])).new (.cells (nC 0 [] 1 [] 1 [] 1))).new (.cells [.bool false]) = st1 at h0
    generalize st.n + 1 + 1 = c at h0
    generalize st.n + 1 = q at h0
    generalize st.n = p at h0
    have e1 : ∀ K, A.store 1 (.ptr c 0) (.bool true) st1 K = K (st1.put c (.cells [.bool true])) := fun K => by simp [h0.obc]
    simp only [e1]
    have h1 := h0.put_c true
    generalize st1.put c (.cells [.bool true]) = st2 at h1
    obtain ⟨k1, st3, s1, o1, r1, h3, q1, m1, w1, _⟩ := num_cl h1 255
    rw [show ((255 : Nat) : Int) = 255 from rfl] at r1
    rw [show V.fn 35 [] [.ptr p 0, .ptr c 0] = F35 p c from rfl, show V.fn 37 [] [.ptr p 0, .ptr c 0] = F37 p c from rfl]
    have e2 : ∀ K, A.store 1 (.ptr q 0) (.int .i64 (k1 : Nat)) st3 K = K (st3.put q (.cells (nC (k1 : Nat) [] 1 [] 1 [] 1))) := fun K => by simp [h3.obq, nC]
    simp only [call35, r1, ret_ret, faddr_ptr, Nat.zero_add, e2]
    have h4 := h3.put_q (nC (k1 : Nat) [] 1 [] 1 [] 1)
    generalize st3.put q (.cells (nC (k1 : Nat) [] 1 [] 1 [] 1)) = st4 at h4
    unfold g24b11111
    obtain ⟨k2, st5, s2, o2, r2, h5, q2, m2, w2, _⟩ := num_cl h4 64
    rw [show ((64 : Nat) : Int) = 64 from rfl] at r2
    simp only [call35, r2, ret_ret]
    obtain ⟨nums, t1, st6, s3, o3, r3, h6, q3, m3⟩ := of_nums k2 m2 (k1 : Nat) p q c st big 0 s2 o2 [] 1 st5 (by omega) (by have := big_le; omega) rfl h5 (Own.nil _ _ _)
    rw [show ((0 : Nat) : Int) = 0 from rfl] at r3
    rw [r3]
    rw [List.nil_append] at h6 m3
    unfold g24b111111
    obtain ⟨texts, t2, st7, s4, o4, r4, h7, q4, m4, w4, _⟩ := list_cl h6
    have e3 : ∀ K, A.store 1 (.ptr q 2) (.lst (strsV texts) t2) st7 K = K (st7.put q (.cells (nC (k1 : Nat) nums t1 texts t2 [] 1))) := fun K => by simp [h7.obq, nC]
    simp only [call37, r4, ret_ret, faddr_ptr, Nat.zero_add, e3]
    have h8 := h7.put_q (nC (k1 : Nat) nums t1 texts t2 [] 1)
    generalize st7.put q (.cells (nC (k1 : Nat) nums t1 texts t2 [] 1)) = st8 at h8
    obtain ⟨k5, st9, s5, o5, r5, h9, q5, m5, w5, _⟩ := num_cl h8 4096
    rw [show ((4096 : Nat) : Int) = 4096 from rfl] at r5
    simp only [call35, r5, ret_ret]
    obtain ⟨rows, v, st10, s6, o6, r6, h10, q6, sm, er⟩ := of_rows k5 m5 (k1 : Nat) nums t1 texts t2 m3 m4 p q c st big 0 s5 o5 [] 1 st9 (by omega) (by have := big_le; omega) rfl (by simp) h9 (Own.nil _ _ _)
    rw [show ((0 : Nat) : Int) = 0 from rfl] at r6
    rw [List.nil_append] at sm er
    have hp : preO s = optO o6 (some (⟨(k1 : Nat), nums, texts, rows⟩, s6)) :=
      opt_bind (a := true) q1 (opt_bind q2 (opt_bind q3 (opt_bind q4 (opt_bind q5 (opt_bind q6 rfl)))))
    refine ⟨⟨(k1 : Nat), nums, texts, rows⟩, o6 && (decide (s6 = []) && fitsW ⟨(k1 : Nat), nums, texts, rows⟩), v, st10, r6, h10, er, ?_, sm⟩
    unfold parseO
    rw [hp]
    cases o6 with
    | false => rfl
    | true =>
      simp only [optO, if_true, Option.bind_some, Bool.true_and]
      by_cases h1 : s6 = []
      · cases h2 : fitsW ⟨(k1 : Nat), nums, texts, rows⟩ <;> simp [h1]
      · simp [h1]
  obtain ⟨n, b, v, st', h1, h2, h3, h4, h5⟩ := key
  refine ⟨n, b, ?_, h4, h5⟩
  have hpu : (V.tup [noteV n, .bool b]).pu = true := by
    have a1 : V.puL (rowsV n.rows) = true := puL_of (by intro v hv; obtain ⟨x, _, rfl⟩ := List.mem_map.1 hv; simp)
    simp [noteV, noteC, a1]
  have := fg_of h1 h2 (by rw [h3]; exact hpu)
  rw [h3] at this
  exact this
/-! ### Unpack -/
def emptyN : Note := ⟨0, [], [], []⟩
/-- The note that bytes begin with, how many bytes, and the error. -/
def unpL (s : List UInt8) : Note × Nat × Nat :=
  if s.length < 8 then (emptyN, 0, 11) else
  if 1048576 < of4 s then (emptyN, 0, 31) else
  if s.length < 8 + of4 s then (emptyN, 0, 11) else
  if Crc.sum ((s.drop 8).take (of4 s)) ≠ of4 (s.drop 4) then (emptyN, 0, 30) else
  match parseO ((s.drop 8).take (of4 s)) with
  | some n => (n, 8 + of4 s, 0)
  | none => (emptyN, 0, 31)
def U3 (x : Note × Nat × Nat) : V := .tup [noteV x.1, .int .i64 (x.2.1 : Nat), .int .i64 (x.2.2 : Nat)]
theorem pu_note (n : Note) : (noteV n).pu = true := by
  have a1 : V.puL (rowsV n.rows) = true := puL_of (by intro v hv; obtain ⟨x, _, rfl⟩ := List.mem_map.1 hv; simp)
  simp [noteV, noteC, a1]
theorem noteC_empty : [V.int .i64 0, .lst [] 1, .lst [] 1, .lst [] 1] = nC 0 [] 1 [] 1 [] 1 := rfl
theorem small_empty : NoteSmall emptyN := ⟨by simp [emptyN], by simp [emptyN], by simp [emptyN], by simp [emptyN]⟩
theorem unp_s (s : List UInt8) (hs : s.length ≤ 4611686018427387903) (st : St) : s11 [.str s] st = some (.ret (U3 (unpL s)), st) ∧ NoteSmall (unpL s).1 := by
  rw [s11_eq]
  have key : ∃ (v : V) (st' : St), f11 (.str s) st = some (.ret v, st') ∧ Ks st st' ∧ v.era = U3 (unpL s) ∧ NoteSmall (unpL s).1 := by
    unfold f11
    have b2 : ∀ (st : St) K, A.box (.agg [.int .i64 0, .lst [] 1, .lst [] 1, .lst [] 1]) st K = K (.ptr st.n 0) (st.new (.cells (nC 0 [] 1 [] 1 [] 1))) := fun st K => rfl
    have b4 : ∀ K, A.build [.int .i64 0, .lst [] 1, .lst [] 1, .lst [] 1] [] K = K (.agg (nC 0 [] 1 [] 1 [] 1)) := fun K => rfl
    simp only [b2, b4]
    have hk : Ks st (st.new (.cells (nC 0 [] 1 [] 1 [] 1))) := (Ks.refl st).new _
    have hp : st.n ≤ st.n := Nat.le_refl _
    have ho : (st.new (.cells (nC 0 [] 1 [] 1 [] 1))).ob st.n = some (.cells (nC 0 [] 1 [] 1 [] 1)) := new_at _ _
    generalize st.new (.cells (nC 0 [] 1 [] 1 [] 1)) = st1 at hk ho
    generalize hpe : st.n = p at ho
    have hp' : st.n ≤ p := by omega
    -- the answer, out of the cell
    have fin : ∀ (cs : List V) (n : Note) (x y : Nat), cs.length = 4 → ones cs = true → (V.agg cs).er = noteV n → ∃ v st', (A.store 4 (.ptr p 0) (.agg cs) st1 fun z => A.res (rcell (A.load true 4 (.ptr p 0) z kid) (rtmp (.int .i64 (x : Nat)) (rtmp (.int .i64 (y : Nat)) (some [])))) z) = some (.ret v, st') ∧ Ks st st' ∧ v.era = U3 (n, x, y) := by
      intro cs n x y h4 h1 her
      have sq : ∀ K, A.store 4 (.ptr p 0) (.agg cs) st1 K = K (st1.put p (.cells cs)) := fun K => by
        rw [store_agg, ho, obo_some]
        have hl : cs.all V.one = true := h1
        have e : Go.Ab.putL (nC 0 [] 1 [] 1 [] 1) 0 cs = cs := by
          match cs, h4 with
          | [a, b, c, d], _ => rfl
        rw [if_pos ⟨h4, by simp [nC], hl⟩, e]
      have l1 : A.load true 4 (.ptr p 0) (st1.put p (.cells cs)) kid = some (.ret (.agg cs), st1.put p (.cells cs)) := by
        rw [load_obA, put_at, obo_some, h1, _root_.cond_true, if_pos (by omega)]
        rw [List.drop_zero, List.take_of_length_le (by omega)]; rfl
      rw [sq, l1, rtmp_some, rtmp_some, rcell_some, res_two]
      refine ⟨_, _, rfl, hk.put hp' _, ?_⟩
      have : (V.agg cs).er1.er = noteV n := by
        rw [← her]
        show V.agg ((cs.map V.er0).map V.er0) = V.agg (cs.map V.er0)
        rw [List.map_map]
        congr 2
        funext v
        cases v <;> rfl
      show V.tup [(V.agg cs).er1.er, _, _] = _
      rw [this]; rfl
    have fail : ∀ (y : Nat), ∃ v st', (A.store 4 (.ptr p 0) (.agg (nC 0 [] 1 [] 1 [] 1)) st1 fun z => A.res (rcell (A.load true 4 (.ptr p 0) z kid) (rtmp (.int .i64 0) (rtmp (.int .i64 (y : Nat)) (some [])))) z) = some (.ret v, st') ∧ Ks st st' ∧ v.era = U3 (emptyN, 0, y) := fun y => fin _ emptyN 0 y rfl rfl rfl
    simp only [lenS_str, bin_lss]
    unfold unpL
    by_cases c1 : s.length < 8
    · simp only [show ((s.length : Int) < 8) from by omega, decide_true, cond_true, if_pos c1]
      obtain ⟨v, st', f1, f2, f3⟩ := fail 11
      exact ⟨v, st', f1, f2, f3, small_empty⟩
    have h4 := of4_lt s
    have e1 : ∀ K, A.bin .add (.int .i64 8) (.int .i64 (of4 s : Nat)) K = K (.int .i64 ((8 + of4 s : Nat) : Int)) := fun K => bin_addN 8 _ K (by omega)
    simp only [show ¬ ((s.length : Int) < 8) from by omega, decide_false, cond_false, if_neg c1, er1_str, of4_s (show 4 ≤ s.length by omega), ret_ret, e1]
    unfold g11b111
    simp only [bin_gtr, b4, lenS_str]
    by_cases c2 : 1048576 < of4 s
    · simp only [show ((1048584 : Int) < ((8 + of4 s : Nat) : Int)) from by omega, decide_true, cond_true, if_pos c2]
      obtain ⟨v, st', f1, f2, f3⟩ := fail 31
      exact ⟨v, st', f1, f2, f3, small_empty⟩
    simp only [show ¬ ((1048584 : Int) < ((8 + of4 s : Nat) : Int)) from by omega, decide_false, cond_false, if_neg c2]
    by_cases c3 : s.length < 8 + of4 s
    · simp only [show ((s.length : Int) < ((8 + of4 s : Nat) : Int)) from by omega, decide_true, cond_true, if_pos c3]
      obtain ⟨v, st', f1, f2, f3⟩ := fail 11
      exact ⟨v, st', f1, f2, f3, small_empty⟩
    have e2 : ∀ K, A.sliceS (.str s) (some (.int .i64 8)) (some (.int .i64 ((8 + of4 s : Nat) : Int))) K = K (.str ((s.drop 8).take (of4 s))) := fun K => by
      have := sliceS_part (s := s) (a := 8) (b := 8 + of4 s) (by omega) (by omega) K
      rw [Nat.add_sub_cancel_left] at this
      exact this
    have e3 : ∀ K, A.sliceS (.str s) (some (.int .i64 4)) none K = K (.str (s.drop 4)) := fun K => sliceS_from (a := 4) (by omega) K
    have hbl : ((s.drop 8).take (of4 s)).length ≤ 4611686018427387903 := by simp; omega
    simp only [show ¬ ((s.length : Int) < ((8 + of4 s : Nat) : Int)) from by omega, decide_false, cond_false, if_neg c3, e2, e3, er1_str, sum_s _ (show ((s.drop 8).take (of4 s)).length ≤ 9223372036854775807 by omega), of4_s (show 4 ≤ (s.drop 4).length by simp; omega), ret_ret, kid, noP_ret, eql_int, if_true]
    unfold g11b1110011111
    by_cases c4 : Crc.sum ((s.drop 8).take (of4 s)) ≠ of4 (s.drop 4)
    · have : (((Crc.sum ((s.drop 8).take (of4 s)) : Nat) : Int) != ((of4 (s.drop 4) : Nat) : Int)) = true := by
        simp only [bne_iff_ne, ne_eq]; omega
      simp only [this, cond_true, b4]
      rw [if_pos c4]
      obtain ⟨v, st', f1, f2, f3⟩ := fail 30
      exact ⟨v, st', f1, f2, f3, small_empty⟩
    have c4' : (((Crc.sum ((s.drop 8).take (of4 s)) : Nat) : Int) != ((of4 (s.drop 4) : Nat) : Int)) = false := by
      have : Crc.sum ((s.drop 8).take (of4 s)) = of4 (s.drop 4) := Classical.byContradiction c4
      rw [this]; simp
    simp only [c4', cond_false]
    rw [if_neg c4]
    unfold g11b1111
    obtain ⟨n, b, g1, g2, g3⟩ := of_s ((s.drop 8).take (of4 s)) hbl st1
    simp only [e2, er1_str, g1, ret_ret, ext_0, ext_1, un_not]
    rw [g2]
    have sq : ∀ K, A.store 4 (.ptr p 0) (noteV n) st1 K = K (st1.put p (.cells (noteC n))) := fun K => by
      unfold noteV
      rw [store_agg, ho, obo_some]
      simp [nC, noteC, Go.Ab.putL]
    simp only [sq]
    unfold g11b1111101
    have fin2 : ∀ (cs : List V) (n : Note) (x y : Nat) (old : List V), old.length = 4 → cs.length = 4 → ones cs = true → (V.agg cs).er = noteV n → ∃ v st', (A.store 4 (.ptr p 0) (.agg cs) (st1.put p (.cells old)) fun z => A.res (rcell (A.load true 4 (.ptr p 0) z kid) (rtmp (.int .i64 (x : Nat)) (rtmp (.int .i64 (y : Nat)) (some [])))) z) = some (.ret v, st') ∧ Ks st st' ∧ v.era = U3 (n, x, y) := by
      intro cs n x y old hold h4 h1 her
      obtain ⟨v, st', f1, f2, f3⟩ := fin cs n x y h4 h1 her
      refine ⟨v, st', ?_, f2, f3⟩
      rw [← f1, store_agg, put_at, obo_some, store_agg, ho, obo_some]
      have hl : cs.all V.one = true := h1
      have e : ∀ old : List V, old.length = 4 → Go.Ab.putL old 0 cs = cs := fun old ho => by
        match old, ho, cs, h4 with
        | [_, _, _, _], _, [a, b, c, d], _ => rfl
      rw [if_pos ⟨h4, by omega, hl⟩, if_pos ⟨h4, by simp [nC], hl⟩, e _ hold, e _ rfl, put_put]
    cases b with
    | false =>
      simp only [Bool.not_false, cond_true, b4, optO, if_false, Bool.false_eq_true]
      obtain ⟨v, st', f1, f2, f3⟩ := fin2 (nC 0 [] 1 [] 1 [] 1) emptyN 0 31 (noteC n) rfl rfl rfl rfl
      exact ⟨v, st', f1, f2, f3, small_empty⟩
    | true =>
      have l1 : ∀ K, A.load true 4 (.ptr p 0) (st1.put p (.cells (noteC n))) K = K (.agg (noteC n)) (st1.put p (.cells (noteC n))) := fun K => by
        rw [load_obA, put_at, obo_some]; rfl
      simp only [Bool.not_true, cond_false, l1, optO, if_true]
      obtain ⟨v, st', f1, f2, f3⟩ := fin2 (noteC n) n (8 + of4 s) 0 (noteC n) rfl rfl rfl rfl
      exact ⟨v, st', f1, f2, f3, g3⟩
  obtain ⟨v, st', h1, h2, h3, h4⟩ := key
  refine ⟨?_, h4⟩
  have := fg_of h1 h2 (by rw [h3]; simp [U3, pu_note])
  rw [h3] at this
  exact this
end Go.Ab
