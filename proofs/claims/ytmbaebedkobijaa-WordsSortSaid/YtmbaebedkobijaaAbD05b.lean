import Derived.Test.YtmbaebedkobijaaAbD05a
/- sinew/words: Sorted; awake. -/
namespace Go.Ab
open Go.Proofs Go.RowKit
set_option linter.unusedVariables false
set_option linter.unusedSimpArgs false
set_option maxRecDepth 100000
def nsV (ks : List Nat) : List V := ks.map fun (k : Nat) => V.int .i64 (k : Nat)
theorem nsV_len (ks : List Nat) : (nsV ks).length = ks.length := by simp [nsV]
theorem natsV_ns (ks : List Nat) : natsV (nsV ks) = some ks := by
  induction ks with
  | nil => rfl
  | cons k ks ih =>
    show (match natsV (nsV ks) with | some l => some (k :: l) | none => none) = _
    rw [ih]
theorem textsV_strs (ws : List (List UInt8)) : textsV (strsV ws) = some ws := by
  induction ws with
  | nil => rfl
  | cons k ks ih =>
    show (match textsV (strsV ks) with | some l => some (k :: l) | none => none) = _
    rw [ih]
theorem ns_all (ks : List Nat) : (nsV ks).all V.one = true := by
  rw [List.all_eq_true]; intro v hv; obtain ⟨k, _, rfl⟩ := List.mem_map.1 hv; rfl
theorem flat_ns (ks : List Nat) : flat (nsV ks) = nsV ks := (flat_ones (List.all_eq_true.1 (ns_all ks))).1
/-- Numbers that may be turned. -/
def SlAt (st0 st : St) (v : V) (ks : List Nat) : Prop := (v = .lst [] 1 ∧ ks = []) ∨ ∃ id, v = .sl id 0 ks.length 1 ∧ st.ob id = some (.cells (nsV ks)) ∧ st0.n ≤ id ∧ id < st.n ∧ ks ≠ []
theorem slat_len {st0 st : St} {v : V} {ks : List Nat} (h : SlAt st0 st v ks) (K : V → Res) : A.lenL v K = K (.int .i64 (ks.length : Nat)) := by
  rcases h with ⟨rfl, rfl⟩ | ⟨id, rfl, _⟩ <;> rfl
theorem slat_er {st0 st : St} {v : V} {ks : List Nat} (h : SlAt st0 st v ks) : v.er1 = v := by
  rcases h with ⟨rfl, rfl⟩ | ⟨id, rfl, _⟩ <;> rfl
theorem slat_at {st0 st : St} {v : V} {ks : List Nat} (h : SlAt st0 st v ks) {i : Nat} (hi : i < ks.length) (K : V → St → Res) : (A.iaddr 1 v (.int .i64 (i : Nat)) fun a => A.load false 1 a st K) = K (.int .i64 ((ks[i] : Nat) : Int)) st := by
  rcases h with ⟨rfl, rfl⟩ | ⟨id, rfl, h1, _⟩
  · simp at hi
  · have : A.iaddr 1 (.sl id 0 ks.length 1) (.int .i64 (i : Nat)) (fun a => A.load false 1 a st K) = A.load false 1 (.ptr id i) st K := by
      simp [A.iaddr, hi]
    rw [this]
    simp [h1, nsV, hi]
theorem app_sl {st0 st : St} {v : V} {ks : List Nat} (h : SlAt st0 st v ks) (hk : Ks st0 st) (hl : ks.length ≤ 100000) (k : Nat) (K : V → St → Res) :
    ∃ st' v', A.appM 1 v (some (intsV [(k : Int)])) st K = K v' st' ∧ SlAt st0 st' v' (ks ++ [k]) ∧ Ks st0 st' := by
  rcases h with ⟨rfl, rfl⟩ | ⟨id, rfl, h1, h2, h3, h4⟩
  · refine ⟨st.new (.cells (nsV [k])), .sl st.n 0 1 1, ?_, .inr ⟨st.n, rfl, new_at _ _, hk.n, by simp, by simp⟩, hk.new _⟩
    simp [A.appM, szok, flat, V.cells, nsV, intsV]
  · refine ⟨(st.del id).new (.cells (nsV (ks ++ [k]))), .sl st.n 0 (ks.length + 1) 1, ?_, .inr ⟨st.n, by simp, ?_, hk.n, by simp, by simp⟩, (hk.del h2).new _⟩
    · have hal : ((nsV ks).take (ks.length * 1)).all V.one = true := by rw [Nat.mul_one, List.take_of_length_le (by rw [nsV_len]; exact Nat.le_refl _)]; exact ns_all ks
      have htk : (nsV ks).take (ks.length * 1) = nsV ks := by rw [Nat.mul_one, List.take_of_length_le (by rw [nsV_len]; exact Nat.le_refl _)]
      unfold A.appM
      simp only [h1]
      rw [if_pos ⟨by simp [intsV]; omega, trivial, trivial, by rw [nsV_len]; omega, .inr (by simp [intsV]), hal⟩, htk]
      congr 1
      simp [nsV, flat, intsV, V.cells]
    · have := new_at (st.del id) (.cells (nsV (ks ++ [k])))
      simpa using this
theorem sorted_loop {st0 : St} {d mid t c : Nat} {ws : List (List UInt8)} (hob : st0.ob d = some (.cells [.map mid, .lst (strsV ws) t])) (hc : st0.ob c = some (.cells [.ptr d 0])) (hdl : d < st0.n) (hcl : c < st0.n) (hu : ws.Nodup) (hl : ws.length ≤ 100000) : ∀ (f i : Nat) (v : V) (st : St), i ≤ ws.length → ws.length < f + i → SlAt st0 st v (List.range i) → Ks st0 st →
    ∃ st' v', g13b111010 f (.ptr c 0) v (.int .i64 (ws.length : Nat)) (.int .i64 (i : Nat)) st = some (.ret v', st') ∧ SlAt st0 st' v' (sortW ws (List.range ws.length)) ∧ Ks st0 st' := by
  intro f
  induction f with
  | zero => intro i v st hi hf; omega
  | succ f ih =>
    intro i v st hi hf hs hk
    unfold g13b111010
    by_cases h : i < ws.length
    · have bs : ∀ K, A.bslice 1 (.int .i64 0) 1 [(0, .int .i64 (i : Nat))] K = K (.lst (intsV [(i : Int)]) 2) := fun K => rfl
      have e4 : ∀ K, A.bin .add (.int .i64 (i : Nat)) (.int .i64 1) K = K (.int .i64 ((i + 1 : Nat) : Int)) := fun K => bin_inc (by omega) K
      simp only [bin_lss, show ((i : Int) < (ws.length : Int)) from by omega, decide_true, cond_true, bs, elemsOf_ints]
      obtain ⟨st1, v1, q1, q2, q3⟩ := app_sl hs hk (by simp; omega) i (fun a3 z4 => A.bin .add (.int .i64 (i : Nat)) (.int .i64 1) fun a5 => g13b111010 f (.ptr c 0) a3 (.int .i64 (ws.length : Nat)) a5 z4)
      rw [q1, e4]
      exact ih (i + 1) v1 st1 (by omega) (by omega) (by rw [List.range_succ]; exact q2) q3
    · have : i = ws.length := by omega
      subst this
      simp only [bin_lss, Int.lt_irrefl, decide_false, cond_false]
      rw [slat_er hs, er1_fn, sort_s]
      rcases hs with ⟨rfl, h0⟩ | ⟨id, rfl, h1, h2, h3, h4⟩
      · rw [h0]
        exact ⟨st, .lst [] 1, rfl, .inl ⟨rfl, rfl⟩, hk⟩
      · have hn : (List.range ws.length).length = ws.length := by simp
        have hpos : 0 < ws.length := by
          rcases Nat.eq_zero_or_pos ws.length with g | g
          · rw [g] at h4; exact absurd rfl h4
          · exact g
        have e : sortA st id ws.length c = some (nsV (sortW ws (List.range ws.length))) := by
          unfold sortA
          rw [h1, hk.ob c hcl, hc]
          simp only
          rw [hk.ob d hdl, hob]
          simp only [natsV_ns, textsV_strs]
          rw [if_pos ⟨by rw [nsV_len, hn], hpos, by omega, by omega, by simp, hu, by omega, by omega⟩]
          rfl
        rw [hn]
        have ea : a24 [.sl id 0 ws.length 1, .fn 25 [] [.ptr c 0]] st = some (.ret (.tup []), st.put id (.cells (nsV (sortW ws (List.range ws.length))))) := by
          unfold a24; simp only [e]
        rw [ea]
        have hsl : (sortW ws (List.range ws.length)).length = ws.length := by rw [(sortW_perm _ _).length_eq, hn]
        refine ⟨st.put id (.cells (nsV (sortW ws (List.range ws.length)))), .sl id 0 ws.length 1, rfl, .inr ⟨id, by rw [hsl], put_at _ _ _, h2, by rw [put_n]; exact h3, ?_⟩, hk.put h2 _⟩
        intro g
        rw [g] at hsl; simp at hsl; omega
theorem sorted_s {st : St} {d mid t : Nat} {ws : List (List UInt8)} (h : DAt st d mid t ws) (hu : ws.Nodup) (hl : ws.length ≤ 100000) :
    ∃ st' v', s13 [.ptr d 0] st = some (.ret v', st') ∧ SlAt st st' v' (sortW ws (List.range ws.length)) ∧ Ks st st' := by
  rw [s13_eq]
  unfold f13
  have bx : ∀ K, A.box (.ptr d 0) st K = K (.ptr st.n 0) (st.new (.cells [.ptr d 0])) := fun K => rfl
  have k1 := (Ks.refl st).new (.cells [.ptr d 0])
  have o1 := new_at st (.cells [.ptr d 0])
  have hn : (st.new (.cells [.ptr d 0])).n = st.n + 1 := by simp
  have h' : DAt (st.new (.cells [.ptr d 0])) d mid t ws := by
    refine ⟨by rw [new_ne _ _ (by have := h.lt; omega)]; exact h.ob, by rw [new_ne _ _ (by have := h.mlt; omega)]; exact h.mob, by have := h.lt; omega, by have := h.mlt; omega, h.ne, ?_⟩
    rcases h.own with g | g | ⟨k, g1, g2, g3⟩
    · exact .inl g
    · exact .inr (.inl g)
    · exact .inr (.inr ⟨k, g1, by simpa using g2, by simpa using g3⟩)
  have ld : ∀ K, A.load false 1 (.ptr st.n 0) (st.new (.cells [.ptr d 0])) K = K (.ptr d 0) (st.new (.cells [.ptr d 0])) := fun K => by simp [o1]
  obtain ⟨l0, l1⟩ := h'.ld
  simp only [bx, ld, er1_ptr, given_s h', ret_ret, un_not, Bool.not_true, cond_false, nilc_ptr, faddr_ptr, Nat.zero_add, l1, lenL_lst, strsV_len]
  unfold g13b11101
  obtain ⟨st', v', q1, q2, q3⟩ := sorted_loop (c := st.n) h'.ob o1 (by have := h'.lt; exact this) (by omega) hu hl big 0 (.lst [] 1) _ (by omega) (lt_big (by omega)) (.inl ⟨rfl, rfl⟩) (Ks.refl _)
  refine ⟨st', v', q1, ?_, k1.trans q3⟩
  rcases q2 with g | ⟨id, g1, g2, g3, g4, g5⟩
  · exact .inl g
  · exact .inr ⟨id, g1, g2, by omega, g4, g5⟩
theorem dat_ks {st st' : St} {d mid t : Nat} {ws : List (List UInt8)} (h : DAt st d mid t ws) (k : Ks st st') : DAt st' d mid t ws := by
  refine ⟨by rw [k.ob _ h.lt]; exact h.ob, by rw [k.ob _ h.mlt]; exact h.mob, Nat.lt_of_lt_of_le h.lt k.n, Nat.lt_of_lt_of_le h.mlt k.n, h.ne, ?_⟩
  rcases h.own with g | g | ⟨j, g1, g2, g3⟩
  · exact .inl g
  · exact .inr (.inl g)
  · exact .inr (.inr ⟨j, g1, Nat.lt_of_lt_of_le g2 k.nt, by rw [k.tk _ g2]; exact g3⟩)
theorem awake_s (st : St) : ∃ st', s16 [] st = some (.ret (.bool true), st') := by
  rw [s16_eq]
  unfold f16
  have h0 := new_at_d st
  have w1 : putW [] [98, 111, 98] = ([[98, 111, 98]], 0, 0) := by decide
  have w2 : putW [[98, 111, 98]] [97, 110, 110] = ([[98, 111, 98], [97, 110, 110]], 1, 0) := by decide
  obtain ⟨st1, t1, a1, a2, a3⟩ := put_s h0 (by simp) [98, 111, 98]
  rw [w1] at a1 a2
  dsimp only at a1 a2
  obtain ⟨st2, t2, b1, b2, b3⟩ := put_s a2 (by simp) [97, 110, 110]
  rw [w2] at b1 b2
  dsimp only at b1 b2
  obtain ⟨st3, v, c1, c2, c3⟩ := sorted_s b2 (by decide) (by simp)
  have hs : sortW [[98, 111, 98], [97, 110, 110]] (List.range ([[98, 111, 98], [97, 110, 110]] : List (List UInt8)).length) = [1, 0] := by decide
  rw [hs] at c2
  simp only [new_s, ret_ret, eql_ptr, cond_false, er1_ptr, er1_str, a1, ext_0, ext_1]
  unfold g16b1111
  simp only [er1_ptr, er1_str, b1, ret_ret, ext_0, ext_1, c1, eql_int, Bool.false_eq_true, if_false, Int.natCast_zero, beq_self_eq_true, guard_tt]
  unfold g16b1111110_7
  simp only [guard_tt, eql_int, Bool.false_eq_true, if_false, show (((1 : Nat) : Int) == 1) = true from rfl, beq_self_eq_true]
  unfold g16b1111110_15
  have i0 := fun K => slat_at c2 (show 0 < 2 by omega) K
  have i1 := fun K => slat_at c2 (show 1 < 2 by omega) K
  simp only [guard_tt, slat_len c2, List.length_cons, List.length_nil, eql_int, Bool.false_eq_true, if_false, show (((0 + 1 + 1 : Nat) : Int) == 2) = true from rfl]
  rw [show ((0 : Nat) : Int) = 0 from rfl] at i0
  rw [show ((1 : Nat) : Int) = 1 from rfl] at i1
  rw [i0]
  simp only [eql_int, Bool.false_eq_true, if_false, List.getElem_cons_zero, show (((1 : Nat) : Int) == 1) = true from rfl]
  unfold g16b1111110_26
  simp only [guard_tt]
  rw [i1]
  exact ⟨st3, rfl⟩
end Go.Ab
