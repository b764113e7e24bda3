import Derived.Test.YtnnjfbbflfbcaaaAbW03l
/- sinewref03.read. -/
namespace Go.Ab
open Go.RowKit Go.Oct
set_option linter.unusedVariables false
set_option linter.unusedSimpArgs false

structure RdSt (st0 st : St) (r q : Nat) (cs : List V) : Prop where
  ks : Ks st0 st
  hr : st0.n ≤ r
  hq : st0.n ≤ q
  rq : r ≠ q
  obr : st.ob r = some (.cells (nC 0 [] 1 [] 1 [] 1))
  obq : st.ob q = some (.cells cs)
theorem RdSt.put_q {st0 st : St} {r q : Nat} {cs : List V} (h : RdSt st0 st r q cs) (cs' : List V) : RdSt st0 (st.put q (.cells cs')) r q cs' :=
  ⟨h.ks.put h.hq _, h.hr, h.hq, h.rq, by rw [put_ne _ _ h.rq]; exact h.obr, put_at _ _ _⟩
theorem RdSt.app {st0 st : St} {r q : Nat} {cs : List V} (h : RdSt st0 st r q cs) {t : Nat} (ho : Own st0 st 1 t) : RdSt st0 (appSt st t 1) r q cs ∧ Own st0 (appSt st t 1) 1 (st.nt + 3) := by
  obtain ⟨k, o⟩ := ho.app h.ks
  exact ⟨⟨k, h.hr, h.hq, h.rq, by rw [appSt_ob]; exact h.obr, by rw [appSt_ob]; exact h.obq⟩, o⟩
theorem rd_fin {st0 st : St} {r q : Nat} {cs : List V} (h : RdSt st0 st r q cs) (b : Bool) (n : Note) (h4 : cs.length = 4) (h1 : ones cs = true) (her : (V.agg cs).er = noteV n) :
    ∃ v st', (A.store 4 (.ptr r 0) (.agg cs) st fun z => A.res (rcell (A.load true 4 (.ptr r 0) z kid) (rtmp (.bool b) (some []))) z) = some (.ret v, st') ∧ Ks st0 st' ∧ v.era = .tup [noteV n, .bool b] := by
  have sq : ∀ K, A.store 4 (.ptr r 0) (.agg cs) st K = K (st.put r (.cells cs)) := fun K => by
    rw [store_agg, h.obr, obo_some]
    have hl : cs.all V.one = true := h1
    have e : Go.Ab.putL (nC 0 [] 1 [] 1 [] 1) 0 cs = cs := by
      match cs, h4 with
      | [a, b, c, d], _ => rfl
    rw [if_pos ⟨h4, by simp [nC], hl⟩, e]
  have l1 : A.load true 4 (.ptr r 0) (st.put r (.cells cs)) kid = some (.ret (.agg cs), st.put r (.cells cs)) := by
    rw [load_obA, put_at, obo_some, h1, _root_.cond_true, if_pos (by omega)]
    rw [List.drop_zero, List.take_of_length_le (by omega)]; rfl
  rw [sq, l1, rtmp_some, rcell_some, res_two]
  refine ⟨_, _, rfl, h.ks.put h.hr _, ?_⟩
  have : (V.agg cs).er1.er = noteV n := by
    rw [← her]
    show V.agg ((cs.map V.er0).map V.er0) = V.agg (cs.map V.er0)
    rw [List.map_map]
    congr 2
    funext v
    cases v <;> rfl
  show V.tup [(V.agg cs).er1.er, _] = _
  rw [this]; rfl
theorem rd_load {st0 st : St} {r q : Nat} {cs : List V} (h : RdSt st0 st r q cs) (h4 : cs.length = 4) (h1 : ones cs = true) (K : V → St → Res) : A.load true 4 (.ptr q 0) st K = K (.agg cs) st := by
  rw [load_obA, h.obq, obo_some, h1, _root_.cond_true, if_pos (by omega), List.drop_zero, List.take_of_length_le (by omega)]
/-- What read gives behind its rows. -/
def rowsEnd (kind : Int) (nums : List Int) (texts : List (List UInt8)) (rows : List (List (List UInt8))) (d : Nat) (s : List UInt8) : Option Note :=
  (rowsO d s).bind fun g => if g.2 = [] ∧ shapedW ⟨kind, nums, texts, rows ++ g.1⟩ = true then some ⟨kind, nums, texts, rows ++ g.1⟩ else none
theorem rd_rows (s : List UInt8) (hs : s.length ≤ 4611686018427387903) (k : Nat) (hk : k ≤ 4096) (kind : Int) (nums : List Int) (t1 : Nat) (texts : List (List UInt8)) (t2 : Nat) (hn : nums.length ≤ 64) (ht : texts.length ≤ 4096) (r q : Nat) (st0 : St) : ∀ (f i at_ : Nat) (rows : List (List (List UInt8))) (t : Nat) (st : St), i ≤ k → k < f + i → at_ ≤ s.length → rows.length = i → (∀ x ∈ rows, x.length ≤ 4096) → RdSt st0 st r q (nC kind nums t1 texts t2 rows t) → Own st0 st 1 t →
    ∃ (n : Note) (b : Bool) (v : V) (st' : St), g27b11111111111111010 f (.str s) (.ptr r 0) (.ptr q 0) (.int .i64 (at_ : Nat)) (.int .i64 (k : Nat)) (.int .i64 (i : Nat)) st = some (.ret v, st') ∧ Ks st0 st' ∧ v.era = .tup [noteV n, .bool b] ∧ rowsEnd kind nums texts rows (k - i) (s.drop at_) = optO b (some n) := by
  intro f
  induction f with
  | zero => intro i at_ rows t st hi hf; omega
  | succ f ih =>
    intro i at_ rows t st hi hf hat hrl hrow h ho
    have ld := rd_load h rfl rfl
    unfold g27b11111111111111010
    by_cases hlt : i < k
    · obtain ⟨d, hd⟩ : ∃ d, k - i = d + 1 := ⟨k - i - 1, by omega⟩
      have e4 : ∀ K, A.bin .add (.int .i64 (i : Nat)) (.int .i64 1) K = K (.int .i64 ((i + 1 : Nat) : Int)) := fun K => bin_inc (by omega) K
      obtain ⟨hl1, hl2⟩ := listL_len (s.drop at_)
      simp only [bin_lss, show ((i : Int) < (k : Int)) from by omega, decide_true, cond_true, sliceS_from hat, er1_str, rlist_s _ (drop_len hs), ret_ret, L3, ext_0, ext_1, ext_2]
      unfold g27b1111111111111101001001
      simp only [eql_int, if_true, err_nz]
      unfold rowsEnd
      rw [hd]
      unfold rowsO listO
      by_cases h0 : (listL (s.drop at_)).2.2 = 0
      · have hu := hl2 h0
        simp only [List.length_drop] at hu
        have l3 : ∀ K, A.load false 1 (.ptr q 3) st K = K (.lst (rowsV rows) t) st := fun K => by simp [h.obq, nC]
        obtain ⟨a1, a2⟩ := h.app ho
        have stq : ∀ (v : List V) (u : Nat) K, A.store 1 (.ptr q 3) (.lst v u) (appSt st t 1) K = K ((appSt st t 1).put q (.cells [.int .i64 kind, .lst (intsV nums) t1, .lst (strsV texts) t2, .lst v u])) := fun v u K => by simp [a1.obq, nC]
        have e3 : ∀ K, A.bin .add (.int .i64 (at_ : Nat)) (.int .i64 ((listL (s.drop at_)).2.1 : Nat)) K = K (.int .i64 ((at_ + (listL (s.drop at_)).2.1 : Nat) : Int)) := fun K => bin_addN _ _ K (by omega)
        simp only [h0, decide_true, Bool.not_true, cond_false, faddr_ptr, Nat.zero_add, l3, bslice_strs1, elemsOf_rows]
        rw [app_own _ ho (by simp; omega) (szok_rows _)]
        simp only [stq, e3, e4]
        rw [← rowsV_app]
        have h2 : RdSt st0 ((appSt st t 1).put q (.cells (nC kind nums t1 texts t2 (rows ++ [(listL (s.drop at_)).1]) (st.nt + 3)))) r q (nC kind nums t1 texts t2 (rows ++ [(listL (s.drop at_)).1]) (st.nt + 3)) := a1.put_q _
        obtain ⟨n, b, v, st', q1, q2, q3, q4⟩ := ih (i + 1) (at_ + (listL (s.drop at_)).2.1) (rows ++ [(listL (s.drop at_)).1]) (st.nt + 3) _ (by omega) (by omega) (by omega) (by simp [hrl]) (by
          intro x hx
          rcases List.mem_append.1 hx with g | g
          · exact hrow x g
          · rw [List.mem_singleton.1 g]; exact hl1) h2 a2
        refine ⟨n, b, v, st', q1, q2, q3, ?_⟩
        rw [← q4, show k - (i + 1) = d by omega]
        unfold rowsEnd
        rw [if_pos trivial, Option.bind_some]
        simp only [List.drop_drop]
        cases rowsO d (s.drop (at_ + (listL (s.drop at_)).2.1)) with
        | none => rfl
        | some g => simp only [Option.bind_some, List.append_assoc, List.cons_append, List.nil_append]
      · simp only [h0, decide_false, Bool.not_false, cond_true, ld]
        obtain ⟨v, st', f1, f2, f3⟩ := rd_fin h false ⟨kind, nums, texts, rows⟩ rfl rfl rfl
        exact ⟨_, false, v, st', f1, f2, f3, by simp [optO]⟩
    · have hik : i = k := by omega
      subst hik
      have sm : NoteSmall ⟨kind, nums, texts, rows⟩ := ⟨hn, ht, by show rows.length ≤ 4096; omega, hrow⟩
      have er : (V.agg (nC kind nums t1 texts t2 rows t)).er1 = noteV ⟨kind, nums, texts, rows⟩ := rfl
      have hnoP : ∀ (b : Bool), (A.noP (A.store 4 (.ptr r 0) (.agg (nC kind nums t1 texts t2 rows t)) st fun s => kid (.tup []) s) fun a z => A.res (rcell (A.load true 4 (.ptr r 0) z kid) (rtmp (.bool b) (some []))) z) = (A.store 4 (.ptr r 0) (.agg (nC kind nums t1 texts t2 rows t)) st fun z => A.res (rcell (A.load true 4 (.ptr r 0) z kid) (rtmp (.bool b) (some []))) z) := fun b => by
        rw [store_agg, store_agg, h.obr, obo_some, obo_some, if_pos (by simp [nC]), if_pos (by simp [nC])]; rfl
      have hre : rowsEnd kind nums texts rows 0 (s.drop at_) = if s.drop at_ = [] ∧ shapedW ⟨kind, nums, texts, rows⟩ = true then some ⟨kind, nums, texts, rows⟩ else none := by
        unfold rowsEnd rowsO; simp
      simp only [bin_lss, Int.lt_irrefl, decide_false, cond_false, ld, lenS_str, eql_int, Bool.false_eq_true, if_false, Nat.sub_self, hre]
      by_cases ha : at_ = s.length
      · have e : (((at_ : Nat) : Int) == ((s.length : Nat) : Int)) = true := by rw [ha]; simp
        have ldv1 : ldv true 4 (.ptr q 0) st = some (.agg (nC kind nums t1 texts t2 rows t)) := by
          unfold ldv; rw [ld]; rfl
        obtain ⟨v, st', f1, f2, f3⟩ := rd_fin h (shapedW ⟨kind, nums, texts, rows⟩) ⟨kind, nums, texts, rows⟩ rfl rfl rfl
        simp only [e, guard_tt, er, shaped_s _ sm.ok, ret_ret]
        rw [show kid (V.bool (shapedW ⟨kind, nums, texts, rows⟩)) st = some (.ret (V.bool (shapedW ⟨kind, nums, texts, rows⟩)), st) from rfl]
        simp only [noP_ret, ldv1, chk_same, hnoP]
        refine ⟨_, shapedW ⟨kind, nums, texts, rows⟩, v, st', f1, f2, f3, ?_⟩
        rw [ha, List.drop_length]
        cases shapedW ⟨kind, nums, texts, rows⟩ <;> simp [optO]
      · have e : (((at_ : Nat) : Int) == ((s.length : Nat) : Int)) = false := by simp; omega
        obtain ⟨v, st', f1, f2, f3⟩ := rd_fin h false ⟨kind, nums, texts, rows⟩ rfl rfl rfl
        simp only [e, guard_ft, hnoP]
        refine ⟨_, false, v, st', f1, f2, f3, ?_⟩
        have : s.drop at_ ≠ [] := by
          intro g
          have := congrArg List.length g
          simp at this; omega
        simp [this, optO]
end Go.Ab
