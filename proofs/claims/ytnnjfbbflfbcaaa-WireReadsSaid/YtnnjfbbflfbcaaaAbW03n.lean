import Derived.Test.YtnnjfbbflfbcaaaAbW03m
/- sinewref03.read, whole. -/
namespace Go.Ab
open Go.RowKit Go.Oct
set_option linter.unusedVariables false
set_option linter.unusedSimpArgs false

def cntEnd (kind : Int) (nums : List Int) (texts : List (List UInt8)) (s : List UInt8) : Option Note := (numO 4096 s).bind fun f => rowsEnd kind nums texts [] f.1 f.2
def txtEnd (kind : Int) (nums : List Int) (s : List UInt8) : Option Note := (listO s).bind fun e => cntEnd kind nums e.1 e.2
def numR (s : List UInt8) : Option (Int × List UInt8) := if (numL s).2.2 = 0 then some (((numL s).1 : Int), s.drop (numL s).2.1) else none
def numsR : Nat → List UInt8 → Option (List Int × List UInt8)
  | 0, s => some ([], s)
  | k + 1, s => (numR s).bind fun x => (numsR k x.2).bind fun y => some (x.1 :: y.1, y.2)
/-- What a step of read comes to. -/
def RdOut (st0 : St) (x : Res) (o : Option Note) : Prop := ∃ (n : Note) (b : Bool) (v : V) (st' : St), x = some (.ret v, st') ∧ Ks st0 st' ∧ v.era = .tup [noteV n, .bool b] ∧ o = optO b (some n)
theorem rd_fail {st0 st : St} {r q : Nat} {kind : Int} {nums : List Int} {t1 : Nat} {texts : List (List UInt8)} {t2 : Nat} (h : RdSt st0 st r q (nC kind nums t1 texts t2 [] 1)) {o : Option Note} (ho : o = none) :
    RdOut st0 (A.load true 4 (.ptr q 0) st fun a z => A.store 4 (.ptr r 0) a z fun z => A.res (rcell (A.load true 4 (.ptr r 0) z kid) (rtmp (.bool false) (some []))) z) o := by
  rw [rd_load h rfl rfl]
  obtain ⟨v, st', f1, f2, f3⟩ := rd_fin h false ⟨kind, nums, texts, []⟩ rfl rfl rfl
  exact ⟨_, false, v, st', f1, f2, f3, by rw [ho]; rfl⟩
theorem rd_cnt (s : List UInt8) (hs : s.length ≤ 4611686018427387903) {st0 st : St} {r q : Nat} {kind : Int} {nums : List Int} {t1 : Nat} {texts : List (List UInt8)} {t2 : Nat} (hn : nums.length ≤ 64) (ht : texts.length ≤ 4096) (h : RdSt st0 st r q (nC kind nums t1 texts t2 [] 1)) (at_ : Nat) (hat : at_ ≤ s.length) :
    RdOut st0 (g27b11111111111 (.str s) (.ptr r 0) (.ptr q 0) (.int .i64 (at_ : Nat)) st) (cntEnd kind nums texts (s.drop at_)) := by
  unfold g27b11111111111
  simp only [sliceS_from hat, er1_str, rnum_s _ (drop_len hs), ret_ret, N3, ext_0, ext_1, ext_2]
  unfold g27b111111111111
  simp only [eql_int, if_true, err_nz]
  unfold cntEnd numO
  by_cases h0 : (numL (s.drop at_)).2.2 = 0
  · have hu := numL_used h0
    simp only [List.length_drop] at hu
    simp only [h0, decide_true, Bool.not_true, guard_ff, bin_gtr]
    by_cases h1 : (numL (s.drop at_)).1 ≤ 4096
    · simp only [show ¬ ((4096 : Int) < ((numL (s.drop at_)).1 : Int)) from by omega, decide_false, cond_false]
      unfold g27b1111111111111
      have e3 : ∀ K, A.bin .add (.int .i64 (at_ : Nat)) (.int .i64 ((numL (s.drop at_)).2.1 : Nat)) K = K (.int .i64 ((at_ + (numL (s.drop at_)).2.1 : Nat) : Int)) := fun K => bin_addN _ _ K (by omega)
      simp only [e3]
      obtain ⟨n, b, v, st', q1, q2, q3, q4⟩ := rd_rows s hs (numL (s.drop at_)).1 h1 kind nums t1 texts t2 hn ht r q st0 big 0 (at_ + (numL (s.drop at_)).2.1) [] 1 st (by omega) (by have := big_le; omega) (by omega) rfl (by simp) h (Own.nil _ _ _)
      refine ⟨n, b, v, st', q1, q2, q3, ?_⟩
      rw [← q4, if_pos ⟨trivial, h1⟩, Option.bind_some, List.drop_drop, Nat.sub_zero]
    · simp only [show ((4096 : Int) < ((numL (s.drop at_)).1 : Int)) from by omega, decide_true, cond_true]
      exact rd_fail h (by simp [h1])
  · simp only [h0, decide_false, Bool.not_false, guard_tf]
    exact rd_fail h (by simp)
theorem rd_txt (s : List UInt8) (hs : s.length ≤ 4611686018427387903) {st0 st : St} {r q : Nat} (L : List Int) (a b : Int) (l : List Int) (hL : L = a :: b :: l) (hl : l.length ≤ 64) {t : Nat} (h : RdSt st0 st r q (nC 0 [] 1 [] 1 [] 1)) (at_ : Nat) (hat : at_ ≤ s.length) :
    RdOut st0 (g27b11111 (.str s) (.ptr r 0) (.ptr q 0) (.int .i64 (at_ : Nat)) (.lst (intsV L) t) st) (txtEnd a l (s.drop at_)) := by
  subst hL
  unfold g27b11111
  have i0 : ∀ K, A.iaddr 1 (.lst (intsV (a :: b :: l)) t) (.int .i64 0) K = K (.lptr [.int .i64 a]) := fun K => iaddr_ints (i := 0) t (by simp) K
  have s2 : ∀ K, A.slice 1 (.lst (intsV (a :: b :: l)) t) (some (.int .i64 2)) none none K = K (.lst (intsV l) t) := fun K => slice_from (intsV (a :: b :: l)) t 1 2 K (by simp) (szok_ints _)
  have e1 : ∀ K, A.store 1 (.ptr q 0) (.int .i64 a) st K = K (st.put q (.cells (nC a [] 1 [] 1 [] 1))) := fun K => by simp [h.obq, nC]
  have h1 := h.put_q (nC a [] 1 [] 1 [] 1)
  have e2 : ∀ K, A.store 1 (.ptr q 1) (.lst (intsV l) t) (st.put q (.cells (nC a [] 1 [] 1 [] 1))) K = K (st.put q (.cells (nC a l t [] 1 [] 1))) := fun K => by simp [h1.obq, nC]
  simp only [i0, load_l1', faddr_ptr, Nat.zero_add, e1, s2, e2, sliceS_from hat, er1_str, rlist_s _ (drop_len hs), ret_ret, L3, ext_0, ext_1, ext_2]
  have h2 := h.put_q (nC a l t [] 1 [] 1)
  unfold g27b11111111
  simp only [eql_int, if_true, err_nz]
  unfold txtEnd listO
  obtain ⟨hl1, hl2⟩ := listL_len (s.drop at_)
  by_cases h0 : (listL (s.drop at_)).2.2 = 0
  · have hu := hl2 h0
    simp only [List.length_drop] at hu
    have e3 : ∀ K, A.store 1 (.ptr q 2) (.lst (strsV (listL (s.drop at_)).1) 0) (st.put q (.cells (nC a l t [] 1 [] 1))) K = K (st.put q (.cells (nC a l t (listL (s.drop at_)).1 0 [] 1))) := fun K => by simp [h2.obq, nC]
    have e4 : ∀ K, A.bin .add (.int .i64 (at_ : Nat)) (.int .i64 ((listL (s.drop at_)).2.1 : Nat)) K = K (.int .i64 ((at_ + (listL (s.drop at_)).2.1 : Nat) : Int)) := fun K => bin_addN _ _ K (by omega)
    simp only [h0, decide_true, Bool.not_true, cond_false, faddr_ptr, Nat.zero_add, e3, e4]
    have h3 := h.put_q (nC a l t (listL (s.drop at_)).1 0 [] 1)
    obtain ⟨n, b, v, st', q1, q2, q3, q4⟩ := rd_cnt s hs hl hl1 h3 (at_ + (listL (s.drop at_)).2.1) (by omega)
    refine ⟨n, b, v, st', q1, q2, q3, ?_⟩
    rw [← q4, if_pos trivial, Option.bind_some, List.drop_drop]
  · simp only [h0, decide_false, Bool.not_false, cond_true]
    exact rd_fail h2 (by simp)
/-- One number more. -/
theorem rd_step (s : List UInt8) (hs : s.length ≤ 4611686018427387903) {st0 st : St} {r q : Nat} (L : List Int) (hL : L.length ≤ 100) (want : Nat) (hw : L.length < want) {t : Nat} (h : RdSt st0 st r q (nC 0 [] 1 [] 1 [] 1)) (ho : Own st0 st 1 t) (at_ : Nat) (hat : at_ ≤ s.length) (f : Nat) (o : Option Note) (F : Int × List UInt8 → Option Note) (hF : o = (numR (s.drop at_)).bind F)
    (next : ∀ (x at2 : Nat) (u : Nat) (st2 : St), at2 ≤ s.length → RdSt st0 st2 r q (nC 0 [] 1 [] 1 [] 1) → Own st0 st2 1 u → o = F ((x : Int), s.drop at2) →
      x < 9223372036854775808 → RdOut st0 (g27b11110100101111 (g27b1111010 f) (.str s) (.ptr r 0) (.ptr q 0) (.int .i64 (at2 : Nat)) (.lst (intsV (L ++ [(x : Int)])) u) (.int .i64 (want : Nat)) (.int .i64 (x : Nat)) st2) o) :
    RdOut st0 (g27b1111010 (f + 1) (.str s) (.ptr r 0) (.ptr q 0) (.int .i64 (at_ : Nat)) (.lst (intsV L) t) (.int .i64 (want : Nat)) st) o := by
  unfold g27b1111010
  simp only [lenL_lst, intsV_len, bin_lss, show ((L.length : Int) < (want : Int)) from by omega, decide_true, cond_true, sliceS_from hat, er1_str, rnum_s _ (drop_len hs), ret_ret, N3, ext_0, ext_1, ext_2]
  unfold g27b11110100101
  simp only [eql_int, if_true, err_nz]
  by_cases h0 : (numL (s.drop at_)).2.2 = 0
  · have hu := numL_used h0
    have hlt := numL_lt h0
    simp only [List.length_drop] at hu
    have e3 : ∀ K, A.bin .add (.int .i64 (at_ : Nat)) (.int .i64 ((numL (s.drop at_)).2.1 : Nat)) K = K (.int .i64 ((at_ + (numL (s.drop at_)).2.1 : Nat) : Int)) := fun K => bin_addN _ _ K (by omega)
    simp only [h0, decide_true, Bool.not_true, cond_false, bslice_int1, elemsOf_ints]
    rw [app_own _ ho (by simp; omega) (szok_ints _)]
    simp only [e3]
    rw [← intsV_app]
    obtain ⟨a1, a2⟩ := h.app ho
    refine next _ _ _ _ (by omega) a1 a2 ?_ hlt
    rw [hF]
    unfold numR
    rw [if_pos h0, Option.bind_some, List.drop_drop]
  · simp only [h0, decide_false, Bool.not_false, cond_true]
    refine rd_fail h ?_
    rw [hF]
    unfold numR
    rw [if_neg h0]; rfl
theorem rd_nums (s : List UInt8) (hs : s.length ≤ 4611686018427387903) (k : Nat) (hk : k ≤ 64) (a b : Int) {st0 : St} {r q : Nat} : ∀ (f at_ : Nat) (acc : List Int) (t : Nat) (st : St), acc.length ≤ k → k < f + acc.length → at_ ≤ s.length → RdSt st0 st r q (nC 0 [] 1 [] 1 [] 1) → Own st0 st 1 t →
    RdOut st0 (g27b1111010 f (.str s) (.ptr r 0) (.ptr q 0) (.int .i64 (at_ : Nat)) (.lst (intsV (a :: b :: acc)) t) (.int .i64 ((2 + k : Nat) : Int)) st) ((numsR (k - acc.length) (s.drop at_)).bind fun y => txtEnd a (acc ++ y.1) y.2) := by
  intro f
  induction f with
  | zero => intro at_ acc t st hi hf; omega
  | succ f ih =>
    intro at_ acc t st hi hf hat h ho
    by_cases hlt : acc.length < k
    · obtain ⟨d, hd⟩ : ∃ d, k - acc.length = d + 1 := ⟨k - acc.length - 1, by omega⟩
      rw [hd]
      refine rd_step s hs (a :: b :: acc) (by simp; omega) (2 + k) (by simp; omega) h ho at_ hat f _ (fun x => (numsR d x.2).bind fun y => txtEnd a (acc ++ x.1 :: y.1) y.2) ?_ ?_
      · rw [show numsR (d + 1) (s.drop at_) = (numR (s.drop at_)).bind fun x => (numsR d x.2).bind fun y => some (x.1 :: y.1, y.2) from rfl]
        cases numR (s.drop at_) with
        | none => rfl
        | some x =>
          simp only [Option.bind_some]
          cases numsR d x.2 <;> rfl
      · intro x at2 u st2 hat2 h2 o2 hF hx
        unfold g27b11110100101111
        have e : (((((a :: b :: acc) ++ [(x : Int)]).length : Nat) : Int) == 2) = false := by simp; omega
        simp only [lenL_lst, intsV_len, eql_int, Bool.false_eq_true, if_false, e, cond_false]
        have := ih at2 (acc ++ [(x : Int)]) u st2 (by simp; omega) (by simp; omega) hat2 h2 o2
        rw [hF]
        rw [show k - (acc ++ [(x : Int)]).length = d by simp; omega] at this
        simpa using this
    · have hik : acc.length = k := by omega
      unfold g27b1111010
      have e : ¬ ((((a :: b :: acc).length : Nat) : Int) < ((2 + k : Nat) : Int)) := by simp; omega
      simp only [lenL_lst, intsV_len, bin_lss, e, decide_false, cond_false]
      rw [hik, Nat.sub_self]
      have := rd_txt s hs (a :: b :: acc) a b acc rfl (by omega) (t := t) h at_ hat
      simpa [numsR] using this
/-- What read comes to. -/
def readO (s : List UInt8) : Option Note :=
  (numR s).bind fun a => (numR a.2).bind fun b => if 64 < b.1 then none else (numsR b.1.toNat b.2).bind fun y => txtEnd a.1 y.1 y.2
theorem read_s (s : List UInt8) (hs : s.length ≤ 4611686018427387903) (st : St) : ∃ (n : Note) (b : Bool), s27 [.str s] st = some (.ret (.tup [noteV n, .bool b]), st) ∧ readO s = optO b (some n) := by
  rw [s27_eq]
  have key : RdOut st (f27 (.str s) st) (readO s) := by
    unfold f27
    have b2 : ∀ (st : St) K, A.box (.agg [.int .i64 0, .lst [] 1, .lst [] 1, .lst [] 1]) st K = K (.ptr st.n 0) (st.new (.cells (nC 0 [] 1 [] 1 [] 1))) := fun st K => rfl
    have b4 : ∀ K, A.build [.int .i64 0, .lst [] 1, .lst [] 1, .lst [] 1] [] K = K (.agg (nC 0 [] 1 [] 1 [] 1)) := fun K => rfl
    simp only [b2, b4]
    have h0 : RdSt st ((st.new (.cells (nC 0 [] 1 [] 1 [] 1))).new (.cells (nC 0 [] 1 [] 1 [] 1))) st.n (st.n + 1) (nC 0 [] 1 [] 1 [] 1) :=
      ⟨((Ks.refl st).new _).new _, Nat.le_refl _, by omega, by omega, by simp [new_ob], by simp [new_ob]⟩
    simp only [new_n]
    generalize (st.new (.cells (nC 0 [] 1 [] 1 [] 1))).new (.cells (nC 0 [] 1 [] 1 [] 1)) = st1 at h0
    generalize st.n + 1 = q at h0
    generalize st.n = r at h0
    have e1 : ∀ K, A.store 4 (.ptr q 0) (.agg (nC 0 [] 1 [] 1 [] 1)) st1 K = K (st1.put q (.cells (nC 0 [] 1 [] 1 [] 1))) := fun K => by
      rw [store_agg, h0.obq, obo_some]; simp [nC, Go.Ab.putL]
    simp only [e1]
    have h1 := h0.put_q (nC 0 [] 1 [] 1 [] 1)
    generalize st1.put q (.cells (nC 0 [] 1 [] 1 [] 1)) = st2 at h1
    obtain ⟨f, hf⟩ : ∃ f, big = f + 1 + 1 := ⟨big - 2, by have := big_le; omega⟩
    have hf2 : 100 < f := by have := big_le; omega
    rw [hf]
    refine rd_step s hs [] (by simp) 2 (by simp) h1 (Own.nil _ _ _) 0 (by omega) (f + 1) _ (fun a => (numR a.2).bind fun b => if 64 < b.1 then none else (numsR b.1.toNat b.2).bind fun y => txtEnd a.1 y.1 y.2) (by rw [List.drop_zero]; rfl) ?_
    intro x at1 u st3 hat1 h2 o2 hF hx
    unfold g27b11110100101111
    simp only [lenL_lst, intsV_len, eql_int, Bool.false_eq_true, if_false, show ((((([] : List Int) ++ [(x : Int)]).length : Nat) : Int) == 2) = false from rfl, cond_false]
    rw [hF]
    refine rd_step s hs ([] ++ [(x : Int)]) (by simp) 2 (by simp) h2 o2 at1 hat1 f _ _ rfl ?_
    intro y at2 w st4 hat2 h3 o3 hF2 hy
    unfold g27b11110100101111
    simp only [lenL_lst, intsV_len, eql_int, Bool.false_eq_true, if_false, show ((((([] : List Int) ++ [(x : Int)] ++ [(y : Int)]).length : Nat) : Int) == 2) = true from rfl, cond_true, bin_gtr]
    rw [hF2]
    by_cases hy2 : 64 < y
    · simp only [show ((64 : Int) < (y : Int)) from by omega, decide_true, cond_true, if_true]
      exact rd_fail h3 rfl
    · have e3 : ∀ K, A.bin .add (.int .i64 2) (.int .i64 (y : Nat)) K = K (.int .i64 ((2 + y : Nat) : Int)) := fun K => bin_addN 2 y K (by omega)
      simp only [show ¬ ((64 : Int) < (y : Int)) from by omega, decide_false, cond_false, if_false, e3]
      have := rd_nums s hs y (by omega) (x : Int) (y : Int) f at2 [] w st4 (by simp) (by simp; omega) hat2 h3 o3
      simpa using this
  obtain ⟨n, b, v, st', h1, h2, h3, h4⟩ := key
  refine ⟨n, b, ?_, h4⟩
  have := fg_of h1 h2 (by rw [h3]; simp [pu_note])
  rw [h3] at this
  exact this
end Go.Ab
