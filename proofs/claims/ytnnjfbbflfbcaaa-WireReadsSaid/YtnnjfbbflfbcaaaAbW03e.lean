import Derived.Test.YtnnjfbbflfbcaaaAbW03d
/- strings.Builder; sinew/octet: texts and lists that are written. -/
namespace Go.Ab
open Go.RowKit Go.Oct
set_option linter.unusedVariables false
set_option linter.unusedSimpArgs false

/-! ### strings.Builder -/
/-- A Builder that this call made. -/
structure BAt (st0 st : St) (id : Nat) (s : List UInt8) (t : Nat) : Prop where
  ob : st.ob id = some (.cells [.bld 66, .buf s t])
  new : st0.n ≤ id
  own : (t = 1 ∧ s = []) ∨ ∃ k, t = k + 3 ∧ st0.nt ≤ k ∧ k < st.nt ∧ st.tk k = some 1
theorem BAt.own1 {st0 st : St} {id : Nat} {s : List UInt8} {t : Nat} (h : BAt st0 st id s t) : Own st0 st 1 t := by
  rcases h.own with ⟨h, _⟩ | h
  · exact .inl h
  · exact .inr (.inr h)
theorem appB_at {st0 st : St} {id : Nat} {s x : List UInt8} {t : Nat} (h : BAt st0 st id s t) (hl : s.length + x.length ≤ 1073741824) (K : V → St → Res) : A.appB 1 (.buf s t) (some (bytV x)) st K = K (.buf (s ++ x) (st.nt + 3)) (appSt st t 1) := by
  rcases h.own with ⟨rfl, _⟩ | ⟨k, rfl, _, _, hk⟩
  · simp [A.appB, bytesB_bytV, hl, appSt]
  · simp [A.appB, bytesB_bytV, hl, appSt, hk]
@[simp] theorem elemsOf_str (x : List UInt8) (st : St) : elemsOf 3 1 (.str x) st = some (bytV x) := by simp [elemsOf]; rfl
@[simp] theorem er1_buf (s : List UInt8) (t : Nat) : (V.buf s t).er1 = .buf s t := rfl
@[simp] theorem lenL_buf (s : List UInt8) (t : Nat) (K : V → Res) : A.lenL (.buf s t) K = K (.int .i64 (s.length : Nat)) := rfl
@[simp] theorem store_buf (i o : Nat) (l : List UInt8) (t : Nat) (st : St) (K : St → Res) : A.store 1 (.ptr i o) (.buf l t) st K = obo (st.ob i) fun cs => if o < cs.length then K (st.put i (.cells (cs.set o (.buf l t)))) else none := store_ob _ _ _ _ _ rfl
def wrSt (st : St) (id t : Nat) (s : List UInt8) : St := (appSt st t 1).put id (.cells [.bld 66, .buf s (st.nt + 3)])
theorem write_s {st0 st : St} {id : Nat} {s x : List UInt8} {t : Nat} (h : BAt st0 st id s t) (hl : s.length + x.length ≤ 1073741824) : s46 [.ptr id 0, .str x] st = some (.ret (.tup [.int .i64 (x.length : Nat), .if0]), wrSt st id t (s ++ x)) := by
  rw [s46_eq]
  unfold f46
  simp only [er1_ptr, s61_val h.ob, ret_ret, nilc_ptr, faddr_ptr, load_ob, h.ob, obo_some, List.getElem?_cons_succ, List.getElem?_cons_zero, ob_some', elemsOf_str, appB_at h hl, store_buf, appSt_ob, lenS_str, er1_int, er1_if0, Nat.zero_add, List.length_cons, List.length_nil, show 1 < 0 + 1 + 1 from by omega, if_true, List.set_cons_succ, List.set_cons_zero]
  rfl
theorem BAt.write {st0 st : St} {id : Nat} {s x : List UInt8} {t : Nat} (h : BAt st0 st id s t) (hk : Ks st0 st) (hid : id < st.n) : BAt st0 (wrSt st id t (s ++ x)) id (s ++ x) (st.nt + 3) ∧ Ks st0 (wrSt st id t (s ++ x)) ∧ id < (wrSt st id t (s ++ x)).n := by
  obtain ⟨k1, o1⟩ := h.own1.app hk
  refine ⟨⟨by simp [wrSt], h.new, .inr ?_⟩, k1.put h.new _, by simp [wrSt]; exact hid⟩
  refine ⟨st.nt, rfl, hk.nt, by simp [wrSt], ?_⟩
  show (appSt st t 1).tk st.nt = some 1
  exact appSt_new _ _ _
theorem blen_s {st0 st : St} {id : Nat} {s : List UInt8} {t : Nat} (h : BAt st0 st id s t) : s44 [.ptr id 0] st = some (.ret (.int .i64 (s.length : Nat)), st) := by
  rw [s44_eq]
  unfold f44
  simp only [nilc_ptr, faddr_ptr, load_ob, h.ob, obo_some, Nat.zero_add, List.getElem?_cons_succ, List.getElem?_cons_zero, ob_some', lenL_buf, er1_int]
theorem bstr_s {st0 st : St} {id : Nat} {s : List UInt8} {t : Nat} (h : BAt st0 st id s t) (hk : Ks st0 st) (hl : s.length ≤ 1073741824) : ∃ st', s49 [.ptr id 0] st = some (.ret (.str s), st') ∧ Ks st0 st' := by
  rw [s49_eq]
  unfold f49
  have hld : ldv false 1 (.ptr id 1) st = some (.buf s t) := by simp [ldv, h.ob, kid]
  simp only [nilc_ptr, faddr_ptr, load_ob, h.ob, obo_some, Nat.zero_add, List.getElem?_cons_succ, List.getElem?_cons_zero, ob_some', lenL_buf, A.sdata, A.noP, kid, A.chk, hld, V.eqB_refl, if_true]
  rcases h.own with ⟨rfl, rfl⟩ | ⟨k, rfl, h1, h2, h3⟩
  · exact ⟨st, by simp [A.ustr], hk⟩
  · refine ⟨st.delTk k, ?_, ⟨hk.ob, hk.n, hk.nt, fun j hj => ?_⟩⟩
    · have e : ((s.length : Nat) : Int) = ((s.length : Nat) : Int) ∧ s.length ≤ 1073741824 := ⟨rfl, hl⟩
      simp only [A.ustr, e, and_self, if_true, h3, er1_str, kid]
    · rw [← hk.tk j hj]
      simp only [St.delTk]
      rw [if_neg (by omega)]
theorem newB_at (st : St) (K : V → St → Res) : A.newB 66 (.agg [.ptr0, .lst [] 1]) st K = K (.ptr st.n 0) (st.new (.cells [.bld 66, .buf [] 1])) := rfl
theorem bat_new (st : St) : BAt st (st.new (.cells [.bld 66, .buf [] 1])) st.n [] 1 := ⟨by simp, Nat.le_refl _, .inl ⟨rfl, rfl⟩⟩
/-! ### texts -/
theorem putN_len9 (n : Nat) : (putN n).length ≤ 9 := by rw [putN_length]; have := nlen_le n; omega
theorem bin_cat (s t : List UInt8) (K : V → Res) (h : s.length + t.length ≤ 4611686018427387904) : A.bin .add (.str s) (.str t) K = K (.str (s ++ t)) := by simp [A.bin, h]
theorem putstr_s (s : List UInt8) (st : St) : s60 [.str s] st = some (.ret (if 65536 < s.length then P2 [] 12 else P2 (putS s) 0), st) := by
  rw [s60_eq]
  unfold f60
  simp only [lenS_str, bin_gtr]
  by_cases h : 65536 < s.length
  · simp only [show ((65536 : Int) < (s.length : Int)) from by omega, decide_true, cond_true, er1_str, er1_int, if_pos h]; rfl
  · simp only [show ¬ ((65536 : Int) < (s.length : Int)) from by omega, decide_false, cond_false, er1_int, putnum_s s.length (by omega), ret_ret, P2, ext_0, ext_1, if_neg h]
    unfold g60b111
    have := putN_len9 s.length
    rw [bin_cat _ _ _ (by omega)]; rfl
theorem rputstr_s (s : List UInt8) (st : St) : s62 [.str s] st = some (.ret (if 65536 < s.length then P2 [] 12 else P2 (putS s) 0), st) := by
  rw [s62_eq]
  unfold f62
  simp only [lenS_str, bin_gtr]
  by_cases h : 65536 < s.length
  · simp only [show ((65536 : Int) < (s.length : Int)) from by omega, decide_true, cond_true, er1_str, er1_int, if_pos h]; rfl
  · simp only [show ¬ ((65536 : Int) < (s.length : Int)) from by omega, decide_false, cond_false, er1_int, rputnum_s s.length (by omega), ret_ret, P2, ext_0, ext_1, if_neg h]
    unfold g62b111
    have := putN_len9 s.length
    rw [bin_cat _ _ _ (by omega)]; rfl
/-! ### lists -/
theorem catS_append (a b : List (List UInt8)) : catS (a ++ b) = catS a ++ catS b := by
  induction a with
  | nil => rfl
  | cons x a ih => simp only [List.cons_append, catS, ih, List.append_assoc]
theorem catS_len {a : List (List UInt8)} (h : ∀ x ∈ a, x.length ≤ 65536) : (catS a).length ≤ a.length * 65545 := by
  induction a with
  | nil => simp [catS]
  | cons x a ih =>
    have h1 := ih fun y hy => h y (List.mem_cons_of_mem _ hy)
    have h2 := h x (by simp)
    have h3 := putN_len9 x.length
    simp only [catS, putS, List.length_append, List.length_cons]
    omega
def putLR (l : List (List UInt8)) : V := if l.all (fun s => decide (s.length ≤ 65536)) then P2 (Oct.putL l) 0 else P2 [] 12
theorem take_len {l : List (List UInt8)} {i : Nat} (hi : i ≤ l.length) (hm : l.length ≤ 4096) (hs : ∀ x ∈ l.take i, x.length ≤ 65536) : (putN l.length ++ catS (l.take i)).length ≤ 268472329 := by
  have h1 := catS_len hs
  have h2 := putN_len9 l.length
  rw [List.length_append]
  simp only [List.length_take] at h1
  omega
theorem putlist_loop (l : List (List UInt8)) (u : Nat) (hm : l.length ≤ 4096) (st0 : St) (id : Nat) : ∀ (n i t : Nat) (st : St), i ≤ l.length → l.length < n + i → (∀ x ∈ l.take i, x.length ≤ 65536) → BAt st0 st id (putN l.length ++ catS (l.take i)) t → Ks st0 st → id < st.n →
    ∃ st', g45b11111010 n (.ptr id 0) (.lst (strsV l) u) (.int .i64 (l.length : Nat)) (.int .i64 (i : Nat)) st = some (.ret (putLR l), st') ∧ Ks st0 st' := by
  intro n
  induction n with
  | zero => intro i t st hi hn; omega
  | succ n ih =>
    intro i t st hi hn hs hb hk hid
    have htl := take_len hi hm hs
    unfold g45b11111010
    by_cases h : i < l.length
    · simp only [bin_lss, show ((i : Int) < (l.length : Int)) from by omega, decide_true, cond_true, iaddr_strs u h, load_l1', er1_str, putstr_s, ret_ret]
      unfold g45b111110100110011
      by_cases h2 : 65536 < l[i].length
      · simp only [if_pos h2, P2, ext_0, ext_1, eql_int, if_true, show (((12 : Nat) : Int) != 0) = true from rfl, cond_true, er1_str, er1_int]
        refine ⟨st, ?_, hk⟩
        have : l.all (fun s => decide (s.length ≤ 65536)) = false := by
          rw [List.all_eq_false]
          exact ⟨l[i], List.getElem_mem h, by simp; omega⟩
        rw [putLR, this]; rfl
      · have e4 : ∀ K, A.bin .add (.int .i64 (i : Nat)) (.int .i64 1) K = K (.int .i64 ((i + 1 : Nat) : Int)) := fun K => bin_inc (by omega) K
        have hp : (putS l[i]).length ≤ 65545 := by have := putN_len9 l[i].length; simp only [putS, List.length_append]; omega
        simp only [if_neg h2, P2, ext_0, ext_1, eql_int, if_true, show (((0 : Nat) : Int) != 0) = false from rfl, cond_false, er1_str, er1_int, er1_ptr]
        rw [write_s hb (by omega)]
        simp only [ret_ret, e4]
        have e5 : (putN l.length ++ catS (l.take i)) ++ putS l[i] = putN l.length ++ catS (l.take (i + 1)) := by
          rw [List.take_succ_eq_append_getElem h, catS_append, List.append_assoc]; simp [catS]
        obtain ⟨b2, k2, i2⟩ := hb.write (x := putS l[i]) hk hid
        rw [e5] at b2 k2 i2 ⊢
        refine ih (i + 1) _ _ (by omega) (by omega) ?_ b2 k2 i2
        intro x hx
        rw [List.take_succ_eq_append_getElem h] at hx
        rcases List.mem_append.1 hx with g | g
        · exact hs x g
        · rw [List.mem_singleton.1 g]; omega
    · have : i = l.length := by omega
      subst this
      rw [List.take_length] at hs hb htl
      obtain ⟨st', r1, r2⟩ := bstr_s hb hk (by omega)
      simp only [bin_lss, Int.lt_irrefl, decide_false, cond_false, er1_ptr, r1, ret_ret, er1_str, er1_int]
      refine ⟨st', ?_, r2⟩
      have : l.all (fun s => decide (s.length ≤ 65536)) = true := List.all_eq_true.2 fun x hx => by simpa using hs x hx
      rw [putLR, if_pos this]; rfl
theorem putlist_s (l : List (List UInt8)) (u : Nat) (hm : l.length ≤ 4096) (st : St) : s45 [.lst (strsV l) u] st = some (.ret (putLR l), st) := by
  rw [s45_eq]
  have key : ∃ st', f45 (.lst (strsV l) u) st = some (.ret (putLR l), st') ∧ Ks st st' := by
    unfold f45
    simp only [lenL_lst, strsV_len, bin_gtr, show ¬ ((4096 : Int) < (l.length : Int)) from by omega, decide_false, cond_false, newB_at, er1_int, putnum_s l.length (by omega), ret_ret, P2, ext_0, ext_1]
    unfold g45b1111
    have hb := bat_new st
    have hk : Ks st (st.new (.cells [.bld 66, .buf [] 1])) := (Ks.refl st).new _
    simp only [er1_ptr, er1_str]
    have h9 := putN_len9 l.length
    rw [write_s hb (by simp; omega)]
    obtain ⟨b2, k2, i2⟩ := hb.write (x := putN l.length) hk (by simp)
    simp only [ret_ret, lenL_lst, strsV_len]
    rw [List.nil_append] at b2 k2 i2 ⊢
    exact putlist_loop l u hm st st.n big 0 _ _ (by omega) (by have := big_le; omega) (by simp) (by simpa [catS] using b2) k2 i2
  obtain ⟨st', h1, h2⟩ := key
  have e : (putLR l).era = putLR l ∧ (putLR l).era.pu = true := by unfold putLR; split <;> exact ⟨rfl, rfl⟩
  have := fg_of h1 h2 e.2
  rw [e.1] at this
  exact this
theorem rputlist_loop (l : List (List UInt8)) (u : Nat) (hm : l.length ≤ 4096) (st0 : St) : ∀ (n i t : Nat) (st : St), i ≤ l.length → l.length < n + i → (∀ x ∈ l.take i, x.length ≤ 65536) → Own st0 st 1 t → Ks st0 st →
    ∃ st', g52b1111010 n (.lst (strsV l) u) (.lst (bytV (putN l.length ++ catS (l.take i))) t) (.int .i64 (i : Nat)) st = some (.ret (putLR l), st') ∧ Ks st0 st' := by
  intro n
  induction n with
  | zero => intro i t st hi hn; omega
  | succ n ih =>
    intro i t st hi hn hs ho hk
    have htl := take_len hi hm hs
    unfold g52b1111010
    by_cases h : i < l.length
    · simp only [lenL_lst, strsV_len, bin_lss, show ((i : Int) < (l.length : Int)) from by omega, decide_true, cond_true, iaddr_strs u h, load_l1', er1_str, rputstr_s, ret_ret]
      unfold g52b111101001001
      by_cases h2 : 65536 < l[i].length
      · simp only [if_pos h2, P2, ext_0, ext_1, eql_int, if_true, show (((12 : Nat) : Int) != 0) = true from rfl, cond_true, er1_str, er1_int]
        refine ⟨st, ?_, hk⟩
        have : l.all (fun s => decide (s.length ≤ 65536)) = false := by
          rw [List.all_eq_false]
          exact ⟨l[i], List.getElem_mem h, by simp; omega⟩
        rw [putLR, this]; rfl
      · have e4 : ∀ K, A.bin .add (.int .i64 (i : Nat)) (.int .i64 1) K = K (.int .i64 ((i + 1 : Nat) : Int)) := fun K => bin_inc (by omega) K
        have hp : (putS l[i]).length ≤ 65545 := by have := putN_len9 l[i].length; simp only [putS, List.length_append]; omega
        simp only [if_neg h2, P2, ext_0, ext_1, eql_int, if_true, show (((0 : Nat) : Int) != 0) = false from rfl, cond_false, elemsOf_str, appB_lst]
        rw [app_own _ ho (by simp only [bytV_len]; omega) (szok_bytV _)]
        obtain ⟨k2, o2⟩ := ho.app hk
        have e5 : (putN l.length ++ catS (l.take i)) ++ putS l[i] = putN l.length ++ catS (l.take (i + 1)) := by
          rw [List.take_succ_eq_append_getElem h, catS_append, List.append_assoc]; simp [catS]
        simp only [e4]
        rw [← bytV_append, e5]
        refine ih (i + 1) _ _ (by omega) (by omega) ?_ o2 k2
        intro x hx
        rw [List.take_succ_eq_append_getElem h] at hx
        rcases List.mem_append.1 hx with g | g
        · exact hs x g
        · rw [List.mem_singleton.1 g]; omega
    · have : i = l.length := by omega
      subst this
      rw [List.take_length] at hs htl ⊢
      simp only [lenL_lst, strsV_len, bin_lss, Int.lt_irrefl, decide_false, cond_false, toStr_bytV, er1_str, er1_int]
      refine ⟨st, ?_, hk⟩
      have : l.all (fun s => decide (s.length ≤ 65536)) = true := List.all_eq_true.2 fun x hx => by simpa using hs x hx
      rw [putLR, if_pos this]; rfl
theorem rputlist_s (l : List (List UInt8)) (u : Nat) (hm : l.length ≤ 4096) (st : St) : s52 [.lst (strsV l) u] st = some (.ret (putLR l), st) := by
  rw [s52_eq]
  have key : ∃ st', f52 (.lst (strsV l) u) st = some (.ret (putLR l), st') ∧ Ks st st' := by
    unfold f52
    simp only [lenL_lst, strsV_len, bin_gtr, show ¬ ((4096 : Int) < (l.length : Int)) from by omega, decide_false, cond_false, er1_int, rputnum_s l.length (by omega), ret_ret, P2, ext_0, ext_1]
    unfold g52b111
    have e1 : ∀ K, A.toBytes (.str (putN l.length)) st K = K (.lst (bytV (putN l.length)) (st.nt + 3)) (st.newTk 1) := fun K => rfl
    simp only [e1]
    have := rputlist_loop l u hm st big 0 (st.nt + 3) (st.newTk 1) (by omega) (by have := big_le; omega) (by simp) (.inr (.inr ⟨st.nt, rfl, Nat.le_refl _, by simp [St.newTk], by simp [St.newTk]⟩)) ⟨fun _ _ => rfl, Nat.le_refl _, by simp [St.newTk], fun j hj => by simp only [St.newTk]; rw [if_neg (by omega)]⟩
    simpa [catS] using this
  obtain ⟨st', h1, h2⟩ := key
  have e : (putLR l).era = putLR l ∧ (putLR l).era.pu = true := by unfold putLR; split <;> exact ⟨rfl, rfl⟩
  have := fg_of h1 h2 e.2
  rw [e.1] at this
  exact this
end Go.Ab
