import Derived.Test.YtimicmlpaaohoaaAbL15d
/- sinew/link: New, Put, Tick, Waits, Other; ends that nobody made. -/
namespace Go.Ab
open Go.Proofs Go.RowKit Go.Oct
set_option linter.unusedVariables false
set_option linter.unusedSimpArgs false
set_option maxRecDepth 100000
def newP (e : Nat) : Lk := ⟨e, 0, 1, 1, []⟩
theorem newP_ok {e : Nat} (h1 : 1 ≤ e) (h2 : e ≤ 1099511627776) : LkOK (newP e) := ⟨h1, h2, by simp [newP], by simp [newP], by simp [newP], by simp [newP]⟩
theorem lnew_s (e : Nat) (h1 : 1 ≤ e) (h2 : e ≤ 1099511627776) (st : St) : s9 [.int .i64 (e : Nat)] st = some (.ret (.tup [.ptr st.n 0, .int .i64 0]), st.new (.cells (lkC (newP e) 1))) := by
  rw [s9_eq]
  unfold f9
  simp only [bin_lss, show ¬ ((e : Int) < 1) from by omega, decide_false, guard_ff, bin_gtr, show ¬ ((1099511627776 : Int) < (e : Int)) from by omega, cond_false]
  unfold g9b11
  have b : ∀ K, A.build [.int .i64 0, .int .i64 0, .int .i64 0, .int .i64 0, .lst [] 1] [(0, 1, .int .i64 (e : Nat)), (2, 1, .int .i64 1), (3, 1, .int .i64 1)] K = K (.agg (lkC (newP e) 1)) := fun K => rfl
  have bx : ∀ K, A.box (.agg (lkC (newP e) 1)) st K = K (.ptr st.n 0) (st.new (.cells (lkC (newP e) 1))) := fun K => rfl
  simp only [b, bx, er1_ptr, er1_int]
theorem lnew_bad (e : Int) (h : e < 1 ∨ 1099511627776 < e) (st : St) : s9 [.int .i64 e] st = some (.ret (.tup [.ptr0, .int .i64 1]), st) := by
  rw [s9_eq]
  unfold f9
  by_cases h1 : e < 1
  · simp only [bin_lss, h1, decide_true, guard_tf, er1_ptr0, er1_int]
  · simp only [bin_lss, h1, decide_false, guard_ff, bin_gtr, h.resolve_left h1, decide_true, cond_true, er1_ptr0, er1_int]
theorem lnew_at (e : Nat) (st : St) : LAt (st.new (.cells (lkC (newP e) 1))) st.n 1 (newP e) := ⟨new_at _ _, by simp, .inl rfl⟩
theorem lwaits_s {st : St} {id t : Nat} {l : Lk} (h : LAt st id t l) (hl : 1 ≤ l.epoch) : s22 [.ptr id 0] st = some (.ret (.int .i64 (l.q.length : Nat)), st) := by
  rw [s22_eq]
  unfold f22
  obtain ⟨l0, l1, l2, l3, l4⟩ := lload h.ob
  simp only [er1_ptr, lgiven_s h.ob hl, ret_ret, un_not, Bool.not_true, cond_false, nilc_ptr, faddr_ptr, Nat.zero_add, l4, lenL_lst, strsV_len, er1_int]
theorem lother_s {st : St} {id t : Nat} {l : Lk} (h : LAt st id t l) (hl : 1 ≤ l.epoch) : s23 [.ptr id 0] st = some (.ret (.int .i64 (l.other : Nat)), st) := by
  rw [s23_eq]
  unfold f23
  obtain ⟨l0, l1, l2, l3, l4⟩ := lload h.ob
  simp only [er1_ptr, lgiven_s h.ob hl, ret_ret, un_not, Bool.not_true, cond_false, nilc_ptr, faddr_ptr, Nat.zero_add, l1, er1_int]
def tickP (l : Lk) : List (List UInt8) := (List.range (min l.q.length 64)).map fun k => pkt (pk1 l k)
theorem tick_loop {st0 : St} {id t : Nat} {l : Lk} (hob : st0.ob id = some (.cells (lkC l t))) (hid : id < st0.n) (hl : LkOK l) (m : Nat) (hm : m ≤ l.q.length) : ∀ (f k u : Nat) (st : St), k ≤ m → m < f + k → Ks st0 st → Own st0 st 1 u →
    ∃ st' u', g16b111010 f (.ptr id 0) (.lst (strsV ((List.range k).map fun k => pkt (pk1 l k))) u) (.int .i64 (m : Nat)) (.int .i64 (k : Nat)) st = some (.ret (.lst (strsV ((List.range m).map fun k => pkt (pk1 l k))) u'), st') ∧ Ks st0 st' := by
  intro f
  induction f with
  | zero => intro k u st hk hf; omega
  | succ f ih =>
    intro k u st hk hf ks ho
    have hq := hl.q
    unfold g16b111010
    by_cases h : k < m
    · have e4 : ∀ K, A.bin .add (.int .i64 (k : Nat)) (.int .i64 1) K = K (.int .i64 ((k + 1 : Nat) : Int)) := fun K => bin_inc (by omega) K
      have ob : st.ob id = some (.cells (lkC l t)) := by rw [ks.ob id hid]; exact hob
      have b1 : ∀ (s : List UInt8) K, A.bslice 1 (.str []) 1 [(0, .str s)] K = K (.lst (strsV [s]) 2) := fun s K => rfl
      simp only [bin_lss, show ((k : Int) < (m : Int)) from by omega, decide_true, cond_true, er1_ptr, er1_int, lat_s ob hl k (by omega), ret_ret, b1, elemsOf_strs]
      rw [app_own _ ho (by simp; omega) (szok_strs _), ← strsV_app]
      obtain ⟨k2, o2⟩ := ho.app ks
      simp only [e4]
      have e : ((List.range k).map fun k => pkt (pk1 l k)) ++ [pkt (pk1 l k)] = (List.range (k + 1)).map fun k => pkt (pk1 l k) := by
        rw [List.range_succ, List.map_append]; rfl
      rw [e]
      exact ih (k + 1) _ _ (by omega) (by omega) k2 o2
    · have : k = m := by omega
      subst this
      simp only [bin_lss, Int.lt_irrefl, decide_false, cond_false, er1_lst]
      exact ⟨st, u, rfl, ks⟩
theorem ltick_s {st : St} {id t : Nat} {l : Lk} (h : LAt st id t l) (hl : LkOK l) : s16 [.ptr id 0] st = some (.ret (.lst (strsV (tickP l)) 0), st) := by
  rw [s16_eq]
  have key : ∃ st' u', f16 (.ptr id 0) st = some (.ret (.lst (strsV (tickP l)) u'), st') ∧ Ks st st' := by
    unfold f16
    have hq := hl.q
    obtain ⟨l0, l1, l2, l3, l4⟩ := lload h.ob
    have em : ∀ K, A.min (.int .i64 (l.q.length : Nat)) (.int .i64 64) K = K (.int .i64 ((min l.q.length 64 : Nat) : Int)) := fun K => by
      show K (.int .i64 (if (64 : Int) < (l.q.length : Int) then 64 else (l.q.length : Int))) = _
      congr 2
      split <;> omega
    have hsl : ∀ K, A.slice 1 (.lst (strsV l.q) t) none (some (.int .i64 (min l.q.length 64 : Nat))) (some (.int .i64 (l.q.length : Nat))) K = K (.lst (strsV (l.q.take (min l.q.length 64))) (if min l.q.length 64 = l.q.length then 2 else 0)) := fun K => by
      have e : ((strsV l.q).take (min l.q.length 64)).drop 0 = strsV (l.q.take (min l.q.length 64)) := by rw [List.drop_zero, strsV_take]
      have c : 0 ≤ min l.q.length 64 ∧ min l.q.length 64 ≤ l.q.length ∧ l.q.length ≤ (strsV l.q).length ∧ szok 1 (strsV l.q) = true ∧ (some (V.int .i64 ((min l.q.length 64 : Nat) : Int))).isSome = true := ⟨Nat.zero_le _, Nat.min_le_left _ _, by simp, szok_strs _, rfl⟩
      unfold A.slice
      simp only [bnd, Int.toNat_natCast, show ((0 : Int) ≤ ((min l.q.length 64 : Nat) : Int)) from by omega, show ((0 : Int) ≤ (l.q.length : Int)) from by omega, if_true]
      rw [if_pos c, e]
    have hlen : (l.q.take (min l.q.length 64)).length = min l.q.length 64 := by rw [List.length_take]; omega
    simp only [er1_ptr, lgiven_s h.ob hl.e1, ret_ret, un_not, Bool.not_true, cond_false, nilc_ptr, faddr_ptr, Nat.zero_add, l4, lenL_lst, strsV_len, em, hsl, hlen]
    unfold g16b11101
    obtain ⟨st', u', q1, q2⟩ := tick_loop h.ob h.lt hl (min l.q.length 64) (by omega) big 0 1 st (by omega) (lt_big (by omega)) (Ks.refl st) (.nil _ _ _)
    exact ⟨st', u', q1, q2⟩
  obtain ⟨st', u', h1, h2⟩ := key
  exact fg_of h1 h2 (by simp)
/-- Where Put leaves the others. -/
structure PFr (st st' : St) (id t t' : Nat) : Prop where
  n : st.n ≤ st'.n
  nt : st.nt ≤ st'.nt
  ob : ∀ i, i < st.n → i ≠ id → st'.ob i = st.ob i
  tk : ∀ k, k < st.nt → t ≠ k + 3 → st'.tk k = st.tk k
  tt : t' = t ∨ t' ≤ 2 ∨ st.nt + 3 ≤ t'
theorem TFr.pfr {st st' : St} {id t t' : Nat} (h : TFr st st' id) (ht : t' = t ∨ t' ≤ 2) : PFr st st' id t t' := ⟨h.n, by rw [h.nt]; exact Nat.le_refl _, h.ob, fun k _ _ => by rw [h.tk], ht.elim .inl (fun g => .inr (.inl g))⟩
theorem PFr.own {st st' : St} {id sz t t' u : Nat} (h : PFr st st' id t t') (hu : OwnN st sz u) (hne : u ≤ 2 ∨ u ≠ t) : OwnN st' sz u := by
  rcases hu with g | g | ⟨k, g1, g2, g3⟩
  · exact .inl g
  · exact .inr (.inl g)
  · exact .inr (.inr ⟨k, g1, Nat.lt_of_lt_of_le g2 h.nt, by rw [h.tk k g2 (by omega)]; exact g3⟩)
/-- What Put does: the end, a packet, the error. -/
def putP (l : Lk) (n : Note) : Lk × List (List UInt8) × Nat :=
  if packOK n = false ∨ 32768 < (packB n).length then (l, [], 1)
  else if 4096 ≤ l.q.length then (l, [], 2)
  else if 64 < l.q.length + 1 then (⟨l.epoch, l.other, l.first, l.want, l.q ++ [packB n]⟩, [], 0)
  else (⟨l.epoch, l.other, l.first, l.want, l.q ++ [packB n]⟩, [pkt (pk1 ⟨l.epoch, l.other, l.first, l.want, l.q ++ [packB n]⟩ l.q.length)], 0)
def tokP (ps : List (List UInt8)) : Nat := if ps = [] then 1 else 2
theorem lput_s {st : St} {id t : Nat} {l : Lk} (h : LAt st id t l) (hl : LkOK l) (n : Note) (hn : NoteOK n) :
    ∃ st' t', s13 [.ptr id 0, noteV n] st = some (.ret (.tup [.lst (strsV (putP l n).2.1) (tokP (putP l n).2.1), .int .i64 ((putP l n).2.2 : Nat)]), st') ∧ LAt st' id t' (putP l n).1 ∧ PFr st st' id t t' := by
  rw [s13_eq]
  unfold f13
  have hid := h.lt
  have hq := hl.q
  have bx : ∀ K, A.box (noteV n) st K = K (.ptr st.n 0) (st.new (.cells (noteC n))) := fun K => rfl
  have hob := new_at st (.cells (noteC n))
  have hnv : (V.agg (noteC n)).er1 = noteV n := rfl
  have f1 := (TFr.refl st id).new (.cells (noteC n))
  have i1 : (st.new (.cells (noteC n))).ob id = some (.cells (lkC l t)) := by rw [new_ne _ _ (by omega)]; exact h.ob
  simp only [bx, load_noteb hob, hnv, pack_s n hn, ret_ret]
  generalize st.new (.cells (noteC n)) = st1 at f1 i1
  have fail : ∀ (x6 : V), putP l n = (l, [], 1) → ∃ st' t', g13b11001 (.ptr id 0) x6 (.bool true) st1 = some (.ret (.tup [.lst (strsV (putP l n).2.1) (tokP (putP l n).2.1), .int .i64 ((putP l n).2.2 : Nat)]), st') ∧ LAt st' id t' (putP l n).1 ∧ PFr st st' id t t' := by
    intro x6 hp
    unfold g13b11001
    rw [hp]
    simp only [cond_true, er1_lst, er1_int]
    exact ⟨st1, t, rfl, ⟨i1, by have := f1.n; omega, f1.own h.own⟩, f1.pfr (.inl rfl)⟩
  cases hp : packOK n with
  | false =>
    simp only [Bool.false_eq_true, if_false, P2, ext_0, ext_1, er1_ptr, lgiven_s i1 hl.e1, ret_ret, un_not, Bool.not_true, guard_ff, eql_int, if_true, show (((1 : Nat) : Int) != 0) = true from rfl, guard_tf]
    exact fail _ (by unfold putP; rw [if_pos (.inl hp)])
  | true =>
    have hpl := packB_le hp
    simp only [if_true, P2, ext_0, ext_1, er1_ptr, lgiven_s i1 hl.e1, ret_ret, un_not, Bool.not_true, guard_ff, eql_int, show (((0 : Nat) : Int) != 0) = false from rfl, lenS_str, bin_gtr]
    by_cases hlong : 32768 < (packB n).length
    · simp only [show ((32768 : Int) < ((packB n).length : Int)) from by omega, decide_true]
      exact fail _ (by unfold putP; rw [if_pos (.inr hlong)])
    · have hnot : ¬ (packOK n = false ∨ 32768 < (packB n).length) := by rw [hp]; simpa using hlong
      simp only [show ¬ ((32768 : Int) < ((packB n).length : Int)) from by omega, decide_false]
      unfold g13b11001
      obtain ⟨l0, l1, l2, l3, l4⟩ := lload i1
      simp only [cond_false, nilc_ptr, faddr_ptr, Nat.zero_add, l4, lenL_lst, strsV_len, bin_geq]
      by_cases hfull : 4096 ≤ l.q.length
      · have hP : putP l n = (l, [], 2) := by unfold putP; rw [if_neg hnot, if_pos hfull]
        rw [hP]
        simp only [show ((4096 : Int) ≤ (l.q.length : Int)) from by omega, decide_true, cond_true, er1_lst, er1_int]
        exact ⟨st1, t, rfl, ⟨i1, by have := f1.n; omega, f1.own h.own⟩, f1.pfr (.inl rfl)⟩
      · simp only [show ¬ ((4096 : Int) ≤ (l.q.length : Int)) from by omega, decide_false, cond_false]
        unfold g13b111
        have b1 : ∀ (s : List UInt8) K, A.bslice 1 (.str []) 1 [(0, .str s)] K = K (.lst (strsV [s]) 2) := fun s K => rfl
        have hown := f1.own h.own
        have htok : Tok st1 1 t := by
          rcases hown with g | g | ⟨k, g1, g2, g3⟩
          · exact .inl g
          · exact .inr (.inl g)
          · exact .inr (.inr ⟨k, g1, g3⟩)
        simp only [nilc_ptr, faddr_ptr, Nat.zero_add, l4, b1, elemsOf_strs]
        rw [app_tok _ htok (by simp; omega) (szok_strs _), ← strsV_app]
        have i2 : (appSt st1 t 1).ob id = some (.cells (lkC l t)) := by rw [appSt_ob]; exact i1
        have sq : ∀ K, A.store 1 (.ptr id 4) (.lst (strsV (l.q ++ [packB n])) (st1.nt + 3)) (appSt st1 t 1) K = K ((appSt st1 t 1).put id (.cells (lkC ⟨l.epoch, l.other, l.first, l.want, l.q ++ [packB n]⟩ (st1.nt + 3)))) := fun K => by
          simp [i1, lkC]
        simp only [sq]
        have i3 := put_at (appSt st1 t 1) id (.cells (lkC ⟨l.epoch, l.other, l.first, l.want, l.q ++ [packB n]⟩ (st1.nt + 3)))
        have hn1 := f1.n
        have hnt1 := f1.nt
        have at3 : LAt ((appSt st1 t 1).put id (.cells (lkC ⟨l.epoch, l.other, l.first, l.want, l.q ++ [packB n]⟩ (st1.nt + 3)))) id (st1.nt + 3) ⟨l.epoch, l.other, l.first, l.want, l.q ++ [packB n]⟩ :=
          ⟨i3, by rw [put_n, appSt_n]; omega, .inr (.inr ⟨st1.nt, rfl, by rw [put_nt, appSt_nt]; omega, by rw [put_tk]; exact appSt_new _ _ _⟩)⟩
        have fr3 : PFr st ((appSt st1 t 1).put id (.cells (lkC ⟨l.epoch, l.other, l.first, l.want, l.q ++ [packB n]⟩ (st1.nt + 3)))) id t (st1.nt + 3) := by
          refine ⟨by rw [put_n, appSt_n]; exact hn1, by rw [put_nt, appSt_nt]; omega, fun i hi hd => by rw [put_ne _ _ hd, appSt_ob]; exact f1.ob i hi hd, fun k hk ht => ?_, .inr (.inr (by omega))⟩
          rw [put_tk, appSt_tk _ _ _ _ (by omega) ht, f1.tk]
        have hl3 : LkOK ⟨l.epoch, l.other, l.first, l.want, l.q ++ [packB n]⟩ := ⟨hl.e1, hl.e2, hl.o, hl.f, hl.w, by simp; omega⟩
        generalize (appSt st1 t 1).put id (.cells (lkC ⟨l.epoch, l.other, l.first, l.want, l.q ++ [packB n]⟩ (st1.nt + 3))) = st3 at i3 at3 fr3
        unfold g13b1111
        obtain ⟨k0, k1, k2, k3, k4⟩ := lload i3
        have hlen : (l.q ++ [packB n]).length = l.q.length + 1 := by simp
        simp only [nilc_ptr, faddr_ptr, Nat.zero_add, k4, lenL_lst, strsV_len, hlen, bin_gtr]
        by_cases h64 : 64 < l.q.length + 1
        · have hP : putP l n = (⟨l.epoch, l.other, l.first, l.want, l.q ++ [packB n]⟩, [], 0) := by unfold putP; rw [if_neg hnot, if_neg hfull, if_pos h64]
          rw [hP]
          simp only [show ((64 : Int) < ((l.q.length + 1 : Nat) : Int)) from by omega, decide_true, cond_true, er1_lst, er1_int]
          exact ⟨st3, _, rfl, at3, fr3⟩
        · have hP : putP l n = (⟨l.epoch, l.other, l.first, l.want, l.q ++ [packB n]⟩, [pkt (pk1 ⟨l.epoch, l.other, l.first, l.want, l.q ++ [packB n]⟩ l.q.length)], 0) := by unfold putP; rw [if_neg hnot, if_neg hfull, if_neg h64]
          rw [hP]
          have es : ∀ K, A.bin .sub (.int .i64 (l.q.length + 1 : Nat)) (.int .i64 1) K = K (.int .i64 (l.q.length : Nat)) := fun K => bin_subN (l.q.length + 1) 1 K (by omega) (by omega)
          simp only [show ¬ ((64 : Int) < ((l.q.length + 1 : Nat) : Int)) from by omega, decide_false, cond_false, k4, lenL_lst, strsV_len, hlen, es, er1_ptr, er1_int, lat_s i3 hl3 l.q.length (by show l.q.length < (l.q ++ [packB n]).length; omega), ret_ret, b1, er1_lst]
          exact ⟨st3, _, rfl, at3, fr3⟩
/-! ### ends that nobody made -/
def lk0 : Lk := ⟨0, 0, 0, 0, []⟩
structure LNo (st : St) (v : V) : Prop where
  v : v = .ptr0 ∨ ∃ p, v = .ptr p 0 ∧ st.ob p = some (.cells (lkC lk0 1)) ∧ p < st.n
theorem LNo.er1 {st : St} {v : V} (h : LNo st v) : v.er1 = v := by
  rcases h.v with g | ⟨p, g1, _, _⟩ <;> (first | rw [g] | rw [g1]) <;> rfl
theorem LNo.old {st st' : St} {v : V} (h : LNo st v) (hn : st.n ≤ st'.n) (k : ∀ i, i < st.n → st'.ob i = st.ob i) : LNo st' v := by
  rcases h.v with g | ⟨p, g1, g2, g3⟩
  · exact ⟨.inl g⟩
  · exact ⟨.inr ⟨p, g1, by rw [k p g3]; exact g2, Nat.lt_of_lt_of_le g3 hn⟩⟩
theorem lno_given {st : St} {v : V} (h : LNo st v) : s31 [v] st = some (.ret (.bool false), st) := by
  rw [s31_eq]
  unfold f31
  rcases h.v with rfl | ⟨p, rfl, h2, _⟩
  · simp only [eql_ptr0, Bool.not_true, guard_ft, er1_bool]
  · obtain ⟨l0, _⟩ := lload h2
    simp only [eql_ptr, guard_tt, nilc_ptr, faddr_ptr, Nat.zero_add, l0, bin_gtr, show ¬ ((0 : Int) < ((lk0.epoch : Nat) : Int)) from by simp [lk0], decide_false, er1_bool]
theorem lno_waits {st : St} {v : V} (h : LNo st v) : s22 [v] st = some (.ret (.int .i64 0), st) := by
  rw [s22_eq]
  unfold f22
  simp only [h.er1, lno_given h, ret_ret, un_not, Bool.not_false, cond_true, er1_int]
theorem lno_other {st : St} {v : V} (h : LNo st v) : s23 [v] st = some (.ret (.int .i64 0), st) := by
  rw [s23_eq]
  unfold f23
  simp only [h.er1, lno_given h, ret_ret, un_not, Bool.not_false, cond_true, er1_int]
theorem lno_tick {st : St} {v : V} (h : LNo st v) : s16 [v] st = some (.ret (.lst [] 0), st) := by
  rw [s16_eq]
  refine fg_of (st' := st) (v := .lst [] 1) ?_ (Ks.refl st) rfl
  unfold f16
  simp only [h.er1, lno_given h, ret_ret, un_not, Bool.not_false, cond_true, er1_lst]
theorem lno_put {st : St} {v : V} (h : LNo st v) (n : Note) (hn : NoteOK n) : ∃ st', s13 [v, noteV n] st = some (.ret (.tup [.lst [] 1, .int .i64 1]), st') ∧ st.n ≤ st'.n ∧ ∀ i, i < st.n → st'.ob i = st.ob i := by
  rw [s13_eq]
  unfold f13
  have bx : ∀ K, A.box (noteV n) st K = K (.ptr st.n 0) (st.new (.cells (noteC n))) := fun K => rfl
  have hob := new_at st (.cells (noteC n))
  have hnv : (V.agg (noteC n)).er1 = noteV n := rfl
  have h1 := h.old (st' := st.new (.cells (noteC n))) (by simp) (fun i hi => new_ne _ _ (by omega))
  simp only [bx, load_noteb hob, hnv, pack_s n hn, ret_ret, h.er1, lno_given h1, un_not, Bool.not_false, guard_tf]
  refine ⟨_, ?_, by simp, fun i hi => new_ne (st := st) (.cells (noteC n)) (by omega)⟩
  cases packOK n <;> simp only [Bool.false_eq_true, if_false, if_true, P2, ext_0, ext_1] <;> unfold g13b11001 <;> simp only [cond_true, er1_lst, er1_int]
theorem lno_take {st : St} {v : V} (h : LNo st v) (s : List UInt8) (hs : s.length ≤ 9223372036854775807) : ∃ st', s19 [v, .str s] st = some (.ret (cameV [] [] false), st') ∧ st.n ≤ st'.n ∧ ∀ i, i < st.n → st'.ob i = st.ob i := by
  rw [s19_eq]
  unfold f19
  have bx : ∀ K, A.box (.agg [.lst [] 1, .lst [] 1, .bool false]) st K = K (.ptr st.n 0) (st.new (.cells (cC [] 1 [] 1 false))) := fun K => rfl
  have f0 := (TFr.refl st st.n).new (.cells (cC [] 1 [] 1 false))
  have c0 := new_at st (.cells (cC [] 1 [] 1 false))
  have n0 : (st.new (.cells (cC [] 1 [] 1 false))).n = st.n + 1 := by simp
  simp only [bx]
  generalize st.new (.cells (cC [] 1 [] 1 false)) = st1 at f0 c0 n0
  simp only [er1_str, lread_s s hs, ret_ret, ext_0, ext_1, ext_2, box_zero, new_n, n0]
  have f1 := (f0.new (.cells (nC 0 [] 1 [] 1 [] 1))).new (.cells (nC 0 [] 1 [] 1 [] 1))
  have c1 : ((st1.new (.cells (nC 0 [] 1 [] 1 [] 1))).new (.cells (nC 0 [] 1 [] 1 [] 1))).ob st.n = some (.cells (cC [] 1 [] 1 false)) := by rw [new_ne _ _ (by simp; omega), new_ne _ _ (by omega)]; exact c0
  have a1 : ((st1.new (.cells (nC 0 [] 1 [] 1 [] 1))).new (.cells (nC 0 [] 1 [] 1 [] 1))).ob (st.n + 1) = some (.cells (nC 0 [] 1 [] 1 [] 1)) := by rw [new_ne _ _ (by simp; omega), ← n0]; exact new_at _ _
  have b1 : ((st1.new (.cells (nC 0 [] 1 [] 1 [] 1))).new (.cells (nC 0 [] 1 [] 1 [] 1))).ob (st.n + 1 + 1) = some (.cells (nC 0 [] 1 [] 1 [] 1)) := by
    have : st.n + 1 + 1 = (st1.new (.cells (nC 0 [] 1 [] 1 [] 1))).n := by simp [n0]
    rw [this]; exact new_at _ _
  generalize (st1.new (.cells (nC 0 [] 1 [] 1 [] 1))).new (.cells (nC 0 [] 1 [] 1 [] 1)) = st2 at f1 c1 a1 b1
  have b2 : (st2.put (st.n + 1) (.cells (noteC (oneN s)))).ob (st.n + 1 + 1) = some (.cells (nC 0 [] 1 [] 1 [] 1)) := by rw [put_ne _ _ (by omega)]; exact b1
  simp only [store_note a1, store_note b2]
  have f3 := (f1.put (j := st.n + 1) (.inr (by omega)) (.cells (noteC (oneN s)))).put (j := st.n + 1 + 1) (.inr (by omega)) (.cells (noteC (rdN s).1))
  have c3 : ((st2.put (st.n + 1) (.cells (noteC (oneN s)))).put (st.n + 1 + 1) (.cells (noteC (rdN s).1))).ob st.n = some (.cells (cC [] 1 [] 1 false)) := by rw [put_ne _ _ (by omega), put_ne _ _ (by omega)]; exact c1
  generalize (st2.put (st.n + 1) (.cells (noteC (oneN s)))).put (st.n + 1 + 1) (.cells (noteC (rdN s).1)) = st3 at f3 c3
  have h3 := h.old f3.n (fun i hi => f3.ob i hi (by omega))
  unfold g19b11
  simp only [h.er1, lno_given h3, ret_ret, kid_eq, noP_ret, un_not, Bool.not_false, guard_tf]
  unfold g19b1100_8
  have b : ∀ K, A.build [.lst [] 1, .lst [] 1, .bool false] [] K = K (.agg (cC [] 1 [] 1 false)) := fun K => rfl
  have s1 : ∀ K, A.store 3 (.ptr st.n 0) (.agg (cC [] 1 [] 1 false)) st3 K = K (st3.put st.n (.cells (cC [] 1 [] 1 false))) := fun K => by
    rw [store_agg, c3, obo_some]; simp [cC, Go.Ab.putL]
  have l1 : ∀ K, A.load true 3 (.ptr st.n 0) (st3.put st.n (.cells (cC [] 1 [] 1 false))) K = K (.agg (cC [] 1 [] 1 false)) (st3.put st.n (.cells (cC [] 1 [] 1 false))) := fun K => by
    rw [load_obA, put_at, obo_some]; rfl
  have her : (V.agg (cC [] 1 [] 1 false)).er1 = cameV [] [] false := rfl
  have ff := f3.put (j := st.n) (.inr (Nat.le_refl _)) (.cells (cC [] 1 [] 1 false))
  simp only [guard_tf, b, s1, l1, kid_eq, rcell_some, res_one, her]
  exact ⟨_, rfl, ff.n, fun i hi => ff.ob i hi (by omega)⟩
end Go.Ab
