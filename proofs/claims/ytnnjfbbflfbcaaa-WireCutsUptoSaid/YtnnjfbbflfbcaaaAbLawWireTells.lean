import Derived.Test.YtnnjfbbflfbcaaaAbW03merged0
import Derived.Test.YtnnjfbbflfbcaaaAbBurst
import Derived.Test.YtnnjfbbflfbcaaaAbIn2
/- sinewlaw03.WireTells. -/
namespace Go.Ab
open Go.Proofs Go.RowKit Go.Oct
set_option linter.unusedVariables false
set_option linter.unusedSimpArgs false
theorem min_int (x y : Int) (K : V → Res) : A.min (.int .i64 x) (.int .i64 y) K = K (.int .i64 (if y < x then y else x)) := rfl
theorem light_texts (n : Note) (hn : NoteOK n) (p : Nat) (st : St) (ho : st.ob p = some (.cells (noteC n))) : ∀ (f i : Nat) (k : Int), i ≤ n.texts.length → n.texts.length < f + i → ∃ k2 : Int, g17b11010 f (.ptr p 0) (.int .i64 k) (.int .i64 (i : Nat)) st = g17b111 (.ptr p 0) (.int .i64 k2) st := by
  have l2 : ∀ K, A.load false 1 (.ptr p 2) st K = K (.lst (strsV n.texts) 0) st := fun K => by simp [ho, noteC]
  intro f
  induction f with
  | zero => intro i k hi hf; omega
  | succ f ih =>
    intro i k hi hf
    unfold g17b11010
    by_cases h : i < n.texts.length
    · have e4 : ∀ K, A.bin .add (.int .i64 (i : Nat)) (.int .i64 1) K = K (.int .i64 ((i + 1 : Nat) : Int)) := fun K => bin_inc (by have := hn.texts; omega) K
      have e3 : ∀ (x : Int) K, A.bin .add (.int .i64 k) (.int .i64 x) K = K (.int .i64 (IntKind.i64.wrap (k + x))) := fun x K => bin_addW _ _ K
      simp only [faddr_ptr, Nat.zero_add, l2, lenL_lst, strsV_len, bin_lss, show ((i : Int) < (n.texts.length : Int)) from by omega, decide_true, cond_true, iaddr_strs 0 h, load_l1', lenS_str, min_int, e3]
      first
        | rw [e4]; exact ih (i + 1) _ (by omega) (by omega)
        | (simp only [e4]; exact ih (i + 1) _ (by omega) (by omega))
    · have : i = n.texts.length := by omega
      subst this
      simp only [faddr_ptr, Nat.zero_add, l2, lenL_lst, strsV_len, bin_lss, Int.lt_irrefl, decide_false, cond_false]
      exact ⟨k, rfl⟩
theorem light_row (n : Note) (hn : NoteOK n) (p : Nat) (st : St) (ho : st.ob p = some (.cells (noteC n))) (L : V → V → V → St → Res) (i : Nat) (hi : i < n.rows.length) : ∀ (f j : Nat) (k : Int), j ≤ n.rows[i].length → n.rows[i].length < f + j → ∃ k2 : Int, g17b111010010010 L f (.ptr p 0) (.int .i64 k) (.int .i64 (i : Nat)) (.int .i64 (j : Nat)) st = L (.ptr p 0) (.int .i64 k2) (.int .i64 ((i + 1 : Nat) : Int)) st := by
  have l3 : ∀ K, A.load false 1 (.ptr p 3) st K = K (.lst (rowsV n.rows) 0) st := fun K => by simp [ho, noteC]
  have hr := hn.row _ (List.getElem_mem hi)
  intro f
  induction f with
  | zero => intro j k hj hf; omega
  | succ f ih =>
    intro j k hj hf
    unfold g17b111010010010
    by_cases h : j < n.rows[i].length
    · have e4 : ∀ K, A.bin .add (.int .i64 (j : Nat)) (.int .i64 1) K = K (.int .i64 ((j + 1 : Nat) : Int)) := fun K => bin_inc (by omega) K
      have e3 : ∀ (x : Int) K, A.bin .add (.int .i64 k) (.int .i64 x) K = K (.int .i64 (IntKind.i64.wrap (k + x))) := fun x K => bin_addW _ _ K
      simp only [faddr_ptr, Nat.zero_add, l3, iaddr_rows 0 hi, load_l1', lenL_lst, strsV_len, bin_lss, show ((j : Int) < (n.rows[i].length : Int)) from by omega, decide_true, cond_true, iaddr_strs 0 h, lenS_str, min_int, e3, e4]
      exact ih (j + 1) _ (by omega) (by omega)
    · have : j = n.rows[i].length := by omega
      subst this
      have e4 : ∀ K, A.bin .add (.int .i64 (i : Nat)) (.int .i64 1) K = K (.int .i64 ((i + 1 : Nat) : Int)) := fun K => bin_inc (by have := hn.rows; omega) K
      simp only [faddr_ptr, Nat.zero_add, l3, iaddr_rows 0 hi, load_l1', lenL_lst, strsV_len, bin_lss, Int.lt_irrefl, decide_false, cond_false, e4]
      exact ⟨k, rfl⟩
theorem light_rows (n : Note) (hn : NoteOK n) (p : Nat) (st : St) (ho : st.ob p = some (.cells (noteC n))) : ∀ (f i : Nat) (k : Int), i ≤ n.rows.length → n.rows.length < f + i → ∃ c : Bool, g17b111010 f (.ptr p 0) (.int .i64 k) (.int .i64 (i : Nat)) st = some (.ret (.bool c), st) := by
  have l3 : ∀ K, A.load false 1 (.ptr p 3) st K = K (.lst (rowsV n.rows) 0) st := fun K => by simp [ho, noteC]
  intro f
  induction f with
  | zero => intro i k hi hf; omega
  | succ f ih =>
    intro i k hi hf
    unfold g17b111010
    by_cases h : i < n.rows.length
    · simp only [faddr_ptr, Nat.zero_add, l3, lenL_lst, rowsV_len, bin_lss, show ((i : Int) < (n.rows.length : Int)) from by omega, decide_true, cond_true]
      obtain ⟨k2, h2⟩ := light_row n hn p st ho (g17b111010 f) i h big 0 k (by omega) (lt_big (by have := hn.row _ (List.getElem_mem h); omega))
      rw [show ((0 : Nat) : Int) = 0 from rfl] at h2
      rw [h2]
      exact ih (i + 1) k2 (by omega) (by omega)
    · have : i = n.rows.length := by omega
      subst this
      simp only [faddr_ptr, Nat.zero_add, l3, lenL_lst, rowsV_len, bin_lss, Int.lt_irrefl, decide_false, cond_false, bin_leq, er1_bool]
      exact ⟨_, rfl⟩
theorem light_s (n : Note) (hn : NoteOK n) (st : St) : ∃ c : Bool, s17 [noteV n] st = some (.ret (.bool c), st) := by
  rw [s17_eq]
  have key : ∃ c : Bool, f17 (noteV n) st = some (.ret (.bool c), st.new (.cells (noteC n))) := by
    unfold f17
    have bx : ∀ K, A.box (noteV n) st K = K (.ptr st.n 0) (st.new (.cells (noteC n))) := fun K => rfl
    simp only [bx]
    obtain ⟨k2, h2⟩ := light_texts n hn st.n _ (new_at st _) big 0 0 (by omega) (lt_big (by have := hn.texts; omega))
    rw [show ((0 : Nat) : Int) = 0 from rfl] at h2
    rw [h2]
    unfold g17b111
    have := light_rows n hn st.n _ (new_at st _) big 0 k2 (by omega) (lt_big (by have := hn.rows; omega))
    exact this
  obtain ⟨c, hc⟩ := key
  exact ⟨c, fg_of hc ((Ks.refl st).new _) rfl⟩
theorem putN_pos {k : Nat} (h : 1 ≤ k) (h2 : k < 9223372036854775808) : 2 ≤ (putN k).length := by
  rw [putN_length]
  have := (nlen_spec k h2).1
  have : nlen k ≠ 0 := fun g => by rw [g] at this; simp at this; omega
  omega
theorem body_five {n : Note} (h : fitsW n = true) : 5 ≤ (bodyB n).length := by
  unfold fitsW at h
  simp only [Bool.and_eq_true, Bool.not_eq_true', decide_eq_false_iff_not, Int.not_lt, Nat.not_lt, decide_eq_true_eq] at h
  obtain ⟨k1, k2, k3, k4, k5, k6, k7, k8⟩ := h
  have a1 := putN_pos (k := n.kind.toNat) (by omega) (by omega)
  have a2 : 1 ≤ (putN n.nums.length).length := by rw [putN_length]; omega
  have a3 : 1 ≤ (putN n.rows.length).length := by rw [putN_length]; omega
  unfold bodyB headB
  simp only [List.length_append]
  by_cases h1 : n.texts.length ≤ 4096
  · have : 1 ≤ (listB n.texts).length := by
      unfold listB
      rw [if_neg (by omega), if_pos (List.all_eq_true.2 fun s hs => by
        have := List.any_eq_false.1 k7 s hs
        simp only [longT, decide_eq_true_eq] at this
        simp; omega)]
      unfold Oct.putL
      rw [List.length_append, putN_length]; omega
    omega
  · have : 1 ≤ n.rows.length := by
      cases hr : n.rows with
      | nil => rw [hr] at k8; simp [manyF] at k8; omega
      | cons a b => simp
    have := putN_pos (k := n.rows.length) this (by omega)
    omega
theorem xor_u8 (a b : UInt8) : ∃ z : UInt8, ∀ K, A.bin .xor (.int .u8 (a.toNat : Nat)) (.int .u8 (b.toNat : Nat)) K = K (.int .u8 (z.toNat : Nat)) := by
  refine ⟨UInt8.ofNat (BitVec.ofInt IntKind.u8.bits (a.toNat : Nat) ^^^ BitVec.ofInt IntKind.u8.bits (b.toNat : Nat)).toNat, fun K => ?_⟩
  simp only [A.bin, if_true, u8_wrap, UInt8.toNat_ofNat']
theorem byF_set {l : List UInt8} {p : Nat} {z : UInt8} {j : Nat} (h : j ≠ p) : Crc.byF (l.set p z) j = Crc.byF l j := by
  unfold Crc.byF
  rw [List.getD_eq_getElem?_getD, List.getD_eq_getElem?_getD, List.getElem?_set_ne (by omega)]
theorem tells_loop (x7 : V) (by_ : Int) (id k len : Nat) (hk : k + 4 ≤ len) (hlen : len ≤ 9000000000000000000) : ∀ (f i : Nat) (l : List UInt8) (st : St), i ≤ 4 → 4 < f + i → st.ob id = some (.cells (bytV l)) → l.length = len →
    ∃ (l' : List UInt8) (st' : St), g5b111111010 f (.int .i64 by_) x7 (.sl id 0 len 1) (.int .i64 (k : Nat)) (.int .i64 (i : Nat)) st = g5b1111111 x7 (.sl id 0 len 1) st' ∧ st'.ob id = some (.cells (bytV l')) ∧ l'.length = len ∧ ∀ j, (j < k ∨ k + 4 ≤ j) → Crc.byF l' j = Crc.byF l j := by
  intro f
  induction f with
  | zero => intro i l st hi hf; omega
  | succ f ih =>
    intro i l st hi hf ho hl
    unfold g5b111111010
    by_cases h : i < 4
    · have e1 : ∀ K, A.bin .add (.int .i64 (k : Nat)) (.int .i64 (i : Nat)) K = K (.int .i64 ((k + i : Nat) : Int)) := fun K => bin_addN _ _ K (by omega)
      have e2 : ∀ K, A.bin .mul (.int .i64 8) (.int .i64 (i : Nat)) K = K (.int .i64 ((8 * i : Nat) : Int)) := fun K => bin_mulN 8 i K (by omega)
      have e3 : ∀ K, A.bin .shr (.int .i64 by_) (.int .i64 ((8 * i : Nat) : Int)) K = K (.int .i64 (by_ / (2 ^ (8 * i) : Nat))) := fun K => bin_shr K (by show 8 * i ≤ 64; omega)
      have e4 : ∀ (x : Int) K, A.bin .and (.int .i64 x) (.int .i64 255) K = K (.int .i64 (((x % (2 ^ 8 : Nat)).toNat : Nat) : Int)) := fun x K => bin_andN 8 255 rfl (by omega) K
      have e5 : ∀ K, A.bin .add (.int .i64 (i : Nat)) (.int .i64 1) K = K (.int .i64 ((i + 1 : Nat) : Int)) := fun K => bin_inc (by omega) K
      have hki : k + i < l.length := by omega
      have hget : (bytV l)[k + i]? = some (.int .u8 (l[k + i].toNat : Nat)) := by simp [bytV, hki]
      obtain ⟨z, hz⟩ := xor_u8 l[k + i] (UInt8.ofNat (by_ / (2 ^ (8 * i) : Nat) % (2 ^ 8 : Nat)).toNat)
      have ia : ∀ K, A.iaddr 1 (.sl id 0 len 1) (.int .i64 ((k + i : Nat) : Int)) K = K (.ptr id (k + i)) := fun K => by
        rw [iaddr_sl K (by omega)]; congr 2; omega
      have hset : (bytV l).set (k + i) (.int .u8 (z.toNat : Nat)) = bytV (l.set (k + i) z) := by
        unfold bytV; rw [List.map_set]
      simp only [bin_lss, show ((i : Int) < 4) from by omega, decide_true, guard_tt, e1, lenL_sl, show (((k + i : Nat) : Int) < (len : Int)) from by omega, cond_true]
      unfold g5b11111101001
      simp only [e1, ia, load_ob, ho, obo_some, hget, ob_some', e2, e3, e4, toInt_8, hz, store_int, bytV_len, hki, if_true, kid, noP_ret, e5, hset]
      obtain ⟨l', st', h1, h2, h3, h4⟩ := ih (i + 1) (l.set (k + i) z) (st.put id (.cells (bytV (l.set (k + i) z)))) (by omega) (by omega) (put_at _ _ _) (by simp [hl])
      refine ⟨l', st', h1, h2, h3, fun j hj => ?_⟩
      rw [h4 j hj, byF_set (by omega)]
    · have : i = 4 := by omega
      subst this
      simp only [bin_lss, show ¬ (((4 : Nat) : Int) < 4) from by omega, decide_false, guard_ft]
      exact ⟨l, st, rfl, ho, hl, fun _ _ => rfl⟩
theorem byF_take {s t : List UInt8} (hl : s.length = t.length) (k : Nat) (h : ∀ j, j < k → Crc.byF s j = Crc.byF t j) : s.take k = t.take k := by
  apply List.ext_getElem (by simp [hl])
  intro j h1 h2
  simp only [List.length_take] at h1 h2
  have := h j (by omega)
  unfold Crc.byF at this
  rw [List.getD_eq_getElem?_getD, List.getElem?_eq_getElem (by omega), List.getD_eq_getElem?_getD, List.getElem?_eq_getElem (by omega)] at this
  rw [List.getElem_take, List.getElem_take]
  exact UInt8.toNat_inj.1 this
theorem byF_drop (s : List UInt8) (a j : Nat) : Crc.byF (s.drop a) j = Crc.byF s (a + j) := by
  unfold Crc.byF
  rw [List.getD_eq_getElem?_getD, List.getD_eq_getElem?_getD, List.getElem?_drop]
/-- What is read of a note with other bytes. -/
theorem unp_burst {n : Note} (hp : packOK n = true) {t : List UInt8} (hl : t.length = (packB n).length) (k : Nat) (hk : 8 ≤ k) (hk2 : k + 4 ≤ t.length) (h : ∀ j, (j < k ∨ k + 4 ≤ j) → Crc.byF t j = Crc.byF (packB n) j) (hne : t ≠ packB n) : unpL t = (emptyN, 0, 30) := by
  simp only [packOK, Bool.and_eq_true, decide_eq_true_eq] at hp
  obtain ⟨hf, hb⟩ := hp
  have hlen : (packB n).length = 8 + (bodyB n).length := by
    unfold packB; rw [List.length_append, List.length_append, four_len, four_len]
  have t8 := byF_take hl 8 (fun j hj => h j (.inl (by omega)))
  have f4 : of4 t = (bodyB n).length := by
    have : t.take 4 = (packB n).take 4 := by
      have := congrArg (List.take 4) t8
      rw [List.take_take, List.take_take] at this; exact this
    unfold of4; rw [this]
    have := of4_four (bodyB n).length (by omega) (four (Crc.sum (bodyB n)) ++ bodyB n)
    unfold of4 at this
    rw [← this]; unfold packB; rw [List.append_assoc]
  have f8 : of4 (t.drop 4) = Crc.sum (bodyB n) := by
    have : (t.drop 4).take 4 = ((packB n).drop 4).take 4 := by
      have := congrArg (List.drop 4) t8
      rw [List.drop_take, List.drop_take] at this; exact this
    unfold of4; rw [this]
    have := of4_four (Crc.sum (bodyB n)) (Crc.sum_lt _) (bodyB n)
    unfold of4 at this
    rw [← this]; unfold packB
    rw [List.append_assoc, List.drop_left' (four_len _)]
  have hbd : (packB n).drop 8 = bodyB n := by
    unfold packB; rw [List.drop_left' (by rw [List.length_append, four_len, four_len])]
  have htk : (t.drop 8).take (bodyB n).length = t.drop 8 := List.take_of_length_le (by simp; omega)
  have hsum : Crc.sum (t.drop 8) ≠ Crc.sum (bodyB n) := by
    rw [← hbd]
    refine Crc.sum_burst (by simp [hl]) (k - 8) (by simp; omega) (fun j hj => ?_) (fun j hj => ?_) (fun g => hne ?_)
    · rw [byF_drop, byF_drop]; exact h _ (.inl (by omega))
    · rw [byF_drop, byF_drop]; exact h _ (.inr (by omega))
    · rw [← List.take_append_drop 8 t, ← List.take_append_drop 8 (packB n), t8, g]
  unfold unpL
  rw [f4, f8, if_neg (by omega), if_neg (by omega), if_neg (by omega), htk, if_pos hsum]
theorem wireTells_law (n : Note) (hn : NoteOK n) (a b : Int) (st : St) : ∃ st', s5 [noteV n, .int .i64 a, .int .i64 b] st = some (.ret (.bool true), st') := by
  rw [s5_eq]
  unfold f5
  have bx : ∀ K, A.box (noteV n) st K = K (.ptr st.n 0) (st.new (.cells (noteC n))) := fun K => rfl
  have ho := new_at st (.cells (noteC n))
  obtain ⟨c, hc⟩ := light_s n hn (st.new (.cells (noteC n)))
  have hnv : (V.agg (noteC n)).er1 = noteV n := rfl
  have e32 : ∀ K, A.bin .and (.int .i64 b) (.int .i64 4294967295) K = K (.int .i64 (((b % (2 ^ 32 : Nat)).toNat : Nat) : Int)) := fun K => bin_andN 32 4294967295 rfl (by omega) K
  simp only [bx, load_noteb ho, hnv, hc, ret_ret, un_not, e32]
  cases c with
  | false => simp only [Bool.not_false, guard_tf, s10_val, ret_ret, er1_bool]; exact ⟨_, rfl⟩
  | true =>
  simp only [Bool.not_true, guard_ff, eql_int, Bool.false_eq_true, if_false]
  cases h0 : ((((b % (2 ^ 32 : Nat)).toNat : Nat) : Int) == 0) with
  | true => simp only [cond_true, s10_val, ret_ret, er1_bool]; exact ⟨_, rfl⟩
  | false =>
  simp only [cond_false]
  unfold g5b11
  simp only [load_noteb ho, hnv, pack_s n hn, ret_ret]
  cases hp : packOK n with
  | false =>
    simp only [Bool.false_eq_true, if_false, P2, ext_0, ext_1, eql_int, if_true, show (((1 : Nat) : Int) != 0) = true from rfl, guard_tf]
    unfold g5b11101
    simp only [cond_true, eql_int, Bool.false_eq_true, if_false, show (((1 : Nat) : Int) == 1) = true from rfl, guard_tt, s10_val, ret_ret, er1_bool]
    exact ⟨_, rfl⟩
  | true =>
  have hp' := hp
  simp only [packOK, Bool.and_eq_true, decide_eq_true_eq] at hp'
  have h5 := body_five hp'.1
  have hlen : (packB n).length = 8 + (bodyB n).length := by
    unfold packB; rw [List.length_append, List.length_append, four_len, four_len]
  simp only [if_true, P2, ext_0, ext_1, eql_int, show (((0 : Nat) : Int) != 0) = false from rfl, guard_ff, lenS_str, bin_lss, show ¬ (((packB n).length : Int) < 13) from by omega, decide_false]
  unfold g5b11101
  simp only [cond_false]
  unfold g5b1111
  have e20 : ∀ K, A.bin .and (.int .i64 a) (.int .i64 1048575) K = K (.int .i64 (((a % (2 ^ 20 : Nat)).toNat : Nat) : Int)) := fun K => bin_andN 20 1048575 rfl (by omega) K
  have es : ∀ K, A.bin .sub (.int .i64 ((packB n).length : Nat)) (.int .i64 11) K = K (.int .i64 (((packB n).length - 11 : Nat) : Int)) := fun K => bin_subN (packB n).length 11 K (by omega) (by omega)
  have er : ∀ K, A.bin .rem (.int .i64 (((a % (2 ^ 20 : Nat)).toNat : Nat) : Int)) (.int .i64 (((packB n).length - 11 : Nat) : Int)) K = K (.int .i64 (((a % (2 ^ 20 : Nat)).toNat % ((packB n).length - 11) : Nat) : Int)) := fun K => bin_remN _ _ K (by omega)
  have hm := Nat.mod_lt (a % (2 ^ 20 : Nat)).toNat (show 0 < (packB n).length - 11 by omega)
  have ea : ∀ K, A.bin .add (.int .i64 8) (.int .i64 (((a % (2 ^ 20 : Nat)).toNat % ((packB n).length - 11) : Nat) : Int)) K = K (.int .i64 ((8 + (a % (2 ^ 20 : Nat)).toNat % ((packB n).length - 11) : Nat) : Int)) := fun K => bin_addN 8 _ K (by omega)
  generalize hk : 8 + (a % (2 ^ 20 : Nat)).toNat % ((packB n).length - 11) = k at ea
  generalize hst : st.new (.cells (noteC n)) = st1
  have tb : ∀ K, A.toBytesM (.str (packB n)) st1 K = K (.sl st1.n 0 (packB n).length 1) (st1.new (.cells (bytV (packB n)))) := fun K => rfl
  simp only [tb, e20, lenS_str, es, er, ea]
  unfold g5b111111
  obtain ⟨l', st2, r1, r2, r3, r4⟩ := tells_loop (.str (packB n)) b st1.n k (packB n).length (by omega) (by omega) big 0 (packB n) (st1.new (.cells (bytV (packB n)))) (by omega) (by have := big_le; omega) (new_at _ _) rfl
  rw [show ((0 : Nat) : Int) = 0 from rfl] at r1
  rw [r1]
  unfold g5b1111111
  have ts : ∀ K, A.toStr (.sl st1.n 0 (packB n).length 1) st2 K = K (.str l') := fun K => by
    have h1 : (1 = 1 ∧ 0 + (packB n).length ≤ (bytV l').length) := ⟨rfl, by rw [bytV_len, r3]; omega⟩
    have h2 : ((bytV l').drop 0).take (packB n).length = bytV l' := by rw [List.drop_zero, List.take_of_length_le (by rw [bytV_len, r3]; exact Nat.le_refl _)]
    simp only [A.toStr, r2, h1, and_self, if_true, h2, byteL_bytV]
  simp only [ts, eql_str, Bool.false_eq_true, if_false]
  by_cases heq : l' = packB n
  · simp only [heq, beq_self_eq_true, cond_true, s10_val, ret_ret, er1_bool]; exact ⟨_, rfl⟩
  have hne : (l' == packB n) = false := by simp [heq]
  have hu := (unp_s l' (by omega) st2).1
  rw [unp_burst hp r3 k (by omega) (by omega) r4 heq] at hu
  simp only [hne, cond_false, er1_str, hu, ret_ret, U3, ext_0, ext_1, ext_2, box_zero, store_note (new_at st2 _), put_put]
  unfold g5b111111111
  have ob := put_at (st2.new (.cells (nC 0 [] 1 [] 1 [] 1))) st2.n (.cells (noteC emptyN))
  have b4 : ∀ K, A.build [.int .i64 0, .lst [] 1, .lst [] 1, .lst [] 1] [] K = K (.agg (nC 0 [] 1 [] 1 [] 1)) := fun K => rfl
  have hv1 : (V.agg (noteC emptyN)).er1 = noteV emptyN := rfl
  have hv2 : (V.agg (nC 0 [] 1 [] 1 [] 1)).er1 = noteV emptyN := rfl
  have hs : sameN emptyN emptyN = true := sameN_iff.2 rfl
  simp only [load_noteb ob, b4, hv1, hv2, noteSame_s _ _ small_empty.sm, hs, ret_ret, guard_tt, eql_int, Bool.false_eq_true, if_false, show (((0 : Nat) : Int) == 0) = true from rfl]
  unfold g5b1111111110_8
  simp only [guard_tt, eql_int, Bool.false_eq_true, if_false, show (((30 : Nat) : Int) == 30) = true from rfl, s10_val, ret_ret, er1_bool]
  exact ⟨_, rfl⟩
theorem in_note {n : Nat} {x : V} (s : Sh Try.prog n 27 x.cells) (f : fit Try.prog 27 x) : ∃ m : Note, x = noteV m ∧ NoteOK m := by
  obtain ⟨cs, rfl⟩ := fit_ag f (isAg_of.2 (.inl ⟨_, Try.underlying27⟩))
  obtain ⟨k, h1, h2⟩ := s.struct Try.underlying27
  rw [cells_agg] at h1 h2
  have c27 : Try.prog.cellsOf 27 = 4 := by kernel_rfl
  have c3 : Try.prog.cellsOf 3 = 1 := by kernel_rfl
  have c23 : Try.prog.cellsOf 23 = 1 := by kernel_rfl
  have c24 : Try.prog.cellsOf 24 = 1 := by kernel_rfl
  have c25 : Try.prog.cellsOf 25 = 1 := by kernel_rfl
  rw [c27] at h1
  obtain ⟨a, b, c, d, rfl⟩ : ∃ a b c d, cs = [a, b, c, d] := by
    match cs, h1 with
    | [a, b, c, d], _ => exact ⟨a, b, c, d, rfl⟩
  have q0 := h2 ⟨ "Kind", 3, 0, false, "", "", 0⟩ (by simp)
  have q1 := h2 ⟨ "Nums", 23, 1, false, "", "", 8⟩ (by simp)
  have q2 := h2 ⟨ "Texts", 24, 2, false, "", "", 32⟩ (by simp)
  have q3 := h2 ⟨ "Rows", 25, 3, false, "", "", 56⟩ (by simp)
  simp only [c3, c23, c24, c25, List.drop_zero, List.drop_succ_cons, List.take_succ_cons, List.take_zero] at q0 q1 q2 q3
  obtain ⟨kind, e0, _⟩ := q0.int Try.underlying3
  obtain ⟨l1, m1, e1, g1, w1⟩ := q1.slice Try.underlying23
  obtain ⟨l2, m2, e2, g2, w2⟩ := q2.slice Try.underlying24
  obtain ⟨l3, m3, e3, g3, w3⟩ := q3.slice Try.underlying25
  cases e0; cases e1; cases e2; cases e3
  obtain ⟨nums, rfl, _⟩ := list_pick (g := fun x => V.int .i64 x) (Q := fun _ => True) (l := l1) (fun v hv => by
    obtain ⟨y, r1, _⟩ := in_int (w1 v hv).1 (w1 v hv).2 Try.underlying3
    exact ⟨y, r1, trivial⟩)
  obtain ⟨texts, rfl, _⟩ := list_pick (g := V.str) (Q := fun _ => True) (l := l2) (fun v hv => by
    obtain ⟨y, r1, _⟩ := in_str (w2 v hv).1 (w2 v hv).2 Try.underlying9
    exact ⟨y, r1, trivial⟩)
  obtain ⟨rows, rfl, hr⟩ := list_pick (g := fun r => V.lst (strsV r) 0) (Q := fun r => r.length ≤ 9223372036854775807) (l := l3) (fun v hv => by
    obtain ⟨y, r1, r2, _⟩ := in_strs (w3 v hv).1 (w3 v hv).2 Try.underlying24 Try.underlying9
    exact ⟨y, r1, r2⟩)
  exact ⟨⟨kind, nums, texts, rows⟩, rfl, ⟨by simpa [maxLen] using g1, by simpa [maxLen] using g2, by simpa [maxLen] using g3, hr⟩⟩
theorem wireTells_row {W : World} {v0 v1 v2 : Value} {x0 x1 x2 : V} {n0 n1 n2 : Nat}
    (r0 : Rs (E0 W) [x0] [v0]) (s0 : Sh Try.prog n0 27 x0.cells) (f0 : fit Try.prog 27 x0)
    (r1 : Rs (E0 W) [x1] [v1]) (s1 : Sh Try.prog n1 3 x1.cells) (f1 : fit Try.prog 3 x1)
    (r2 : Rs (E0 W) [x2] [v2]) (s2 : Sh Try.prog n2 3 x2.cells) (f2 : fit Try.prog 3 x2) :
    Calls Try.prog 5 #[v0, v1, v2] W fun e w' => e = .returned (.bool true) ∧ Below W.heap.size W w' := by
  obtain ⟨n, rfl, hn⟩ := in_note s0 f0
  obtain ⟨a, rfl, _⟩ := in_int s1 f1 Try.underlying3
  obtain ⟨b, rfl, _⟩ := in_int s2 f2 Try.underlying3
  obtain ⟨st', hs⟩ := wireTells_law n hn a b St0
  exact bool_row sim5 W _ _ _ hs (Rs.cons r0 (Rs.cons r1 r2))
end Go.Ab
