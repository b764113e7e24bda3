import Derived.Test.YtnnjfbbflfbcaaaAbW03c
/- sinew/octet: numbers and texts that are written. -/
namespace Go.Ab
open Go.RowKit Go.Oct
set_option linter.unusedVariables false
set_option linter.unusedSimpArgs false

theorem u8_wrap (m : Nat) : IntKind.u8.wrap (m : Nat) = ((m % 256 : Nat) : Int) := by
  simp [IntKind.wrap, IntKind.bits, IntKind.signed]
theorem toInt_8 (m : Nat) (K : V → Res) : A.toInt .u8 (.int .i64 (m : Nat)) K = K (.int .u8 ((UInt8.ofNat m).toNat : Nat)) := by
  simp only [A.toInt, u8_wrap, UInt8.toNat_ofNat']
theorem byteL_bytV : ∀ s : List UInt8, byteL (bytV s) = some s
  | [] => rfl
  | b :: s => by
    show byteL (V.int .u8 (b.toNat : Nat) :: bytV s) = _
    unfold byteL
    rw [byteL_bytV s]
    simp
theorem bytV_cons (b : UInt8) (s : List UInt8) : bytV (b :: s) = V.int .u8 (b.toNat : Nat) :: bytV s := rfl
@[simp] theorem bytV_len (s : List UInt8) : (bytV s).length = s.length := bytV_length s
@[simp] theorem toStr_bytV (s : List UInt8) (t : Nat) (st : St) (K : V → Res) : A.toStr (.lst (bytV s) t) st K = K (.str s) := by simp [A.toStr, byteL_bytV]
@[simp] theorem szok_bytV (s : List UInt8) : szok 1 (bytV s) = true := szok_map (fun _ => rfl) s
theorem bytV_one (s : List UInt8) : ∀ v ∈ bytV s, v.one = true := by
  intro v hv; obtain ⟨b, _, rfl⟩ := List.mem_map.mp hv; rfl
@[simp] theorem ones_bytV (s : List UInt8) : ones (bytV s) = true := List.all_eq_true.2 (bytV_one s)
@[simp] theorem puL_bytV (xs : List UInt8) : V.puL (bytV xs) = true := puL_of (by intro v hv; obtain ⟨x, _, rfl⟩ := List.mem_map.1 hv; rfl)
def P2 (s : List UInt8) (e : Nat) : V := .tup [.str s, .int .i64 (e : Nat)]
theorem digs_toNat (n j : Nat) : (UInt8.ofNat (n / 256 ^ j)).toNat = n / 256 ^ j % 256 := by rw [UInt8.toNat_ofNat']
theorem ofNat_mod (m : Nat) : UInt8.ofNat (m % 256) = UInt8.ofNat m := by
  apply UInt8.toNat_inj.1; rw [UInt8.toNat_ofNat', UInt8.toNat_ofNat']; omega
/-! ### octet.PutNum -/
theorem put_loop (n : Nat) (hn : n < 9223372036854775808) (id : Nat) : ∀ (f j : Nat) (st : St), j ≤ nlen n → nlen n < f + j → st.ob id = some (.cells (bytV (List.replicate (9 - j) 0 ++ digsN n j))) →
    ∃ o, g48b111100 f (.int .i64 ((n / 256 ^ j : Nat) : Int)) (.ptr id 0) (.int .i64 ((9 - j : Nat) : Int)) st = some (.ret (P2 (putN n) 0), st.put id o) := by
  have hs := nlen_spec n hn
  have h8 := nlen_le n
  intro f
  induction f with
  | zero => intro j st hj hf; omega
  | succ f ih =>
    intro j st hj hf hob
    have e1 : ∀ K, A.bin .sub (.int .i64 ((9 - j : Nat) : Int)) (.int .i64 1) K = K (.int .i64 ((8 - j : Nat) : Int)) := fun K => by
      rw [show (1 : Int) = ((1 : Nat) : Int) from rfl, bin_subN _ _ K (by omega) (by omega)]; congr 3; omega
    have hlen : (bytV (List.replicate (9 - j) 0 ++ digsN n j)).length = 9 := by simp [digsN_length]; omega
    have set : ∀ b : UInt8, (bytV (List.replicate (9 - j) 0 ++ digsN n j)).set (8 - j) (.int .u8 (b.toNat : Nat)) = bytV (List.replicate (8 - j) 0 ++ b :: digsN n j) := fun b => by
      rw [show 9 - j = (8 - j) + 1 by omega, List.replicate_succ', List.append_assoc, bytV_append (List.replicate (8 - j) 0), bytV_append (List.replicate (8 - j) 0), List.set_append_right _ _ (by simp)]
      simp [bytV]
    have hi : (0 : Int) ≤ ((8 - j : Nat) : Int) ∧ ((8 - j : Nat) : Int) < ((9 : Nat) : Int) := by omega
    unfold g48b111100
    by_cases h : j < nlen n
    · have hne := hs.2 j h
      have hdiv : n / 256 ^ j / 2 ^ 8 = n / 256 ^ (j + 1) := by
        show n / 256 ^ j / 256 = _
        rw [Nat.div_div_eq_div_mul, Nat.pow_succ]
      have hpos : (0 : Int) < ((n / 256 ^ j : Nat) : Int) := Int.natCast_pos.2 (Nat.pos_of_ne_zero hne)
      have e2 : ∀ K, A.bin .shr (.int .i64 ((n / 256 ^ j : Nat) : Int)) (.int .u64 8) K = K (.int .i64 ((n / 256 ^ (j + 1) : Nat) : Int)) := fun K => by
        rw [show (8 : Int) = ((8 : Nat) : Int) from rfl, bin_shrL _ 8 .u64 K (by omega), hdiv]
      simp only [bin_gtr, hpos, decide_true, cond_true, e1, toInt_8, iaddrA_ptr, hi, and_self, if_true, Int.toNat_natCast, Nat.zero_add, Nat.mul_one, store_int, hob, obo_some, hlen, show 8 - j < 9 from by omega, set, e2]
      obtain ⟨o, ho⟩ := ih (j + 1) (st.put id (.cells (bytV (List.replicate (8 - j) 0 ++ UInt8.ofNat (n / 256 ^ j) :: digsN n j)))) (by omega) (by omega) (by
        rw [put_at, digsN_succ, ofNat_mod, show 9 - (j + 1) = 8 - j by omega])
      rw [show 9 - (j + 1) = 8 - j by omega] at ho
      exact ⟨o, by rw [ho, put_put]⟩
    · have hj' : j = nlen n := by omega
      have h0 : n / 256 ^ j = 0 := by rw [hj']; exact Nat.div_eq_of_lt hs.1
      have e3 : ∀ K, A.bin .sub (.int .i64 9) (.int .i64 ((8 - j : Nat) : Int)) K = K (.int .i64 ((j + 1 : Nat) : Int)) := fun K => by
        rw [show (9 : Int) = ((9 : Nat) : Int) from rfl, bin_subN _ _ K (by omega) (by omega)]; congr 3; omega
      have e4 : ∀ K, A.bin .sub (.int .i64 ((j + 1 : Nat) : Int)) (.int .i64 1) K = K (.int .i64 (j : Nat)) := fun K => by
        rw [show (1 : Int) = ((1 : Nat) : Int) from rfl, bin_subN _ _ K (by omega) (by omega)]; rfl
      have hlen2 : (bytV (List.replicate (8 - j) 0 ++ UInt8.ofNat j :: digsN n j)).length = 9 := by simp [digsN_length]; omega
      have hdrop : ((bytV (List.replicate (8 - j) 0 ++ UInt8.ofNat j :: digsN n j)).drop (8 - j)).take (9 - (8 - j)) = bytV (putN n) := by
        rw [bytV_append, List.drop_left' (by simp), List.take_of_length_le (by simp [digsN_length]; omega), putN_eq, hj']
      simp only [h0, bin_gtr, show ¬ ((0 : Int) < ((0 : Nat) : Int)) from by omega, decide_false, cond_false, e1, e3, e4, toInt_8, iaddrA_ptr, hi, and_self, if_true, Int.toNat_natCast, Nat.zero_add, Nat.mul_one, store_int, hob, obo_some, hlen, show 8 - j < 9 from by omega, set]
      refine ⟨.cells (bytV (List.replicate (8 - j) 0 ++ UInt8.ofNat j :: digsN n j)), ?_⟩
      have hb : bnd (some (.int .i64 ((8 - j : Nat) : Int))) 0 = some (8 - j) := by simp [bnd]
      have hb2 : bnd none 9 = some 9 := rfl
      have hc : 8 - j ≤ 9 ∧ 9 ≤ 9 ∧ 0 + 9 * 1 ≤ 9 := by omega
      have hc2 : (1 = 1 ∧ 8 - j + (9 - (8 - j)) ≤ 9) := by omega
      simp only [A.sliceA, put_at, hb, hb2, hlen2, hc, and_self, if_true, A.toStr, Nat.zero_add, Nat.mul_one, hc2, hdrop, byteL_bytV, P2, er1_str, er1_int]
      rfl
theorem putnum_s (n : Nat) (hn : n < 9223372036854775808) (st : St) : s48 [.int .i64 (n : Nat)] st = some (.ret (P2 (putN n) 0), st) := by
  rw [s48_eq]
  have key : ∃ st', f48 (.int .i64 (n : Nat)) st = some (.ret (P2 (putN n) 0), st') ∧ Ks st st' := by
    unfold f48
    simp only [bin_lss, show ¬ ((n : Int) < 0) from by omega, decide_false, cond_false]
    rw [box_agg _ _ _ rfl]
    obtain ⟨o, ho⟩ := put_loop n hn st.n big 0 (st.new (.cells (bytV (List.replicate 9 0)))) (by omega) (by have := big_le; have := nlen_le n; omega) (by rw [new_at]; rfl)
    refine ⟨(st.new (.cells (bytV (List.replicate 9 0)))).put st.n o, ?_, ((Ks.refl st).new _).put (Nat.le_refl _) o⟩
    rw [← ho, Nat.pow_zero, Nat.div_one]; rfl
  obtain ⟨st', h1, h2⟩ := key
  exact fg_of h1 h2 rfl
theorem putnum_neg (n : Int) (hn : n < 0) (st : St) : s48 [.int .i64 n] st = some (.ret (P2 [] 1), st) := by
  rw [s48_eq]
  refine fg_of (st' := st) (v := P2 [] 1) ?_ (Ks.refl st) rfl
  unfold f48
  simp only [bin_lss, hn, decide_true, cond_true, er1_str, er1_int]; rfl
/-! ### sinewref01.PutNum -/
@[simp] theorem bslice_u8 (x : Int) (K : V → Res) : A.bslice 1 (.int .u8 0) 1 [(0, .int .u8 x)] K = K (.lst [.int .u8 x] 2) := by simp [A.bslice, setP, V.er, List.replicate]
theorem appB_lst (sz : Nat) (l : List V) (t : Nat) (new : Option (List V)) (st : St) (K : V → St → Res) : A.appB sz (.lst l t) new st K = A.app sz (.lst l t) new st K := rfl
theorem rput_low (n : Nat) (hn : n < 9223372036854775808) (st0 : St) : ∀ (f j : Nat) (t : Nat) (st : St), j ≤ nlen n → nlen n < f + j → Own st0 st 1 t → Ks st0 st →
    ∃ t' st', g51b11100 f (.int .i64 ((n / 256 ^ j : Nat) : Int)) (.lst (bytV (digsN n j).reverse) t) st = g51b1111 (.lst (bytV (digsN n (nlen n)).reverse) t') st' ∧ Ks st0 st' := by
  have hs := nlen_spec n hn
  have h8 := nlen_le n
  intro f
  induction f with
  | zero => intro j t st hj hf; omega
  | succ f ih =>
    intro j t st hj hf ho hks
    unfold g51b11100
    by_cases h : j < nlen n
    · have hne := hs.2 j h
      have hdiv : n / 256 ^ j / 256 = n / 256 ^ (j + 1) := by rw [Nat.div_div_eq_div_mul, Nat.pow_succ]
      have hpos : (0 : Int) < ((n / 256 ^ j : Nat) : Int) := Int.natCast_pos.2 (Nat.pos_of_ne_zero hne)
      have hle : n / 256 ^ j ≤ n := Nat.div_le_self _ _
      have e1 : ∀ K, A.bin .rem (.int .i64 ((n / 256 ^ j : Nat) : Int)) (.int .i64 256) K = K (.int .i64 ((n / 256 ^ j % 256 : Nat) : Int)) := fun K => bin_remN _ 256 K (by omega)
      have e2 : ∀ K, A.bin .quo (.int .i64 ((n / 256 ^ j : Nat) : Int)) (.int .i64 256) K = K (.int .i64 ((n / 256 ^ (j + 1) : Nat) : Int)) := fun K => by
        rw [bin_quo K (by omega) (by omega) (by omega), ← hdiv]; congr 2
      simp only [bin_gtr, hpos, decide_true, cond_true, e1, toInt_8, bslice_u8, elemsOf_single _ _ _ (one_int _ _), appB_lst]
      rw [app_own _ ho (by simp [digsN_length]; omega) (szok_bytV _)]
      simp only [e2]
      obtain ⟨k2, o2⟩ := ho.app hks
      have := ih (j + 1) (st.nt + 3) _ (by omega) (by omega) o2 k2
      rw [digsN_succ, List.reverse_cons, bytV_append] at this
      exact this
    · have hj' : j = nlen n := by omega
      have h0 : n / 256 ^ j = 0 := by rw [hj']; exact Nat.div_eq_of_lt hs.1
      simp only [h0, bin_gtr, show ¬ ((0 : Int) < ((0 : Nat) : Int)) from by omega, decide_false, cond_false]
      rw [hj']
      exact ⟨t, st, rfl, hks⟩
theorem iaddr_bytV {s : List UInt8} {i : Nat} (t : Nat) (h : i < s.length) (K : V → Res) : A.iaddr 1 (.lst (bytV s) t) (.int .i64 (i : Nat)) K = K (.lptr [.int .u8 (s[i].toNat : Nat)]) := iaddr_lst (v := .int .u8 (s[i].toNat : Nat)) K (by simp [bytV, h]) rfl
theorem rput_out (L : List UInt8) (x : UInt8) (hL : L.length ≤ 8) (u : Nat) (st0 : St) : ∀ (f m : Nat) (t : Nat) (st : St), m ≤ L.length → L.length < f + m → Own st0 st 1 t → Ks st0 st →
    ∃ st', g51b111111010 f (.lst (bytV L.reverse) u) (.lst (bytV (x :: L.take m)) t) (.int .i64 ((L.length : Int) - 1 - m)) st = some (.ret (P2 (x :: L) 0), st') ∧ Ks st0 st' := by
  intro f
  induction f with
  | zero => intro m t st hm hf; omega
  | succ f ih =>
    intro m t st hm hf ho hks
    unfold g51b111111010
    by_cases h : m < L.length
    · have hi : L.length - 1 - m < L.reverse.length := by simp; omega
      have hget : L.reverse[L.length - 1 - m] = L[m] := by
        rw [List.getElem_reverse]; congr 1; omega
      have e1 : ∀ K, A.bin .sub (.int .i64 ((L.length : Int) - 1 - m)) (.int .i64 1) K = K (.int .i64 ((L.length : Int) - 1 - (m + 1 : Nat))) := fun K => by
        rw [bin_sub K (by omega) (by omega)]; congr 2; omega
      have e2 : ∀ K, A.iaddr 1 (.lst (bytV L.reverse) u) (.int .i64 ((L.length : Int) - 1 - m)) K = K (.lptr [.int .u8 (L[m].toNat : Nat)]) := fun K => by
        rw [show (L.length : Int) - 1 - m = ((L.length - 1 - m : Nat) : Int) by omega, iaddr_bytV u hi, hget]
      simp only [bin_geq, show ((0 : Int) ≤ (L.length : Int) - 1 - m) from by omega, decide_true, cond_true, e2, load_l1', bslice_u8, elemsOf_single _ _ _ (one_int _ _), appB_lst]
      rw [app_own _ ho (by simp; omega) (szok_bytV _)]
      simp only [e1]
      obtain ⟨k2, o2⟩ := ho.app hks
      have := ih (m + 1) (st.nt + 3) _ (by omega) (by omega) o2 k2
      rw [List.take_succ_eq_append_getElem h, ← List.cons_append, bytV_append] at this
      exact this
    · have : m = L.length := by omega
      subst this
      simp only [bin_geq, show ¬ ((0 : Int) ≤ (L.length : Int) - 1 - (L.length : Nat)) from by omega, decide_false, cond_false, toStr_bytV, er1_str, er1_int, List.take_length]
      exact ⟨st, rfl, hks⟩
theorem rputnum_s (n : Nat) (hn : n < 9223372036854775808) (st : St) : s51 [.int .i64 (n : Nat)] st = some (.ret (P2 (putN n) 0), st) := by
  rw [s51_eq]
  have h8 := nlen_le n
  have key : ∃ st', f51 (.int .i64 (n : Nat)) st = some (.ret (P2 (putN n) 0), st') ∧ Ks st st' := by
    unfold f51
    simp only [bin_lss, show ¬ ((n : Int) < 0) from by omega, decide_false, cond_false]
    obtain ⟨t', st', h1, h2⟩ := rput_low n hn st big 0 1 st (by omega) (by have := big_le; omega) (Own.nil _ _ _) (Ks.refl st)
    simp only [Nat.pow_zero, Nat.div_one] at h1
    rw [show (V.lst [] 1) = .lst (bytV (digsN n 0).reverse) 1 from rfl, h1]
    unfold g51b1111
    have e1 : ∀ K, A.bin .sub (.int .i64 (nlen n : Nat)) (.int .i64 1) K = K (.int .i64 ((nlen n : Int) - 1)) := fun K => bin_sub K (by omega) (by omega)
    simp only [lenL_lst, bytV_len, List.length_reverse, digsN_length, toInt_8, bslice_u8, elemsOf_single _ _ _ (one_int _ _), appB_lst]
    rw [app_own _ (Own.nil st st' 1) (by simp) rfl]
    obtain ⟨k2, o2⟩ := (Own.nil st st' 1).app h2
    simp only [e1]
    unfold g51b11111101
    obtain ⟨st2, r1, r2⟩ := rput_out (digsN n (nlen n)) (UInt8.ofNat (nlen n)) (by rw [digsN_length]; omega) t' st big 0 (st'.nt + 3) _ (by omega) (by have := big_le; rw [digsN_length]; omega) o2 k2
    refine ⟨st2, ?_, r2⟩
    rw [digsN_length] at r1
    rw [putN_eq, ← r1]
    simp [bytV]
  obtain ⟨st', h1, h2⟩ := key
  exact fg_of h1 h2 rfl
end Go.Ab
