import Derived.Test.YtjdgaphjjhhjeaaAbP045
import Derived.Test.YtjdgaphjjhhjeaaAbSpec
import Derived.Test.YtjdgaphjjhhjeaaAbOct
import Derived.Test.YtjdgaphjjhhjeaaAbCrc
/- sinew/octet: what is read. -/
namespace Go.Ab
open Go.RowKit Go.Oct
set_option linter.unusedVariables false
set_option linter.unusedSimpArgs false

theorem bin_shl64 (x j : Nat) (K : V → Res) (hj : j ≤ 64) (h : x * 2 ^ j ≤ 9223372036854775807) : A.bin .shl (.int .i64 (x : Nat)) (.int .u64 (j : Nat)) K = K (.int .i64 ((x * 2 ^ j : Nat) : Int)) := by
  have : ¬ ((j : Int) < 0) := by omega
  simp only [A.bin, this, if_false, Int.toNat_natCast]
  rw [show min j IntKind.i64.bits = j by simp [IntKind.bits]; omega]
  have e : ((x : Int) * 2 ^ j) = ((x * 2 ^ j : Nat) : Int) := by push_cast; rfl
  rw [e, wrap_i64 (by omega) (by omega)]
theorem bin_orJ (x y j : Nat) (K : V → Res) (hy : y < 2 ^ j) (h : x * 2 ^ j + y ≤ 9223372036854775807) : A.bin .or (.int .i64 ((x * 2 ^ j : Nat) : Int)) (.int .i64 (y : Nat)) K = K (.int .i64 ((x * 2 ^ j + y : Nat) : Int)) := by
  simp only [A.bin, if_true]
  have h1 : (BitVec.ofInt IntKind.i64.bits ((x * 2 ^ j : Nat) : Int)).toNat = x * 2 ^ j := by
    rw [BitVec.toNat_ofInt, show IntKind.i64.bits = 64 from rfl]
    generalize x * 2 ^ j = m at h ⊢
    simp; omega
  have h2 : (BitVec.ofInt IntKind.i64.bits (y : Int)).toNat = y := by rw [BitVec.toNat_ofInt, show IntKind.i64.bits = 64 from rfl]; simp; omega
  rw [BitVec.toNat_or, h1, h2]
  have e : x * 2 ^ j ||| y = x * 2 ^ j + y := by
    have := Nat.shiftLeft_add_eq_or_of_lt hy x
    rw [Nat.shiftLeft_eq] at this
    exact this.symm
  rw [e, wrap_i64 (by omega) (by omega)]
theorem idxS_0 (b : UInt8) (r : List UInt8) (K : V → Res) : A.idxS (.str (b :: r)) (.int .i64 0) K = K (.int .u8 (b.toNat : Nat)) := rfl
theorem idxS_1 (b c : UInt8) (r : List UInt8) (K : V → Res) : A.idxS (.str (b :: c :: r)) (.int .i64 1) K = K (.int .u8 (c.toNat : Nat)) := rfl
theorem toInt_u8 (b : UInt8) (K : V → Res) : A.toInt .i64 (.int .u8 (b.toNat : Nat)) K = K (.int .i64 (b.toNat : Nat)) := by
  have := b.toNat_lt
  simp only [A.toInt]; rw [wrap_i64 (by omega) (by omega)]
def N3 (x : Nat × Nat × Nat) : V := .tup [.int .i64 (x.1 : Nat), .int .i64 (x.2.1 : Nat), .int .i64 (x.2.2 : Nat)]
theorem badN_cons {k : Nat} {c : UInt8} {r : List UInt8} (h : 0 < k) : badN k (c :: r) = (c.toNat == 0 || (k == 8 && decide (128 ≤ c.toNat))) := by
  simp [badN, h]
/-! ### octet.Num -/
theorem num_loop (b : UInt8) (r : List UInt8) (k : Nat) (hk : k ≤ r.length) (h8 : k ≤ 8) (hl : r.length ≤ 4611686018427387903) (hv : ∀ j, j ≤ k → val (r.take j) < 9223372036854775808) (st : St) : ∀ (n i : Nat), i ≤ k → k < n + i →
    g63b1111010 n (.str (b :: r)) (.int .i64 (val (r.take i) : Nat)) (.int .i64 (k : Nat)) (.int .i64 (k : Nat)) (.int .i64 (i : Nat)) st = some (.ret (N3 (val (r.take k), k + 1, 0)), st) := by
  intro n
  induction n with
  | zero => intro i hi hn; omega
  | succ n ih =>
    intro i hi hn
    have e9 : ∀ m : Nat, m ≤ 4611686018427387903 → ∀ K, A.bin .add (.int .i64 (m : Nat)) (.int .i64 1) K = K (.int .i64 ((m + 1 : Nat) : Int)) := fun m hm K => bin_inc (by omega) K
    by_cases h : i < k
    · have hir : i < r.length := by omega
      have hv1 := hv (i + 1) (by omega)
      have hb := r[i].toNat_lt
      have hval : val (r.take (i + 1)) = val (r.take i) * 256 + r[i].toNat := by rw [List.take_succ_eq_append_getElem hir, val_snoc]
      have e1 : ∀ K, A.bin .shl (.int .i64 (val (r.take i) : Nat)) (.int .u64 8) K = K (.int .i64 ((val (r.take i) * 2 ^ 8 : Nat) : Int)) := fun K => by
        rw [show (8 : Int) = ((8 : Nat) : Int) from rfl]; exact bin_shl64 _ 8 K (by omega) (by omega)
      have e2 : ∀ K, A.idxS (.str (b :: r)) (.int .i64 ((i + 1 : Nat) : Int)) K = K (.int .u8 (r[i].toNat : Nat)) := fun K => by
        rw [idxS_at (show i + 1 < (b :: r).length by simp; omega)]; rfl
      have e3 : ∀ K, A.bin .or (.int .i64 ((val (r.take i) * 2 ^ 8 : Nat) : Int)) (.int .i64 (r[i].toNat : Nat)) K = K (.int .i64 ((val (r.take i) * 2 ^ 8 + r[i].toNat : Nat) : Int)) := fun K => bin_orJ _ _ 8 K (by omega) (by omega)
      unfold g63b1111010
      simp only [bin_lss, cond_true, show ((i : Int) < (k : Int)) from by omega, decide_true, e1, e9 i (by omega), e2, toInt_u8, e3]
      rw [show val (r.take i) * 2 ^ 8 + r[i].toNat = val (r.take (i + 1)) by omega]
      exact ih (i + 1) (by omega) (by omega)
    · have : i = k := by omega
      subst this
      unfold g63b1111010
      simp only [bin_lss, Int.lt_irrefl, decide_false, cond_false, e9 i (by omega), er1_int]
      rfl
theorem num_s (s : List UInt8) (hs : s.length ≤ 4611686018427387903) (st : St) : s63 [.str s] st = some (.ret (N3 (numL s)), st) := by
  rw [s63_eq]
  cases s with
  | nil => unfold f63; simp [N3, numL]
  | cons b r =>
    have hb := b.toNat_lt
    have hr : r.length ≤ 4611686018427387903 := by simp at hs; omega
    have e0 : ((b :: r) == ([] : List UInt8)) = false := rfl
    have c1 : (((b :: r).length : Nat) : Int) = (r.length : Int) + 1 := by simp
    unfold f63
    simp only [eql_str, Bool.false_eq_true, if_false, e0, cond_false, idxS_0, bin_gtr, lenS_str, toInt_u8, bin_leq, c1]
    rw [numL_cons]
    by_cases h1 : 8 < b.toNat
    · simp only [show ((8 : Int) < (b.toNat : Int)) from by omega, decide_true, cond_true, er1_int, if_pos h1]; rfl
    · simp only [show ¬ ((8 : Int) < (b.toNat : Int)) from by omega, decide_false, cond_false, if_neg h1]
      by_cases h2 : r.length < b.toNat
      · simp only [show ((r.length : Int) + 1 ≤ (b.toNat : Int)) from by omega, decide_true, cond_true, er1_int, if_pos h2]; rfl
      · simp only [show ¬ ((r.length : Int) + 1 ≤ (b.toNat : Int)) from by omega, decide_false, cond_false, if_neg h2]
        have go : badN b.toNat r = false → g63b1111 (.str (b :: r)) (.int .i64 0) (.int .i64 (b.toNat : Nat)) st = some (.ret (N3 (val (r.take b.toNat), b.toNat + 1, 0)), st) := fun hbad => by
          unfold g63b1111
          have := num_loop b r b.toNat (by omega) (by omega) hr (fun j hj => val_fits b r (by omega) (by omega) hbad j hj) st big 0 (by omega) (by have := big_le; omega)
          simpa [val] using this
        unfold g63b11
        simp only [idxS_0, toInt_u8, bin_gtr]
        by_cases h3 : 0 < b.toNat
        · obtain ⟨c, r', rfl⟩ : ∃ c r', r = c :: r' := by
            cases r with
            | nil => simp at h2; omega
            | cons c r' => exact ⟨c, r', rfl⟩
          have hbad := badN_cons (c := c) (r := r') h3
          simp only [show ((0 : Int) < (b.toNat : Int)) from by omega, decide_true, guard_tt, guard_ft, guard_ff, guard_tf, idxS_1, eql_int, Bool.false_eq_true, if_false]
          unfold g63b11100_8
          by_cases h4 : c.toNat = 0
          · have hbad' : badN b.toNat (c :: r') = true := by rw [hbad, h4]; rfl
            have h4z : (((c.toNat : Nat) : Int) == 0) = true := by rw [h4]; rfl
            rw [if_pos hbad']
            simp only [h4z, guard_tt, guard_ft, guard_ff, guard_tf, er1_int]; rfl
          · have h4' : ((c.toNat : Int) == 0) = false := by simp; omega
            have h4n : (c.toNat == 0) = false := by simp [h4]
            rw [h4n, Bool.false_or] at hbad
            by_cases h5 : b.toNat = 8
            · have h5' : ((b.toNat : Int) == 8) = true := by simp [h5]
              simp only [h4', guard_tt, guard_ft, guard_ff, guard_tf, eql_int, Bool.false_eq_true, if_false, h5', guardT_b, idxS_1, bin_geq]
              by_cases h6 : 128 ≤ c.toNat
              · rw [if_pos (by rw [hbad]; simp [h5, h6])]
                simp only [show ((128 : Int) ≤ (c.toNat : Int)) from by omega, decide_true, cond_true, er1_int]; rfl
              · have hb0 : badN b.toNat (c :: r') = false := by rw [hbad]; simp [h6]
                rw [if_neg (by rw [hb0]; simp)]
                simp only [show ¬ ((128 : Int) ≤ (c.toNat : Int)) from by omega, decide_false, cond_false]
                exact go hb0
            · have h5' : ((b.toNat : Int) == 8) = false := by simp; omega
              have hb0 : badN b.toNat (c :: r') = false := by rw [hbad]; simp [h5]
              rw [if_neg (by rw [hb0]; simp)]
              simp only [h4', guard_tt, guard_ft, guard_ff, guard_tf, eql_int, Bool.false_eq_true, if_false, h5', guardT_b, guard_tt, guard_ft, guard_ff, guard_tf]
              exact go hb0
        · have hb0 : badN b.toNat r = false := by
            have : b.toNat = 0 := by omega
            simp [badN, this]
          rw [if_neg (by rw [hb0]; simp)]
          have h5' : ((b.toNat : Int) == 8) = false := by simp; omega
          simp only [show ¬ ((0 : Int) < (b.toNat : Int)) from by omega, decide_false, guard_tt, guard_ft, guard_ff, guard_tf, Bool.false_eq_true, if_false]
          unfold g63b11100_8
          simp only [guard_tt, guard_ft, guard_ff, guard_tf, eql_int, Bool.false_eq_true, if_false, h5', guardT_b, guard_tt, guard_ft, guard_ff, guard_tf]
          exact go hb0
end Go.Ab

/- sinew/octet: texts and lists that are read; the reference's numbers. -/
namespace Go.Ab
open Go.RowKit Go.Oct
set_option linter.unusedVariables false
set_option linter.unusedSimpArgs false

theorem sliceS_from {s : List UInt8} {a : Nat} (h : a ≤ s.length) (K : V → Res) : A.sliceS (.str s) (some (.int .i64 (a : Nat))) none K = K (.str (s.drop a)) := by
  simp [A.sliceS, bnd, h]
theorem sliceS_part {s : List UInt8} {a b : Nat} (h : a ≤ b) (hb : b ≤ s.length) (K : V → Res) : A.sliceS (.str s) (some (.int .i64 (a : Nat))) (some (.int .i64 (b : Nat))) K = K (.str ((s.drop a).take (b - a))) := by
  simp [A.sliceS, bnd, h, hb, List.drop_take]
theorem bin_subN (a b : Nat) (K : V → Res) (h : b ≤ a) (ha : a ≤ 9223372036854775807) : A.bin .sub (.int .i64 (a : Nat)) (.int .i64 (b : Nat)) K = K (.int .i64 ((a - b : Nat) : Int)) := by
  rw [bin_sub K (by omega) (by omega)]
  congr 2; omega
/-! ### sinewref01.Num -/
def S3 (x : List UInt8 × Nat × Nat) : V := .tup [.str x.1, .int .i64 (x.2.1 : Nat), .int .i64 (x.2.2 : Nat)]
theorem numL_3 (l : List UInt8) : (numL l).2.2 = 0 ∨ (numL l).2.2 = 10 ∨ (numL l).2.2 = 11 := by
  rcases numL_err l with h | h | h
  · exact .inl h
  · exact .inr (.inl h.1)
  · exact .inr (.inr h.1)
theorem str_s (s : List UInt8) (hs : s.length ≤ 4611686018427387903) (st : St) : s73 [.str s] st = some (.ret (S3 (strL s)), st) := by
  rw [s73_eq]
  unfold f73 g73b11
  simp only [er1_str, num_s s hs, ret_ret, N3, ext_0, ext_1, ext_2, eql_int, if_true, er1_int]
  unfold strL
  by_cases h0 : (numL s).2.2 = 0
  · have hu := numL_used h0
    have hlt := numL_lt h0
    have e1 : ((((numL s).2.2 : Nat) : Int) != 0) = false := by rw [h0]; rfl
    rw [if_pos h0]
    simp only [e1, cond_false, bin_gtr]
    by_cases h1 : 65536 < (numL s).1
    · rw [if_pos h1]
      simp only [show ((65536 : Int) < ((numL s).1 : Int)) from by omega, decide_true, cond_true]; rfl
    · rw [if_neg h1]
      have e2 : ∀ K, A.bin .sub (.int .i64 (s.length : Nat)) (.int .i64 ((numL s).2.1 : Nat)) K = K (.int .i64 ((s.length - (numL s).2.1 : Nat) : Int)) := fun K => bin_subN _ _ K (by omega) (by omega)
      simp only [show ¬ ((65536 : Int) < ((numL s).1 : Int)) from by omega, decide_false, cond_false, lenS_str, e2, bin_gtr]
      by_cases h2 : s.length - (numL s).2.1 < (numL s).1
      · rw [if_pos h2]
        simp only [show (((s.length - (numL s).2.1 : Nat) : Int) < ((numL s).1 : Int)) from by omega, decide_true, cond_true]; rfl
      · rw [if_neg h2]
        have e3 : ∀ K, A.bin .add (.int .i64 ((numL s).2.1 : Nat)) (.int .i64 ((numL s).1 : Nat)) K = K (.int .i64 (((numL s).2.1 + (numL s).1 : Nat) : Int)) := fun K => bin_addN _ _ K (by omega)
        simp only [show ¬ (((s.length - (numL s).2.1 : Nat) : Int) < ((numL s).1 : Int)) from by omega, decide_false, cond_false]
        unfold g73b111
        simp only [e3, sliceS_part (show (numL s).2.1 ≤ (numL s).2.1 + (numL s).1 by omega) (show (numL s).2.1 + (numL s).1 ≤ s.length by omega), er1_str, er1_int]
        rw [show (numL s).2.1 + (numL s).1 - (numL s).2.1 = (numL s).1 by omega]; rfl
  · have e1 : ((((numL s).2.2 : Nat) : Int) != 0) = true := by
      rcases numL_3 s with h | h | h
      · exact absurd h h0
      · rw [h]; rfl
      · rw [h]; rfl
    rw [if_neg h0]
    simp only [e1, cond_true]; rfl
end Go.Ab

/- sinew/octet: lists that are read. -/
namespace Go.Ab
open Go.RowKit Go.Oct
set_option linter.unusedVariables false
set_option linter.unusedSimpArgs false

def L3 (x : List (List UInt8) × Nat × Nat) : V := .tup [.lst (strsV x.1) 0, .int .i64 (x.2.1 : Nat), .int .i64 (x.2.2 : Nat)]
@[simp] theorem bslice_str1 (x : List UInt8) (K : V → Res) : A.bslice 1 (.str []) 1 [(0, .str x)] K = K (.lst (strsV [x]) 2) := by simp [A.bslice, setP, strsV, V.er, List.replicate]
theorem err_ne {e : Nat} (h : e ≠ 0) : (((e : Nat) : Int) != 0) = true := by simp; omega
theorem drop_len {s : List UInt8} {a : Nat} (hs : s.length ≤ 4611686018427387903) : (s.drop a).length ≤ 4611686018427387903 := by simp; omega
theorem list_loop (s : List UInt8) (hs : s.length ≤ 4611686018427387903) (k : Nat) (hk : k ≤ 4096) (st0 : St) : ∀ (n i at_ : Nat) (acc : List (List UInt8)) (t : Nat) (st : St), i ≤ k → k < n + i → at_ ≤ s.length → acc.length = i → Own st0 st 1 t → Ks st0 st →
    ∃ v st', g65b1111010 n (.str s) (.lst (strsV acc) t) (.int .i64 (at_ : Nat)) (.int .i64 (k : Nat)) (.int .i64 (i : Nat)) st = some (.ret v, st') ∧ Ks st0 st' ∧ v.era = L3 (goL s (k - i) at_ acc) := by
  intro n
  induction n with
  | zero => intro i at_ acc t st hi hn; omega
  | succ n ih =>
    intro i at_ acc t st hi hn hat hacc ho hks
    unfold g65b1111010
    by_cases h : i < k
    · obtain ⟨d, hd⟩ : ∃ d, k - i = d + 1 := ⟨k - i - 1, by omega⟩
      simp only [bin_lss, show ((i : Int) < (k : Int)) from by omega, decide_true, cond_true, sliceS_from hat, er1_str, str_s _ (drop_len hs), ret_ret, S3, ext_0, ext_1, ext_2]
      rw [hd]
      unfold goL g65b1111010011001
      by_cases h0 : (strL (s.drop at_)).2.2 = 0
      · have hu := strL_used h0
        simp only [List.length_drop] at hu
        rw [if_pos h0]
        have e3 : ∀ K, A.bin .add (.int .i64 (at_ : Nat)) (.int .i64 ((strL (s.drop at_)).2.1 : Nat)) K = K (.int .i64 ((at_ + (strL (s.drop at_)).2.1 : Nat) : Int)) := fun K => bin_addN _ _ K (by omega)
        have e4 : ∀ K, A.bin .add (.int .i64 (i : Nat)) (.int .i64 1) K = K (.int .i64 ((i + 1 : Nat) : Int)) := fun K => bin_inc (by omega) K
        simp only [h0, eql_int, if_true, show (((0 : Nat) : Int) != 0) = false from rfl, cond_false, bslice_str1, elemsOf_strs]
        rw [app_own _ ho (by simp; omega) (szok_strs _)]
        simp only [e3, e4, ← strsV_app]
        obtain ⟨k2, o2⟩ := ho.app hks
        have := ih (i + 1) (at_ + (strL (s.drop at_)).2.1) (acc ++ [(strL (s.drop at_)).1]) (st.nt + 3) _ (by omega) (by omega) (by omega) (by simp [hacc]) o2 k2
        rw [show k - (i + 1) = d by omega] at this
        exact this
      · rw [if_neg h0]
        simp only [eql_int, if_true, err_ne h0, cond_true, er1_lst, er1_int]
        exact ⟨_, _, rfl, hks, by simp [L3]⟩
    · have : i = k := by omega
      subst this
      simp only [bin_lss, Int.lt_irrefl, decide_false, cond_false, er1_lst, er1_int]
      exact ⟨_, _, rfl, hks, by simp [L3, goL]⟩
theorem list_s (s : List UInt8) (hs : s.length ≤ 4611686018427387903) (st : St) : s65 [.str s] st = some (.ret (L3 (listL s)), st) := by
  rw [s65_eq]
  have key : ∃ v st', f65 (.str s) st = some (.ret v, st') ∧ Ks st st' ∧ v.era = L3 (listL s) := by
    unfold f65 g65b11
    simp only [er1_str, num_s s hs, ret_ret, N3, ext_0, ext_1, ext_2, eql_int, if_true, er1_int]
    unfold listL
    by_cases h0 : (numL s).2.2 = 0
    · have hu := numL_used h0
      rw [if_pos h0]
      simp only [h0, show (((0 : Nat) : Int) != 0) = false from rfl, cond_false, bin_gtr]
      by_cases h1 : 4096 < (numL s).1
      · rw [if_pos h1]
        simp only [show ((4096 : Int) < ((numL s).1 : Int)) from by omega, decide_true, cond_true, er1_lst]
        exact ⟨_, _, rfl, Ks.refl st, by simp [L3]⟩
      · rw [if_neg h1]
        simp only [show ¬ ((4096 : Int) < ((numL s).1 : Int)) from by omega, decide_false, cond_false]
        unfold g65b1111
        exact list_loop s hs (numL s).1 (by omega) st big 0 (numL s).2.1 [] 1 st (by omega) (by have := big_le; omega) (by omega) rfl (Own.nil _ _ _) (Ks.refl st)
    · rw [if_neg h0]
      simp only [err_ne h0, cond_true, er1_lst]
      exact ⟨_, _, rfl, Ks.refl st, by simp [L3]⟩
  obtain ⟨v, st', h1, h2, h3⟩ := key
  have := fg_of h1 h2 (by rw [h3]; simp [L3])
  rw [h3] at this
  exact this
theorem same_loop (a b : List (List UInt8)) (t u : Nat) (hl : a.length = b.length) (hm : a.length ≤ 9223372036854775806) (st : St) : ∀ (n i : Nat), i ≤ a.length → a.length < n + i →
    g37b11010 n (.lst (strsV a) t) (.lst (strsV b) u) (.int .i64 (i : Nat)) st = some (.ret (.bool (decide (a.drop i = b.drop i))), st) := by
  intro n
  induction n with
  | zero => intro i hi hn; omega
  | succ n ih =>
    intro i hi hn
    unfold g37b11010
    by_cases h : i < a.length
    · have e4 : ∀ K, A.bin .add (.int .i64 (i : Nat)) (.int .i64 1) K = K (.int .i64 ((i + 1 : Nat) : Int)) := fun K => bin_inc (by omega) K
      simp only [lenL_lst, strsV_len, bin_lss, show ((i : Int) < (a.length : Int)) from by omega, decide_true, cond_true, iaddr_strs t h, iaddr_strs u (show i < b.length by omega), load_l1', eql_str, if_true, e4]
      rw [List.drop_eq_getElem_cons h, List.drop_eq_getElem_cons (show i < b.length by omega)]
      by_cases h2 : a[i] = b[i]
      · simp only [h2, bne_self_eq_false, cond_false]
        rw [ih (i + 1) (by omega) (by omega)]
        simp only [List.cons.injEq, true_and]
      · have : (a[i] != b[i]) = true := by simp [h2]
        simp only [this, cond_true, er1_bool, List.cons.injEq, h2, false_and, decide_false]
    · have h1 : i = a.length := by omega
      subst h1
      simp only [lenL_lst, strsV_len, bin_lss, Int.lt_irrefl, decide_false, cond_false, er1_bool]
      rw [List.drop_length, hl, List.drop_length]; rfl
theorem same_s (a b : List (List UInt8)) (t u : Nat) (hm : a.length ≤ 9223372036854775806) (st : St) : s37 [.lst (strsV a) t, .lst (strsV b) u] st = some (.ret (.bool (decide (a = b))), st) := by
  rw [s37_eq]
  unfold f37
  simp only [lenL_lst, strsV_len, eql_int, if_true]
  by_cases h : a.length = b.length
  · have e : ((((a.length : Nat) : Int)) != (b.length : Int)) = false := by rw [h]; simp
    simp only [e, cond_false]
    have := same_loop a b t u h hm st big 0 (by omega) (lt_big (by omega))
    simpa using this
  · have e : ((((a.length : Nat) : Int)) != (b.length : Int)) = true := by simp; omega
    simp only [e, cond_true, er1_bool]
    congr 3
    have : a ≠ b := fun g => h (by rw [g])
    simp [this]
end Go.Ab

/- sinew/octet: numbers and texts that are written. -/
namespace Go.Ab
open Go.RowKit Go.Oct
set_option linter.unusedVariables false
set_option linter.unusedSimpArgs false

theorem u8_wrap (m : Nat) : IntKind.u8.wrap (m : Nat) = ((m % 256 : Nat) : Int) := by
  simp [IntKind.wrap, IntKind.bits, IntKind.signed]
theorem toInt_8 (m : Nat) (K : V → Res) : A.toInt .u8 (.int .i64 (m : Nat)) K = K (.int .u8 ((UInt8.ofNat m).toNat : Nat)) := by
  simp only [A.toInt, u8_wrap, UInt8.toNat_ofNat']
theorem byteL_bytV : ∀ s : List UInt8, byteL (bytV s) = some s
  | [] => rfl
  | b :: s => by
    show byteL (V.int .u8 (b.toNat : Nat) :: bytV s) = _
    unfold byteL
    rw [byteL_bytV s]
    simp
@[simp] theorem bytV_len (s : List UInt8) : (bytV s).length = s.length := bytV_length s
@[simp] theorem toStr_bytV (s : List UInt8) (t : Nat) (st : St) (K : V → Res) : A.toStr (.lst (bytV s) t) st K = K (.str s) := by simp [A.toStr, byteL_bytV]
@[simp] theorem szok_bytV (s : List UInt8) : szok 1 (bytV s) = true := szok_map (fun _ => rfl) s
theorem bytV_one (s : List UInt8) : ∀ v ∈ bytV s, v.one = true := by
  intro v hv; obtain ⟨b, _, rfl⟩ := List.mem_map.mp hv; rfl
@[simp] theorem ones_bytV (s : List UInt8) : ones (bytV s) = true := List.all_eq_true.2 (bytV_one s)
@[simp] theorem puL_bytV (xs : List UInt8) : V.puL (bytV xs) = true := puL_of (by intro v hv; obtain ⟨x, _, rfl⟩ := List.mem_map.1 hv; rfl)
def P2 (s : List UInt8) (e : Nat) : V := .tup [.str s, .int .i64 (e : Nat)]
theorem ofNat_mod (m : Nat) : UInt8.ofNat (m % 256) = UInt8.ofNat m := by
  apply UInt8.toNat_inj.1; rw [UInt8.toNat_ofNat', UInt8.toNat_ofNat']; omega
/-! ### octet.PutNum -/
theorem put_loop (n : Nat) (hn : n < 9223372036854775808) (id : Nat) : ∀ (f j : Nat) (st : St), j ≤ nlen n → nlen n < f + j → st.ob id = some (.cells (bytV (List.replicate (9 - j) 0 ++ digsN n j))) →
    ∃ o, g48b111100 f (.int .i64 ((n / 256 ^ j : Nat) : Int)) (.ptr id 0) (.int .i64 ((9 - j : Nat) : Int)) st = some (.ret (P2 (putN n) 0), st.put id o) := by
  have hs := nlen_spec n hn
  have h8 := nlen_le n
  intro f
  induction f with
  | zero => intro j st hj hf; omega
  | succ f ih =>
    intro j st hj hf hob
    have e1 : ∀ K, A.bin .sub (.int .i64 ((9 - j : Nat) : Int)) (.int .i64 1) K = K (.int .i64 ((8 - j : Nat) : Int)) := fun K => by
      rw [show (1 : Int) = ((1 : Nat) : Int) from rfl, bin_subN _ _ K (by omega) (by omega)]; congr 3; omega
    have hlen : (bytV (List.replicate (9 - j) 0 ++ digsN n j)).length = 9 := by simp [digsN_length]; omega
    have set : ∀ b : UInt8, (bytV (List.replicate (9 - j) 0 ++ digsN n j)).set (8 - j) (.int .u8 (b.toNat : Nat)) = bytV (List.replicate (8 - j) 0 ++ b :: digsN n j) := fun b => by
      rw [show 9 - j = (8 - j) + 1 by omega, List.replicate_succ', List.append_assoc, bytV_append (List.replicate (8 - j) 0), bytV_append (List.replicate (8 - j) 0), List.set_append_right _ _ (by simp)]
      simp [bytV]
    have hi : (0 : Int) ≤ ((8 - j : Nat) : Int) ∧ ((8 - j : Nat) : Int) < ((9 : Nat) : Int) := by omega
    unfold g48b111100
    by_cases h : j < nlen n
    · have hne := hs.2 j h
      have hdiv : n / 256 ^ j / 2 ^ 8 = n / 256 ^ (j + 1) := by
        show n / 256 ^ j / 256 = _
        rw [Nat.div_div_eq_div_mul, Nat.pow_succ]
      have hpos : (0 : Int) < ((n / 256 ^ j : Nat) : Int) := Int.natCast_pos.2 (Nat.pos_of_ne_zero hne)
      have e2 : ∀ K, A.bin .shr (.int .i64 ((n / 256 ^ j : Nat) : Int)) (.int .u64 8) K = K (.int .i64 ((n / 256 ^ (j + 1) : Nat) : Int)) := fun K => by
        rw [show (8 : Int) = ((8 : Nat) : Int) from rfl, bin_shrL _ 8 .u64 K (by omega), hdiv]
      simp only [bin_gtr, hpos, decide_true, cond_true, e1, toInt_8, iaddrA_ptr, hi, and_self, if_true, Int.toNat_natCast, Nat.zero_add, Nat.mul_one, store_int, hob, obo_some, hlen, show 8 - j < 9 from by omega, set, e2]
      obtain ⟨o, ho⟩ := ih (j + 1) (st.put id (.cells (bytV (List.replicate (8 - j) 0 ++ UInt8.ofNat (n / 256 ^ j) :: digsN n j)))) (by omega) (by omega) (by
        rw [put_at, digsN_succ, ofNat_mod, show 9 - (j + 1) = 8 - j by omega])
      rw [show 9 - (j + 1) = 8 - j by omega] at ho
      exact ⟨o, by rw [ho, put_put]⟩
    · have hj' : j = nlen n := by omega
      have h0 : n / 256 ^ j = 0 := by rw [hj']; exact Nat.div_eq_of_lt hs.1
      have e3 : ∀ K, A.bin .sub (.int .i64 9) (.int .i64 ((8 - j : Nat) : Int)) K = K (.int .i64 ((j + 1 : Nat) : Int)) := fun K => by
        rw [show (9 : Int) = ((9 : Nat) : Int) from rfl, bin_subN _ _ K (by omega) (by omega)]; congr 3; omega
      have e4 : ∀ K, A.bin .sub (.int .i64 ((j + 1 : Nat) : Int)) (.int .i64 1) K = K (.int .i64 (j : Nat)) := fun K => by
        rw [show (1 : Int) = ((1 : Nat) : Int) from rfl, bin_subN _ _ K (by omega) (by omega)]; rfl
      have hlen2 : (bytV (List.replicate (8 - j) 0 ++ UInt8.ofNat j :: digsN n j)).length = 9 := by simp [digsN_length]; omega
      have hdrop : ((bytV (List.replicate (8 - j) 0 ++ UInt8.ofNat j :: digsN n j)).drop (8 - j)).take (9 - (8 - j)) = bytV (putN n) := by
        rw [bytV_append, List.drop_left' (by simp), List.take_of_length_le (by simp [digsN_length]; omega), putN_eq, hj']
      simp only [h0, bin_gtr, show ¬ ((0 : Int) < ((0 : Nat) : Int)) from by omega, decide_false, cond_false, e1, e3, e4, toInt_8, iaddrA_ptr, hi, and_self, if_true, Int.toNat_natCast, Nat.zero_add, Nat.mul_one, store_int, hob, obo_some, hlen, show 8 - j < 9 from by omega, set]
      refine ⟨.cells (bytV (List.replicate (8 - j) 0 ++ UInt8.ofNat j :: digsN n j)), ?_⟩
      have hb : bnd (some (.int .i64 ((8 - j : Nat) : Int))) 0 = some (8 - j) := by simp [bnd]
      have hb2 : bnd none 9 = some 9 := rfl
      have hc : 8 - j ≤ 9 ∧ 9 ≤ 9 ∧ 0 + 9 * 1 ≤ 9 := by omega
      have hc2 : (1 = 1 ∧ 8 - j + (9 - (8 - j)) ≤ 9) := by omega
      simp only [A.sliceA, put_at, hb, hb2, hlen2, hc, and_self, if_true, A.toStr, Nat.zero_add, Nat.mul_one, hc2, hdrop, byteL_bytV, P2, er1_str, er1_int]
      rfl
theorem putnum_s (n : Nat) (hn : n < 9223372036854775808) (st : St) : s48 [.int .i64 (n : Nat)] st = some (.ret (P2 (putN n) 0), st) := by
  rw [s48_eq]
  have key : ∃ st', f48 (.int .i64 (n : Nat)) st = some (.ret (P2 (putN n) 0), st') ∧ Ks st st' := by
    unfold f48
    simp only [bin_lss, show ¬ ((n : Int) < 0) from by omega, decide_false, cond_false]
    rw [box_agg _ _ _ rfl]
    obtain ⟨o, ho⟩ := put_loop n hn st.n big 0 (st.new (.cells (bytV (List.replicate 9 0)))) (by omega) (by have := big_le; have := nlen_le n; omega) (by rw [new_at]; rfl)
    refine ⟨(st.new (.cells (bytV (List.replicate 9 0)))).put st.n o, ?_, ((Ks.refl st).new _).put (Nat.le_refl _) o⟩
    rw [← ho, Nat.pow_zero, Nat.div_one]; rfl
  obtain ⟨st', h1, h2⟩ := key
  exact fg_of h1 h2 rfl
/-! ### sinewref01.PutNum -/
@[simp] theorem bslice_u8 (x : Int) (K : V → Res) : A.bslice 1 (.int .u8 0) 1 [(0, .int .u8 x)] K = K (.lst [.int .u8 x] 2) := by simp [A.bslice, setP, V.er, List.replicate]
theorem appB_lst (sz : Nat) (l : List V) (t : Nat) (new : Option (List V)) (st : St) (K : V → St → Res) : A.appB sz (.lst l t) new st K = A.app sz (.lst l t) new st K := rfl
theorem rput_low (n : Nat) (hn : n < 9223372036854775808) (st0 : St) : ∀ (f j : Nat) (t : Nat) (st : St), j ≤ nlen n → nlen n < f + j → Own st0 st 1 t → Ks st0 st →
    ∃ t' st', g68b11100 f (.int .i64 ((n / 256 ^ j : Nat) : Int)) (.lst (bytV (digsN n j).reverse) t) st = g68b1111 (.lst (bytV (digsN n (nlen n)).reverse) t') st' ∧ Ks st0 st' := by
  have hs := nlen_spec n hn
  have h8 := nlen_le n
  intro f
  induction f with
  | zero => intro j t st hj hf; omega
  | succ f ih =>
    intro j t st hj hf ho hks
    unfold g68b11100
    by_cases h : j < nlen n
    · have hne := hs.2 j h
      have hdiv : n / 256 ^ j / 256 = n / 256 ^ (j + 1) := by rw [Nat.div_div_eq_div_mul, Nat.pow_succ]
      have hpos : (0 : Int) < ((n / 256 ^ j : Nat) : Int) := Int.natCast_pos.2 (Nat.pos_of_ne_zero hne)
      have hle : n / 256 ^ j ≤ n := Nat.div_le_self _ _
      have e1 : ∀ K, A.bin .rem (.int .i64 ((n / 256 ^ j : Nat) : Int)) (.int .i64 256) K = K (.int .i64 ((n / 256 ^ j % 256 : Nat) : Int)) := fun K => bin_remN _ 256 K (by omega)
      have e2 : ∀ K, A.bin .quo (.int .i64 ((n / 256 ^ j : Nat) : Int)) (.int .i64 256) K = K (.int .i64 ((n / 256 ^ (j + 1) : Nat) : Int)) := fun K => by
        rw [bin_quo K (by omega) (by omega) (by omega), ← hdiv]; congr 2
      simp only [bin_gtr, hpos, decide_true, cond_true, e1, toInt_8, bslice_u8, elemsOf_single _ _ _ (one_int _ _), appB_lst]
      rw [app_own _ ho (by simp [digsN_length]; omega) (szok_bytV _)]
      simp only [e2]
      obtain ⟨k2, o2⟩ := ho.app hks
      have := ih (j + 1) (st.nt + 3) _ (by omega) (by omega) o2 k2
      rw [digsN_succ, List.reverse_cons, bytV_append] at this
      exact this
    · have hj' : j = nlen n := by omega
      have h0 : n / 256 ^ j = 0 := by rw [hj']; exact Nat.div_eq_of_lt hs.1
      simp only [h0, bin_gtr, show ¬ ((0 : Int) < ((0 : Nat) : Int)) from by omega, decide_false, cond_false]
      rw [hj']
      exact ⟨t, st, rfl, hks⟩
theorem iaddr_bytV {s : List UInt8} {i : Nat} (t : Nat) (h : i < s.length) (K : V → Res) : A.iaddr 1 (.lst (bytV s) t) (.int .i64 (i : Nat)) K = K (.lptr [.int .u8 (s[i].toNat : Nat)]) := iaddr_lst (v := .int .u8 (s[i].toNat : Nat)) K (by simp [bytV, h]) rfl
theorem rput_out (L : List UInt8) (x : UInt8) (hL : L.length ≤ 8) (u : Nat) (st0 : St) : ∀ (f m : Nat) (t : Nat) (st : St), m ≤ L.length → L.length < f + m → Own st0 st 1 t → Ks st0 st →
    ∃ st', g68b111111010 f (.lst (bytV L.reverse) u) (.lst (bytV (x :: L.take m)) t) (.int .i64 ((L.length : Int) - 1 - m)) st = some (.ret (P2 (x :: L) 0), st') ∧ Ks st0 st' := by
  intro f
  induction f with
  | zero => intro m t st hm hf; omega
  | succ f ih =>
    intro m t st hm hf ho hks
    unfold g68b111111010
    by_cases h : m < L.length
    · have hi : L.length - 1 - m < L.reverse.length := by simp; omega
      have hget : L.reverse[L.length - 1 - m] = L[m] := by
        rw [List.getElem_reverse]; congr 1; omega
      have e1 : ∀ K, A.bin .sub (.int .i64 ((L.length : Int) - 1 - m)) (.int .i64 1) K = K (.int .i64 ((L.length : Int) - 1 - (m + 1 : Nat))) := fun K => by
        rw [bin_sub K (by omega) (by omega)]; congr 2; omega
      have e2 : ∀ K, A.iaddr 1 (.lst (bytV L.reverse) u) (.int .i64 ((L.length : Int) - 1 - m)) K = K (.lptr [.int .u8 (L[m].toNat : Nat)]) := fun K => by
        rw [show (L.length : Int) - 1 - m = ((L.length - 1 - m : Nat) : Int) by omega, iaddr_bytV u hi, hget]
      simp only [bin_geq, show ((0 : Int) ≤ (L.length : Int) - 1 - m) from by omega, decide_true, cond_true, e2, load_l1', bslice_u8, elemsOf_single _ _ _ (one_int _ _), appB_lst]
      rw [app_own _ ho (by simp; omega) (szok_bytV _)]
      simp only [e1]
      obtain ⟨k2, o2⟩ := ho.app hks
      have := ih (m + 1) (st.nt + 3) _ (by omega) (by omega) o2 k2
      rw [List.take_succ_eq_append_getElem h, ← List.cons_append, bytV_append] at this
      exact this
    · have : m = L.length := by omega
      subst this
      simp only [bin_geq, show ¬ ((0 : Int) ≤ (L.length : Int) - 1 - (L.length : Nat)) from by omega, decide_false, cond_false, toStr_bytV, er1_str, er1_int, List.take_length]
      exact ⟨st, rfl, hks⟩
theorem rputnum_s (n : Nat) (hn : n < 9223372036854775808) (st : St) : s68 [.int .i64 (n : Nat)] st = some (.ret (P2 (putN n) 0), st) := by
  rw [s68_eq]
  have h8 := nlen_le n
  have key : ∃ st', f68 (.int .i64 (n : Nat)) st = some (.ret (P2 (putN n) 0), st') ∧ Ks st st' := by
    unfold f68
    simp only [bin_lss, show ¬ ((n : Int) < 0) from by omega, decide_false, cond_false]
    obtain ⟨t', st', h1, h2⟩ := rput_low n hn st big 0 1 st (by omega) (by have := big_le; omega) (Own.nil _ _ _) (Ks.refl st)
    simp only [Nat.pow_zero, Nat.div_one] at h1
    rw [show (V.lst [] 1) = .lst (bytV (digsN n 0).reverse) 1 from rfl, h1]
    unfold g68b1111
    have e1 : ∀ K, A.bin .sub (.int .i64 (nlen n : Nat)) (.int .i64 1) K = K (.int .i64 ((nlen n : Int) - 1)) := fun K => bin_sub K (by omega) (by omega)
    simp only [lenL_lst, bytV_len, List.length_reverse, digsN_length, toInt_8, bslice_u8, elemsOf_single _ _ _ (one_int _ _), appB_lst]
    rw [app_own _ (Own.nil st st' 1) (by simp) rfl]
    obtain ⟨k2, o2⟩ := (Own.nil st st' 1).app h2
    simp only [e1]
    unfold g68b11111101
    obtain ⟨st2, r1, r2⟩ := rput_out (digsN n (nlen n)) (UInt8.ofNat (nlen n)) (by rw [digsN_length]; omega) t' st big 0 (st'.nt + 3) _ (by omega) (by have := big_le; rw [digsN_length]; omega) o2 k2
    refine ⟨st2, ?_, r2⟩
    rw [digsN_length] at r1
    rw [putN_eq, ← r1]
    simp [bytV]
  obtain ⟨st', h1, h2⟩ := key
  exact fg_of h1 h2 rfl
end Go.Ab

/- strings.Builder; sinew/octet: texts and lists that are written. -/
namespace Go.Ab
open Go.RowKit Go.Oct
set_option linter.unusedVariables false
set_option linter.unusedSimpArgs false

/-! ### strings.Builder -/
/-- A Builder that this call made. -/
structure BAt (st0 st : St) (id : Nat) (s : List UInt8) (t : Nat) : Prop where
  ob : st.ob id = some (.cells [.bld 80, .buf s t])
  new : st0.n ≤ id
  own : (t = 1 ∧ s = []) ∨ ∃ k, t = k + 3 ∧ st0.nt ≤ k ∧ k < st.nt ∧ st.tk k = some 1
theorem BAt.own1 {st0 st : St} {id : Nat} {s : List UInt8} {t : Nat} (h : BAt st0 st id s t) : Own st0 st 1 t := by
  rcases h.own with ⟨h, _⟩ | h
  · exact .inl h
  · exact .inr (.inr h)
theorem appB_at {st0 st : St} {id : Nat} {s x : List UInt8} {t : Nat} (h : BAt st0 st id s t) (hl : s.length + x.length ≤ 1073741824) (K : V → St → Res) : A.appB 1 (.buf s t) (some (bytV x)) st K = K (.buf (s ++ x) (st.nt + 3)) (appSt st t 1) := by
  rcases h.own with ⟨rfl, _⟩ | ⟨k, rfl, _, _, hk⟩
  · simp [A.appB, bytesB_bytV, hl, appSt]
  · simp [A.appB, bytesB_bytV, hl, appSt, hk]
@[simp] theorem elemsOf_str (x : List UInt8) (st : St) : elemsOf 3 1 (.str x) st = some (bytV x) := by simp [elemsOf]; rfl
@[simp] theorem er1_buf (s : List UInt8) (t : Nat) : (V.buf s t).er1 = .buf s t := rfl
@[simp] theorem lenL_buf (s : List UInt8) (t : Nat) (K : V → Res) : A.lenL (.buf s t) K = K (.int .i64 (s.length : Nat)) := rfl
@[simp] theorem store_buf (i o : Nat) (l : List UInt8) (t : Nat) (st : St) (K : St → Res) : A.store 1 (.ptr i o) (.buf l t) st K = obo (st.ob i) fun cs => if o < cs.length then K (st.put i (.cells (cs.set o (.buf l t)))) else none := store_ob _ _ _ _ _ rfl
def wrSt (st : St) (id t : Nat) (s : List UInt8) : St := (appSt st t 1).put id (.cells [.bld 80, .buf s (st.nt + 3)])
theorem write_s {st0 st : St} {id : Nat} {s x : List UInt8} {t : Nat} (h : BAt st0 st id s t) (hl : s.length + x.length ≤ 1073741824) : s46 [.ptr id 0, .str x] st = some (.ret (.tup [.int .i64 (x.length : Nat), .if0]), wrSt st id t (s ++ x)) := by
  rw [s46_eq]
  unfold f46
  simp only [er1_ptr, s61_val h.ob, ret_ret, nilc_ptr, faddr_ptr, load_ob, h.ob, obo_some, List.getElem?_cons_succ, List.getElem?_cons_zero, ob_some', elemsOf_str, appB_at h hl, store_buf, appSt_ob, lenS_str, er1_int, er1_if0, Nat.zero_add, List.length_cons, List.length_nil, show 1 < 0 + 1 + 1 from by omega, if_true, List.set_cons_succ, List.set_cons_zero]
  rfl
theorem BAt.write {st0 st : St} {id : Nat} {s x : List UInt8} {t : Nat} (h : BAt st0 st id s t) (hk : Ks st0 st) (hid : id < st.n) : BAt st0 (wrSt st id t (s ++ x)) id (s ++ x) (st.nt + 3) ∧ Ks st0 (wrSt st id t (s ++ x)) ∧ id < (wrSt st id t (s ++ x)).n := by
  obtain ⟨k1, o1⟩ := h.own1.app hk
  refine ⟨⟨by simp [wrSt], h.new, .inr ?_⟩, k1.put h.new _, by simp [wrSt]; exact hid⟩
  refine ⟨st.nt, rfl, hk.nt, by simp [wrSt], ?_⟩
  show (appSt st t 1).tk st.nt = some 1
  exact appSt_new _ _ _
theorem blen_s {st0 st : St} {id : Nat} {s : List UInt8} {t : Nat} (h : BAt st0 st id s t) : s44 [.ptr id 0] st = some (.ret (.int .i64 (s.length : Nat)), st) := by
  rw [s44_eq]
  unfold f44
  simp only [nilc_ptr, faddr_ptr, load_ob, h.ob, obo_some, Nat.zero_add, List.getElem?_cons_succ, List.getElem?_cons_zero, ob_some', lenL_buf, er1_int]
theorem bstr_s {st0 st : St} {id : Nat} {s : List UInt8} {t : Nat} (h : BAt st0 st id s t) (hk : Ks st0 st) (hl : s.length ≤ 1073741824) : ∃ st', s49 [.ptr id 0] st = some (.ret (.str s), st') ∧ Ks st0 st' := by
  rw [s49_eq]
  unfold f49
  have hld : ldv false 1 (.ptr id 1) st = some (.buf s t) := by simp [ldv, h.ob, kid]
  simp only [nilc_ptr, faddr_ptr, load_ob, h.ob, obo_some, Nat.zero_add, List.getElem?_cons_succ, List.getElem?_cons_zero, ob_some', lenL_buf, A.sdata, A.noP, kid, A.chk, hld, V.eqB_refl, if_true]
  rcases h.own with ⟨rfl, rfl⟩ | ⟨k, rfl, h1, h2, h3⟩
  · exact ⟨st, by simp [A.ustr], hk⟩
  · refine ⟨st.delTk k, ?_, ⟨hk.ob, hk.n, hk.nt, fun j hj => ?_⟩⟩
    · have e : ((s.length : Nat) : Int) = ((s.length : Nat) : Int) ∧ s.length ≤ 1073741824 := ⟨rfl, hl⟩
      simp only [A.ustr, e, and_self, if_true, h3, er1_str, kid] <;> rfl
    · rw [← hk.tk j hj]
      simp only [St.delTk]
      rw [if_neg (by omega)]
theorem newB_at (st : St) (K : V → St → Res) : A.newB 80 (.agg [.ptr0, .lst [] 1]) st K = K (.ptr st.n 0) (st.new (.cells [.bld 80, .buf [] 1])) := rfl
theorem bat_new (st : St) : BAt st (st.new (.cells [.bld 80, .buf [] 1])) st.n [] 1 := ⟨by simp, Nat.le_refl _, .inl ⟨rfl, rfl⟩⟩
/-! ### texts -/
theorem putN_len9 (n : Nat) : (putN n).length ≤ 9 := by rw [putN_length]; have := nlen_le n; omega
theorem bin_cat (s t : List UInt8) (K : V → Res) (h : s.length + t.length ≤ 4611686018427387904) : A.bin .add (.str s) (.str t) K = K (.str (s ++ t)) := by simp [A.bin, h]
theorem putstr_s (s : List UInt8) (st : St) : s60 [.str s] st = some (.ret (if 65536 < s.length then P2 [] 12 else P2 (putS s) 0), st) := by
  rw [s60_eq]
  unfold f60
  simp only [lenS_str, bin_gtr]
  by_cases h : 65536 < s.length
  · simp only [show ((65536 : Int) < (s.length : Int)) from by omega, decide_true, cond_true, er1_str, er1_int, if_pos h]; rfl
  · simp only [show ¬ ((65536 : Int) < (s.length : Int)) from by omega, decide_false, cond_false, er1_int, putnum_s s.length (by omega), ret_ret, P2, ext_0, ext_1, if_neg h]
    unfold g60b111
    have := putN_len9 s.length
    rw [bin_cat _ _ _ (by omega)]; rfl
theorem rputstr_s (s : List UInt8) (st : St) : s75 [.str s] st = some (.ret (if 65536 < s.length then P2 [] 12 else P2 (putS s) 0), st) := by
  rw [s75_eq]
  unfold f75
  simp only [lenS_str, bin_gtr]
  by_cases h : 65536 < s.length
  · simp only [show ((65536 : Int) < (s.length : Int)) from by omega, decide_true, cond_true, er1_str, er1_int, if_pos h]; rfl
  · simp only [show ¬ ((65536 : Int) < (s.length : Int)) from by omega, decide_false, cond_false, er1_int, rputnum_s s.length (by omega), ret_ret, P2, ext_0, ext_1, if_neg h]
    unfold g75b111
    have := putN_len9 s.length
    rw [bin_cat _ _ _ (by omega)]; rfl
/-! ### lists -/
theorem catS_append (a b : List (List UInt8)) : catS (a ++ b) = catS a ++ catS b := by
  induction a with
  | nil => rfl
  | cons x a ih => simp only [List.cons_append, catS, ih, List.append_assoc]
theorem catS_len {a : List (List UInt8)} (h : ∀ x ∈ a, x.length ≤ 65536) : (catS a).length ≤ a.length * 65545 := by
  induction a with
  | nil => simp [catS]
  | cons x a ih =>
    have h1 := ih fun y hy => h y (List.mem_cons_of_mem _ hy)
    have h2 := h x (by simp)
    have h3 := putN_len9 x.length
    simp only [catS, putS, List.length_append, List.length_cons]
    omega
def putLR (l : List (List UInt8)) : V := if l.all (fun s => decide (s.length ≤ 65536)) then P2 (Oct.putL l) 0 else P2 [] 12
theorem take_len {l : List (List UInt8)} {i : Nat} (hi : i ≤ l.length) (hm : l.length ≤ 4096) (hs : ∀ x ∈ l.take i, x.length ≤ 65536) : (putN l.length ++ catS (l.take i)).length ≤ 268472329 := by
  have h1 := catS_len hs
  have h2 := putN_len9 l.length
  rw [List.length_append]
  simp only [List.length_take] at h1
  omega
theorem putlist_loop (l : List (List UInt8)) (u : Nat) (hm : l.length ≤ 4096) (st0 : St) (id : Nat) : ∀ (n i t : Nat) (st : St), i ≤ l.length → l.length < n + i → (∀ x ∈ l.take i, x.length ≤ 65536) → BAt st0 st id (putN l.length ++ catS (l.take i)) t → Ks st0 st → id < st.n →
    ∃ st', g45b11111010 n (.ptr id 0) (.lst (strsV l) u) (.int .i64 (l.length : Nat)) (.int .i64 (i : Nat)) st = some (.ret (putLR l), st') ∧ Ks st0 st' := by
  intro n
  induction n with
  | zero => intro i t st hi hn; omega
  | succ n ih =>
    intro i t st hi hn hs hb hk hid
    have htl := take_len hi hm hs
    unfold g45b11111010
    by_cases h : i < l.length
    · simp only [bin_lss, show ((i : Int) < (l.length : Int)) from by omega, decide_true, cond_true, iaddr_strs u h, load_l1', er1_str, putstr_s, ret_ret]
      unfold g45b111110100110011
      by_cases h2 : 65536 < l[i].length
      · simp only [if_pos h2, P2, ext_0, ext_1, eql_int, if_true, show (((12 : Nat) : Int) != 0) = true from rfl, cond_true, er1_str, er1_int]
        refine ⟨st, ?_, hk⟩
        have : l.all (fun s => decide (s.length ≤ 65536)) = false := by
          rw [List.all_eq_false]
          exact ⟨l[i], List.getElem_mem h, by simp; omega⟩
        rw [putLR, this]; rfl
      · have e4 : ∀ K, A.bin .add (.int .i64 (i : Nat)) (.int .i64 1) K = K (.int .i64 ((i + 1 : Nat) : Int)) := fun K => bin_inc (by omega) K
        have hp : (putS l[i]).length ≤ 65545 := by have := putN_len9 l[i].length; simp only [putS, List.length_append]; omega
        simp only [if_neg h2, P2, ext_0, ext_1, eql_int, if_true, show (((0 : Nat) : Int) != 0) = false from rfl, cond_false, er1_str, er1_int, er1_ptr]
        rw [write_s hb (by omega)]
        simp only [ret_ret, e4]
        have e5 : (putN l.length ++ catS (l.take i)) ++ putS l[i] = putN l.length ++ catS (l.take (i + 1)) := by
          rw [List.take_succ_eq_append_getElem h, catS_append, List.append_assoc]; simp [catS]
        obtain ⟨b2, k2, i2⟩ := hb.write (x := putS l[i]) hk hid
        rw [e5] at b2 k2 i2 ⊢
        refine ih (i + 1) _ _ (by omega) (by omega) ?_ b2 k2 i2
        intro x hx
        rw [List.take_succ_eq_append_getElem h] at hx
        rcases List.mem_append.1 hx with g | g
        · exact hs x g
        · rw [List.mem_singleton.1 g]; omega
    · have : i = l.length := by omega
      subst this
      rw [List.take_length] at hs hb htl
      obtain ⟨st', r1, r2⟩ := bstr_s hb hk (by omega)
      simp only [bin_lss, Int.lt_irrefl, decide_false, cond_false, er1_ptr, r1, ret_ret, er1_str, er1_int]
      refine ⟨st', ?_, r2⟩
      have : l.all (fun s => decide (s.length ≤ 65536)) = true := List.all_eq_true.2 fun x hx => by simpa using hs x hx
      rw [putLR, if_pos this]; rfl
theorem putlist_s (l : List (List UInt8)) (u : Nat) (hm : l.length ≤ 4096) (st : St) : s45 [.lst (strsV l) u] st = some (.ret (putLR l), st) := by
  rw [s45_eq]
  have key : ∃ st', f45 (.lst (strsV l) u) st = some (.ret (putLR l), st') ∧ Ks st st' := by
    unfold f45
    simp only [lenL_lst, strsV_len, bin_gtr, show ¬ ((4096 : Int) < (l.length : Int)) from by omega, decide_false, cond_false, newB_at, er1_int, putnum_s l.length (by omega), ret_ret, P2, ext_0, ext_1]
    unfold g45b1111
    have hb := bat_new st
    have hk : Ks st (st.new (.cells [.bld 80, .buf [] 1])) := (Ks.refl st).new _
    simp only [er1_ptr, er1_str]
    have h9 := putN_len9 l.length
    rw [write_s hb (by simp; omega)]
    obtain ⟨b2, k2, i2⟩ := hb.write (x := putN l.length) hk (by simp)
    simp only [ret_ret, lenL_lst, strsV_len]
    rw [List.nil_append] at b2 k2 i2 ⊢
    exact putlist_loop l u hm st st.n big 0 _ _ (by omega) (by have := big_le; omega) (by simp) (by simpa [catS] using b2) k2 i2
  obtain ⟨st', h1, h2⟩ := key
  have e : (putLR l).era = putLR l ∧ (putLR l).era.pu = true := by unfold putLR; split <;> exact ⟨rfl, rfl⟩
  have := fg_of h1 h2 e.2
  rw [e.1] at this
  exact this
theorem rputlist_loop (l : List (List UInt8)) (u : Nat) (hm : l.length ≤ 4096) (st0 : St) : ∀ (n i t : Nat) (st : St), i ≤ l.length → l.length < n + i → (∀ x ∈ l.take i, x.length ≤ 65536) → Own st0 st 1 t → Ks st0 st →
    ∃ st', g69b1111010 n (.lst (strsV l) u) (.lst (bytV (putN l.length ++ catS (l.take i))) t) (.int .i64 (i : Nat)) st = some (.ret (putLR l), st') ∧ Ks st0 st' := by
  intro n
  induction n with
  | zero => intro i t st hi hn; omega
  | succ n ih =>
    intro i t st hi hn hs ho hk
    have htl := take_len hi hm hs
    unfold g69b1111010
    by_cases h : i < l.length
    · simp only [lenL_lst, strsV_len, bin_lss, show ((i : Int) < (l.length : Int)) from by omega, decide_true, cond_true, iaddr_strs u h, load_l1', er1_str, rputstr_s, ret_ret]
      unfold g69b111101001001
      by_cases h2 : 65536 < l[i].length
      · simp only [if_pos h2, P2, ext_0, ext_1, eql_int, if_true, show (((12 : Nat) : Int) != 0) = true from rfl, cond_true, er1_str, er1_int]
        refine ⟨st, ?_, hk⟩
        have : l.all (fun s => decide (s.length ≤ 65536)) = false := by
          rw [List.all_eq_false]
          exact ⟨l[i], List.getElem_mem h, by simp; omega⟩
        rw [putLR, this]; rfl
      · have e4 : ∀ K, A.bin .add (.int .i64 (i : Nat)) (.int .i64 1) K = K (.int .i64 ((i + 1 : Nat) : Int)) := fun K => bin_inc (by omega) K
        have hp : (putS l[i]).length ≤ 65545 := by have := putN_len9 l[i].length; simp only [putS, List.length_append]; omega
        simp only [if_neg h2, P2, ext_0, ext_1, eql_int, if_true, show (((0 : Nat) : Int) != 0) = false from rfl, cond_false, elemsOf_str, appB_lst]
        rw [app_own _ ho (by simp only [bytV_len]; omega) (szok_bytV _)]
        obtain ⟨k2, o2⟩ := ho.app hk
        have e5 : (putN l.length ++ catS (l.take i)) ++ putS l[i] = putN l.length ++ catS (l.take (i + 1)) := by
          rw [List.take_succ_eq_append_getElem h, catS_append, List.append_assoc]; simp [catS]
        simp only [e4]
        rw [← bytV_append, e5]
        refine ih (i + 1) _ _ (by omega) (by omega) ?_ o2 k2
        intro x hx
        rw [List.take_succ_eq_append_getElem h] at hx
        rcases List.mem_append.1 hx with g | g
        · exact hs x g
        · rw [List.mem_singleton.1 g]; omega
    · have : i = l.length := by omega
      subst this
      rw [List.take_length] at hs htl ⊢
      simp only [lenL_lst, strsV_len, bin_lss, Int.lt_irrefl, decide_false, cond_false, toStr_bytV, er1_str, er1_int]
      refine ⟨st, ?_, hk⟩
      have : l.all (fun s => decide (s.length ≤ 65536)) = true := List.all_eq_true.2 fun x hx => by simpa using hs x hx
      rw [putLR, if_pos this]; rfl
theorem rputlist_s (l : List (List UInt8)) (u : Nat) (hm : l.length ≤ 4096) (st : St) : s69 [.lst (strsV l) u] st = some (.ret (putLR l), st) := by
  rw [s69_eq]
  have key : ∃ st', f69 (.lst (strsV l) u) st = some (.ret (putLR l), st') ∧ Ks st st' := by
    unfold f69
    simp only [lenL_lst, strsV_len, bin_gtr, show ¬ ((4096 : Int) < (l.length : Int)) from by omega, decide_false, cond_false, er1_int, rputnum_s l.length (by omega), ret_ret, P2, ext_0, ext_1]
    unfold g69b111
    have e1 : ∀ K, A.toBytes (.str (putN l.length)) st K = K (.lst (bytV (putN l.length)) (st.nt + 3)) (st.newTk 1) := fun K => rfl
    simp only [e1]
    have := rputlist_loop l u hm st big 0 (st.nt + 3) (st.newTk 1) (by omega) (by have := big_le; omega) (by simp) (.inr (.inr ⟨st.nt, rfl, Nat.le_refl _, by simp [St.newTk], by simp [St.newTk]⟩)) ⟨fun _ _ => rfl, Nat.le_refl _, by simp [St.newTk], fun j hj => by simp only [St.newTk]; rw [if_neg (by omega)]⟩
    simpa [catS] using this
  obtain ⟨st', h1, h2⟩ := key
  have e : (putLR l).era = putLR l ∧ (putLR l).era.pu = true := by unfold putLR; split <;> exact ⟨rfl, rfl⟩
  have := fg_of h1 h2 e.2
  rw [e.1] at this
  exact this
end Go.Ab

/- sinewlaw03: the checksum. -/
namespace Go.Ab
open Go.RowKit Go.Proofs
set_option linter.unusedVariables false
set_option linter.unusedSimpArgs false
/-! ### check.Sum -/
theorem sum_loop (s : List UInt8) (hs : s.length ≤ 9223372036854775807) (p : Nat) (st : St) (hp : st.ob p = some (.cells crcTab)) : ∀ (n i c : Nat), c < 4294967296 → i ≤ s.length → s.length < n + i →
    g35b111010 n (.str s) (.ptr p 0) (.int .u32 (c : Nat)) (.int .i64 (s.length : Nat)) (.int .i64 (i : Nat)) st = some (.ret (.int .i64 ((4294967295 ^^^ Crc.crc c (s.drop i) : Nat) : Int)), st) := by
  intro n
  induction n with
  | zero => intro i c hc hi hn; omega
  | succ n ih =>
    intro i c hc hi hn
    by_cases h : i < s.length
    · have hb := Crc.by_lt s[i]
      have hx := idxS_at (s := s) (i := i) h
      have e1 : ∀ K, A.toInt .u32 (.int .u8 s[i].toNat) K = K (.int .u32 (s[i].toNat : Nat)) := fun K => by
        have := s[i].toNat_lt
        simp only [A.toInt, u32_wrap]; congr 2; omega
      have e2 : ∀ K, A.bin .shl (.int .u32 (s[i].toNat : Nat)) (.int .u64 24) K = K (.int .u32 ((s[i].toNat * 16777216 : Nat) : Int)) := fun K => by
        rw [show (24 : Int) = ((24 : Nat) : Int) from rfl, bin_shl32 _ 24 K (by omega)]; congr 2; simp; omega
      have e3 : ∀ K, A.bin .xor (.int .u32 (c : Nat)) (.int .u32 ((s[i].toNat * 16777216 : Nat) : Int)) K = K (.int .u32 ((c ^^^ (s[i].toNat * 16777216) : Nat) : Int)) := bin_xor32 _ _ hc hb
      have nb : ∀ (m : Nat) (hm : m < 4294967296) (K : V → St → Res), (A.bin .shl (.int .u32 (m : Nat)) (.int .u64 4) fun a1 => A.bin .shr (.int .u32 (m : Nat)) (.int .u64 28) fun a2 => A.iaddrA 16 1 (.ptr p 0) a2 fun a3 => A.load false 1 a3 st fun a4 z5 => A.bin .xor a1 a4 fun a6 => K a6 z5)
          = K (.int .u32 ((Crc.stN 4 m : Nat) : Int)) st := by
        intro m hm K
        rw [show (4 : Int) = ((4 : Nat) : Int) from rfl, bin_shl32 _ 4 _ (by omega), show (28 : Int) = ((28 : Nat) : Int) from rfl, bin_shr32 _ 28 _ (by omega)]
        have hk : m / 268435456 < 16 := by omega
        have hk2 : ((m / 268435456 : Nat) : Int) < 16 := by omega
        have ht := crcTab_at _ hk
        have hlt2 : m * 2 ^ 4 % 4294967296 < 4294967296 := by omega
        have hlt : m / 268435456 * 268435456 < 4294967296 := Nat.lt_of_le_of_lt (Nat.div_mul_le_self _ _) hm
        have hl := bin_xor32 (m * 2 ^ 4 % 4294967296) (Crc.stN 4 (m / 268435456 * 268435456)) hlt2 (Crc.stN_lt hlt 4)
        rw [show m / 2 ^ 28 = m / 268435456 from rfl]
        simp only [iaddrA_ptr, show (0 : Int) ≤ ((m / 268435456 : Nat) : Int) from by omega, show ((m / 268435456 : Nat) : Int) < ((16 : Nat) : Int) from by omega, and_self, if_true, Int.toNat_natCast, Nat.zero_add, Nat.mul_one, load_ob, hp, obo_some, ht, ob_some', hl]
        rw [show m * 2 ^ 4 % 4294967296 = m * 16 % 4294967296 by rfl, Crc.nib hm]
      have hn1 : c ^^^ (s[i].toNat * 16777216) < 4294967296 := Crc.xor_lt32 hc hb
      have hn2 := Crc.stN_lt hn1 4
      have e6 : ∀ K, A.bin .add (.int .i64 (i : Nat)) (.int .i64 1) K = K (.int .i64 ((i + 1 : Nat) : Int)) := fun K => bin_addN i 1 K (by omega)
      have hd : s.drop i = s[i] :: s.drop (i + 1) := List.drop_eq_getElem_cons h
      unfold g35b111010 g35b1110100110011
      simp only [bin_lss, cond_true, show ((i : Int) < (s.length : Int)) from by omega, decide_true, hx, e1, e2, e3]
      rw [nb _ hn1, nb _ hn2]
      rw [e6, ← Crc.stN_add, hd]
      exact ih (i + 1) _ (Crc.stN_lt hn1 8) (by omega) (by omega)
    · have hi' : i = s.length := by omega
      subst hi'
      have e1 : ∀ K, A.un .xor (.int .u32 (c : Nat)) K = K (.int .u32 ((4294967295 ^^^ c : Nat) : Int)) := fun K => by
        have := bin_xor32 4294967295 c (by omega) hc K
        refine Eq.trans ?_ this
        simp [A.un, A.bin, IntKind.signed, IntKind.max, IntKind.bits]
      have h2 := Crc.xor_lt32 (a := 4294967295) (by omega) hc
      unfold g35b111010
      simp only [bin_lss, Int.lt_irrefl, decide_false, cond_false, e1, A.toInt, List.drop_length]
      rw [wrap_i64 (by omega) (by omega)]
      rfl
theorem sum_s (s : List UInt8) (hs : s.length ≤ 9223372036854775807) (st : St) : s35 [.str s] st = some (.ret (.int .i64 (Crc.sum s : Nat)), st) := by
  rw [s35_eq]
  have hb := big_le
  refine fg_of (v := .int .i64 (Crc.sum s : Nat)) (st' := (st.new (.cells crcTab))) ?_ ((Ks.refl st).new _) rfl
  have hl := sum_loop s hs st.n (st.new (.cells crcTab)) (by simp) big 0 4294967295 (by omega) (by omega) (by omega)
  have e1 : putL [V.int .u32 0, .int .u32 0, .int .u32 0, .int .u32 0, .int .u32 0, .int .u32 0, .int .u32 0, .int .u32 0, .int .u32 0, .int .u32 0, .int .u32 0, .int .u32 0, .int .u32 0, .int .u32 0, .int .u32 0, .int .u32 0] 0 crcTab = crcTab := rfl
  have e2 : (st.new (.cells [V.int .u32 0, .int .u32 0, .int .u32 0, .int .u32 0, .int .u32 0, .int .u32 0, .int .u32 0, .int .u32 0, .int .u32 0, .int .u32 0, .int .u32 0, .int .u32 0, .int .u32 0, .int .u32 0, .int .u32 0, .int .u32 0])).put st.n (.cells crcTab) = st.new (.cells crcTab) := by
    unfold St.put St.new; congr 1; funext j; by_cases h : j = st.n <;> simp [h]
  have h3 : crcTab.length = 16 ∧ crcTab.all V.one = true := ⟨rfl, rfl⟩
  unfold f35
  rw [s50_val]
  rw [ret_ret, box_agg _ _ _ rfl]
  show A.store 16 (.ptr st.n 0) (.agg crcTab) _ _ = _
  rw [store_agg, new_at, obo_some, if_pos ⟨rfl, by decide, rfl⟩, e1, e2, lenS_str]
  exact hl
/-! ### the reference's Sum -/
theorem rsum_in (s : List UInt8) (L : V → V → V → St → Res) (st : St) (k : Nat) (hk : k < 9223372036854775807) : ∀ (n j c : Nat), c < 4294967296 → j ≤ 8 → 8 < n + j →
    g55b110100100110 L n (.str s) (.int .i64 (c : Nat)) (.int .i64 (k : Nat)) (.int .i64 (j : Nat)) st = L (.str s) (.int .i64 ((Crc.stN (8 - j) c : Nat) : Int)) (.int .i64 ((k + 1 : Nat) : Int)) st := by
  intro n
  induction n with
  | zero => intro j c hc hj hn; omega
  | succ n ih =>
    intro j c hc hj hn
    unfold g55b110100100110
    by_cases h : j < 8
    · have e1 : ∀ K, A.bin .mul (.int .i64 2) (.int .i64 (c : Nat)) K = K (.int .i64 ((2 * c : Nat) : Int)) := fun K => by
        rw [bin_mul K (by omega) (by omega)]; simp
      have e2 : ∀ K, A.bin .add (.int .i64 (j : Nat)) (.int .i64 1) K = K (.int .i64 ((j + 1 : Nat) : Int)) := fun K => bin_addN j 1 K (by omega)
      have hst := ih (j + 1) (Crc.st c) (Crc.st_lt hc) (by omega) (by omega)
      rw [Crc.stN_st, show 8 - (j + 1) + 1 = 8 - j by omega] at hst
      simp only [bin_lss, show ((j : Int) < 8) from by omega, decide_true, cond_true, e1, bin_gtr]
      by_cases hg : 4294967295 < 2 * c
      · have hb : Crc.st c = (2 * c - 4294967295 - 1) ^^^ 79764919 := by
          unfold Crc.st
          rw [show 2 * c % 4294967296 = 2 * c - 4294967295 - 1 by omega, show c / 2147483648 = 1 by omega, Nat.one_mul]
        rw [hb] at hst
        simp only [show ((4294967295 : Int) < ((2 * c : Nat) : Int)) from by omega, decide_true, cond_true]
        rw [bin_sub _ (by omega) (by omega), bin_sub _ (by omega) (by omega)]
        rw [show (((2 * c : Nat) : Int) - 4294967295 - 1) = ((2 * c - 4294967295 - 1 : Nat) : Int) by omega, show (79764919 : Int) = ((79764919 : Nat) : Int) from rfl, bin_xor64 _ _ (by omega) (by omega), e2]
        exact hst
      · have hb : Crc.st c = 2 * c := Crc.st_small (by omega)
        rw [hb] at hst
        simp only [show ¬ ((4294967295 : Int) < ((2 * c : Nat) : Int)) from by omega, decide_false, cond_false, e2]
        exact hst
    · have : j = 8 := by omega
      subst this
      have e2 : ∀ K, A.bin .add (.int .i64 (k : Nat)) (.int .i64 1) K = K (.int .i64 ((k + 1 : Nat) : Int)) := fun K => bin_addN k 1 K (by omega)
      simp only [bin_lss, show ¬ (((8 : Nat) : Int) < 8) from by omega, decide_false, cond_false, e2]
      rfl
theorem rsum_loop (s : List UInt8) (hs : s.length ≤ 9223372036854775807) (st : St) : ∀ (n i c : Nat), c < 4294967296 → i ≤ s.length → s.length < n + i →
    g55b11010 n (.str s) (.int .i64 (c : Nat)) (.int .i64 (i : Nat)) st = some (.ret (.int .i64 ((4294967295 ^^^ Crc.crc c (s.drop i) : Nat) : Int)), st) := by
  intro n
  induction n with
  | zero => intro i c hc hi hn; omega
  | succ n ih =>
    intro i c hc hi hn
    unfold g55b11010 g55b1101001001
    by_cases h : i < s.length
    · have hb := Crc.by_lt s[i]
      have hx := idxS_at (s := s) (i := i) h
      have e1 : ∀ K, A.toInt .i64 (.int .u8 s[i].toNat) K = K (.int .i64 (s[i].toNat : Nat)) := fun K => by
        have := s[i].toNat_lt
        simp only [A.toInt]; rw [wrap_i64 (by omega) (by omega)]
      have e2 : ∀ K, A.bin .shl (.int .i64 (s[i].toNat : Nat)) (.int .u64 24) K = K (.int .i64 ((s[i].toNat * 16777216 : Nat) : Int)) := fun K => by
        have := s[i].toNat_lt
        exact bin_shlN _ 24 K (by omega) (by simp; omega)
      have e3 : ∀ K, A.bin .xor (.int .i64 (c : Nat)) (.int .i64 ((s[i].toNat * 16777216 : Nat) : Int)) K = K (.int .i64 ((c ^^^ (s[i].toNat * 16777216) : Nat) : Int)) := bin_xor64 _ _ (by omega) (by omega)
      have hn1 : c ^^^ (s[i].toNat * 16777216) < 4294967296 := Crc.xor_lt32 hc hb
      have hd : s.drop i = s[i] :: s.drop (i + 1) := List.drop_eq_getElem_cons h
      have hB := big_le
      have hin := rsum_in s (g55b11010 n) st i (by omega) big 0 _ hn1 (by omega) (by omega)
      simp only [lenS_str, bin_lss, show ((i : Int) < (s.length : Int)) from by omega, decide_true, cond_true, hx, e1, e2, e3]
      refine hin.trans ?_
      rw [hd]
      exact ih (i + 1) _ (Crc.stN_lt hn1 8) (by omega) (by omega)
    · have hi' : i = s.length := by omega
      subst hi'
      have e1 : ∀ K, A.bin .xor (.int .i64 (c : Nat)) (.int .i64 4294967295) K = K (.int .i64 ((4294967295 ^^^ c : Nat) : Int)) := fun K => by
        rw [Nat.xor_comm]; exact bin_xor64 c 4294967295 (by omega) (by omega) K
      simp only [lenS_str, bin_lss, Int.lt_irrefl, decide_false, cond_false, e1, List.drop_length]
      rfl
theorem rsum_s (s : List UInt8) (hs : s.length ≤ 9223372036854775807) (st : St) : s55 [.str s] st = some (.ret (.int .i64 (Crc.sum s : Nat)), st) := by
  rw [s55_eq]
  have hb := big_le
  exact rsum_loop s hs st big 0 4294967295 (by omega) (by omega) (by omega)
end Go.Ab

/- sinew/wire: small functions; which notes may be. -/
namespace Go.Ab
open Go.RowKit Go.Oct
set_option linter.unusedVariables false
set_option linter.unusedSimpArgs false

structure Note where
  kind : Int
  nums : List Int
  texts : List (List UInt8)
  rows : List (List (List UInt8))
def rowsV (r : List (List (List UInt8))) : List V := r.map fun l => .lst (strsV l) 0
def noteC (n : Note) : List V := [.int .i64 n.kind, .lst (intsV n.nums) 0, .lst (strsV n.texts) 0, .lst (rowsV n.rows) 0]
def noteV (n : Note) : V := .agg (noteC n)
@[simp] theorem rowsV_len (r : List (List (List UInt8))) : (rowsV r).length = r.length := by simp [rowsV]
@[simp] theorem szok_rows (r : List (List (List UInt8))) : szok 1 (rowsV r) = true := szok_map (fun _ => rfl) r
theorem iaddr_rows {r : List (List (List UInt8))} {i : Nat} (t : Nat) (h : i < r.length) (K : V → Res) : A.iaddr 1 (.lst (rowsV r) t) (.int .i64 (i : Nat)) K = K (.lptr [.lst (strsV r[i]) 0]) := iaddr_lst (v := .lst (strsV r[i]) 0) K (by simp [rowsV, h]) rfl
theorem bin_addW (x y : Int) (K : V → Res) : A.bin .add (.int .i64 x) (.int .i64 y) K = K (.int .i64 (IntKind.i64.wrap (x + y))) := by simp [A.bin]
/-! ### four bytes -/
def of4 (s : List UInt8) : Nat := val (s.take 4)
theorem of4_lt (s : List UInt8) : of4 s < 4294967296 := by
  have := val_lt (s.take 4)
  have h : (s.take 4).length ≤ 4 := by simp; omega
  have := Nat.pow_le_pow_right (show 0 < 256 by omega) h
  unfold of4; omega
theorem four_bytes {s : List UInt8} (h : 4 ≤ s.length) : ∃ a b c d r, s = a :: b :: c :: d :: r := by
  match s, h with
  | a :: b :: c :: d :: r, _ => exact ⟨a, b, c, d, r, rfl⟩
  | [], h | [_], h | [_, _], h | [_, _, _], h => simp at h
theorem of4_eq (a b c d : UInt8) (r : List UInt8) : of4 (a :: b :: c :: d :: r) = ((a.toNat * 2 ^ 8 + b.toNat) * 2 ^ 8 + c.toNat) * 2 ^ 8 + d.toNat := by
  simp [of4, val]
theorem four_walk (a b c d : UInt8) (K : V → Res) : (A.bin .shl (.int .i64 (a.toNat : Nat)) (.int .u64 24) fun a3 => A.bin .shl (.int .i64 (b.toNat : Nat)) (.int .u64 16) fun a6 => A.bin .or a3 a6 fun a7 => A.bin .shl (.int .i64 (c.toNat : Nat)) (.int .u64 8) fun a10 => A.bin .or a7 a10 fun a11 => A.bin .or a11 (.int .i64 (d.toNat : Nat)) K)
    = K (.int .i64 ((((a.toNat * 2 ^ 8 + b.toNat) * 2 ^ 8 + c.toNat) * 2 ^ 8 + d.toNat : Nat) : Int)) := by
  have ha := a.toNat_lt; have hb := b.toNat_lt; have hc := c.toNat_lt; have hd := d.toNat_lt
  have e1 : ∀ K, A.bin .shl (.int .i64 (a.toNat : Nat)) (.int .u64 24) K = K (.int .i64 ((a.toNat * 2 ^ 24 : Nat) : Int)) := fun K => bin_shl64 _ 24 K (by omega) (by omega)
  have e2 : ∀ K, A.bin .shl (.int .i64 (b.toNat : Nat)) (.int .u64 16) K = K (.int .i64 ((b.toNat * 2 ^ 16 : Nat) : Int)) := fun K => bin_shl64 _ 16 K (by omega) (by omega)
  have e3 : ∀ K, A.bin .shl (.int .i64 (c.toNat : Nat)) (.int .u64 8) K = K (.int .i64 ((c.toNat * 2 ^ 8 : Nat) : Int)) := fun K => bin_shl64 _ 8 K (by omega) (by omega)
  have e4 : ∀ K, A.bin .or (.int .i64 ((a.toNat * 2 ^ 24 : Nat) : Int)) (.int .i64 ((b.toNat * 2 ^ 16 : Nat) : Int)) K = K (.int .i64 (((a.toNat * 2 ^ 8 + b.toNat) * 2 ^ 16 : Nat) : Int)) := fun K => by
    rw [bin_orJ _ _ 24 K (by omega) (by omega), show a.toNat * 2 ^ 24 + b.toNat * 2 ^ 16 = (a.toNat * 2 ^ 8 + b.toNat) * 2 ^ 16 by omega]
  have e5 : ∀ K, A.bin .or (.int .i64 (((a.toNat * 2 ^ 8 + b.toNat) * 2 ^ 16 : Nat) : Int)) (.int .i64 ((c.toNat * 2 ^ 8 : Nat) : Int)) K = K (.int .i64 ((((a.toNat * 2 ^ 8 + b.toNat) * 2 ^ 8 + c.toNat) * 2 ^ 8 : Nat) : Int)) := fun K => by
    rw [bin_orJ _ _ 16 K (by omega) (by omega), show (a.toNat * 2 ^ 8 + b.toNat) * 2 ^ 16 + c.toNat * 2 ^ 8 = ((a.toNat * 2 ^ 8 + b.toNat) * 2 ^ 8 + c.toNat) * 2 ^ 8 by omega]
  have e6 : ∀ K, A.bin .or (.int .i64 ((((a.toNat * 2 ^ 8 + b.toNat) * 2 ^ 8 + c.toNat) * 2 ^ 8 : Nat) : Int)) (.int .i64 (d.toNat : Nat)) K = K (.int .i64 ((((a.toNat * 2 ^ 8 + b.toNat) * 2 ^ 8 + c.toNat) * 2 ^ 8 + d.toNat : Nat) : Int)) := fun K => bin_orJ _ _ 8 K (by omega) (by omega)
  simp only [e1, e2, e3, e4, e5, e6]
theorem idx_0 (a : UInt8) (r : List UInt8) (K : V → Res) : A.idxS (.str (a :: r)) (.int .i64 0) K = K (.int .u8 (a.toNat : Nat)) := rfl
theorem idx_1 (a b : UInt8) (r : List UInt8) (K : V → Res) : A.idxS (.str (a :: b :: r)) (.int .i64 1) K = K (.int .u8 (b.toNat : Nat)) := rfl
theorem idx_2 (a b c : UInt8) (r : List UInt8) (K : V → Res) : A.idxS (.str (a :: b :: c :: r)) (.int .i64 2) K = K (.int .u8 (c.toNat : Nat)) := rfl
theorem idx_3 (a b c d : UInt8) (r : List UInt8) (K : V → Res) : A.idxS (.str (a :: b :: c :: d :: r)) (.int .i64 3) K = K (.int .u8 (d.toNat : Nat)) := rfl
theorem of4_s {s : List UInt8} (h : 4 ≤ s.length) (st : St) : s51 [.str s] st = some (.ret (.int .i64 (of4 s : Nat)), st) := by
  obtain ⟨a, b, c, d, r, rfl⟩ := four_bytes h
  rw [s51_eq]
  unfold f51
  simp only [idx_0, idx_1, idx_2, idx_3, toInt_u8]
  rw [four_walk a b c d, of4_eq]; rfl
def four (n : Nat) : List UInt8 := digsN n 4
theorem four_eq (n : Nat) : four n = [UInt8.ofNat (n / 2 ^ 24), UInt8.ofNat (n / 2 ^ 16), UInt8.ofNat (n / 2 ^ 8), UInt8.ofNat n] := by
  unfold four
  rw [digsN_succ, digsN_succ, digsN_succ, digsN_succ, ofNat_mod, ofNat_mod, ofNat_mod, ofNat_mod]
  show [_, _, _, _] = _
  simp
theorem of4_four (n : Nat) (h : n < 4294967296) (t : List UInt8) : of4 (four n ++ t) = n := by
  unfold of4
  rw [List.take_left' (by unfold four; rw [digsN_length])]
  unfold four
  rw [val_digs]
  exact Nat.mod_eq_of_lt h
theorem four_len (n : Nat) : (four n).length = 4 := digsN_length n 4
@[simp] theorem bslice_u84 (a b c d : Int) (K : V → Res) : A.bslice 1 (.int .u8 0) 4 [(0, .int .u8 a), (1, .int .u8 b), (2, .int .u8 c), (3, .int .u8 d)] K = K (.lst [.int .u8 a, .int .u8 b, .int .u8 c, .int .u8 d] 2) := by simp [A.bslice, setP, V.er, List.replicate]
theorem four_s (n : Nat) (st : St) : s34 [.int .i64 (n : Nat)] st = some (.ret (.str (four n)), st) := by
  rw [s34_eq]
  unfold f34
  have e1 : ∀ K, A.bin .shr (.int .i64 (n : Nat)) (.int .u64 24) K = K (.int .i64 ((n / 2 ^ 24 : Nat) : Int)) := fun K => bin_shrL n 24 .u64 K (by omega)
  have e2 : ∀ K, A.bin .shr (.int .i64 (n : Nat)) (.int .u64 16) K = K (.int .i64 ((n / 2 ^ 16 : Nat) : Int)) := fun K => bin_shrL n 16 .u64 K (by omega)
  have e3 : ∀ K, A.bin .shr (.int .i64 (n : Nat)) (.int .u64 8) K = K (.int .i64 ((n / 2 ^ 8 : Nat) : Int)) := fun K => bin_shrL n 8 .u64 K (by omega)
  simp only [e1, e2, e3, toInt_8, bslice_u84]
  rw [show [V.int .u8 ((UInt8.ofNat (n / 2 ^ 24)).toNat : Nat), .int .u8 ((UInt8.ofNat (n / 2 ^ 16)).toNat : Nat), .int .u8 ((UInt8.ofNat (n / 2 ^ 8)).toNat : Nat), .int .u8 ((UInt8.ofNat n).toNat : Nat)] = bytV (four n) by rw [four_eq]; rfl]
  rw [toStr_bytV]; rfl
theorem rfour_s (n : Nat) (st : St) : s54 [.int .i64 (n : Nat)] st = some (.ret (.str (four n)), st) := by
  rw [s54_eq]
  unfold f54
  have e1 : ∀ K, A.bin .shr (.int .i64 (n : Nat)) (.int .u64 24) K = K (.int .i64 ((n / 2 ^ 24 : Nat) : Int)) := fun K => bin_shrL n 24 .u64 K (by omega)
  have e2 : ∀ K, A.bin .shr (.int .i64 (n : Nat)) (.int .u64 16) K = K (.int .i64 ((n / 2 ^ 16 : Nat) : Int)) := fun K => bin_shrL n 16 .u64 K (by omega)
  have e3 : ∀ K, A.bin .shr (.int .i64 (n : Nat)) (.int .u64 8) K = K (.int .i64 ((n / 2 ^ 8 : Nat) : Int)) := fun K => bin_shrL n 8 .u64 K (by omega)
  have e4 : ∀ (m : Nat) K, A.bin .and (.int .i64 (m : Nat)) (.int .i64 255) K = K (.int .i64 ((m % 256 : Nat) : Int)) := fun m K => by
    have := bin_mask (x := (m : Int)) (m := 255) 8 rfl (by omega) K
    rw [show ((255 : Nat) : Int) = 255 from rfl] at this
    rw [this]; rfl
  simp only [e1, e2, e3, e4, toInt_8, bslice_u84, ofNat_mod]
  rw [show [V.int .u8 ((UInt8.ofNat (n / 2 ^ 24)).toNat : Nat), .int .u8 ((UInt8.ofNat (n / 2 ^ 16)).toNat : Nat), .int .u8 ((UInt8.ofNat (n / 2 ^ 8)).toNat : Nat), .int .u8 ((UInt8.ofNat n).toNat : Nat)] = bytV (four n) by rw [four_eq]; rfl]
  rw [toStr_bytV]; rfl
/-! ### fits -/
def oddN (k : Int) : Bool := decide (k < 0) || decide (4611686018427387903 < k)
def longT (s : List UInt8) : Bool := decide (65536 < s.length)
theorem odd_s (k : Int) (st : St) : s56 [.int .i64 k] st = some (.ret (.bool (oddN k)), st) := by
  rw [s56_eq]
  unfold f56
  by_cases h : k < 0 <;> simp [h, oddN]
theorem long_s (s : List UInt8) (st : St) : s57 [.str s] st = some (.ret (.bool (longT s)), st) := by
  rw [s57_eq]
  unfold f57
  simp only [lenS_str, bin_gtr, er1_bool, longT]
  congr 4
  simp; omega
theorem idxT_loop (l : List (List UInt8)) (t : Nat) (hl : l.length ≤ 9223372036854775807) (st : St) : ∀ (n i : Nat), i ≤ l.length → l.length < n + i →
    ∃ r : Int, g70b1010 n (.lst (strsV l) t) (.fn 57 [] []) (.int .i64 (l.length : Nat)) (.int .i64 (i : Nat)) st = some (.ret (.int .i64 r), st) ∧ decide (0 ≤ r) = (l.drop i).any longT := by
  intro n
  induction n with
  | zero => intro i hi hn; omega
  | succ n ih =>
    intro i hi hn
    unfold g70b1010
    by_cases h : i < l.length
    · have e4 : ∀ K, A.bin .add (.int .i64 (i : Nat)) (.int .i64 1) K = K (.int .i64 ((i + 1 : Nat) : Int)) := fun K => bin_inc (by omega) K
      have e5 : ∀ (x : List UInt8) K, A.call g70T (.fn 57 [] []) [.str x] st K = A.ret (s57 [.str x] st) K := fun x K => rfl
      simp only [bin_lss, show ((i : Int) < (l.length : Int)) from by omega, decide_true, cond_true, iaddr_strs t h, load_l1', e5, long_s, ret_ret]
      rw [List.drop_eq_getElem_cons h, List.any_cons]
      cases hx : longT l[i] with
      | true => exact ⟨i, by simp, by simp⟩
      | false =>
        simp only [cond_false, e4, Bool.false_or]
        exact ih (i + 1) (by omega) (by omega)
    · have : i = l.length := by omega
      subst this
      simp only [bin_lss, Int.lt_irrefl, decide_false, cond_false, er1_int, List.drop_length]
      exact ⟨-1, rfl, rfl⟩
theorem containsT_s (l : List (List UInt8)) (t : Nat) (hl : l.length ≤ 9223372036854775807) (st : St) : s58 [.lst (strsV l) t, .fn 57 [] []] st = some (.ret (.bool (l.any longT)), st) := by
  rw [s58_eq]
  unfold f58
  obtain ⟨r, h1, h2⟩ := idxT_loop l t hl st big 0 (by omega) (lt_big (by omega))
  rw [List.drop_zero] at h2
  have e : s70 [.lst (strsV l) t, .fn 57 [] []] st = some (.ret (.int .i64 r), st) := by
    rw [s70_eq]; unfold f70
    simp only [lenL_lst, strsV_len]
    exact h1
  simp only [er1_lst, er1_fn, e, ret_ret, bin_geq, er1_bool, h2]
theorem idxN_loop (l : List Int) (t : Nat) (hl : l.length ≤ 9223372036854775807) (st : St) : ∀ (n i : Nat), i ≤ l.length → l.length < n + i →
    ∃ r : Int, g71b1010 n (.lst (intsV l) t) (.fn 56 [] []) (.int .i64 (l.length : Nat)) (.int .i64 (i : Nat)) st = some (.ret (.int .i64 r), st) ∧ decide (0 ≤ r) = (l.drop i).any oddN := by
  intro n
  induction n with
  | zero => intro i hi hn; omega
  | succ n ih =>
    intro i hi hn
    unfold g71b1010
    by_cases h : i < l.length
    · have e4 : ∀ K, A.bin .add (.int .i64 (i : Nat)) (.int .i64 1) K = K (.int .i64 ((i + 1 : Nat) : Int)) := fun K => bin_inc (by omega) K
      have e5 : ∀ (x : Int) K, A.call g71T (.fn 56 [] []) [.int .i64 x] st K = A.ret (s56 [.int .i64 x] st) K := fun x K => rfl
      simp only [bin_lss, show ((i : Int) < (l.length : Int)) from by omega, decide_true, cond_true, iaddr_ints t h, load_l1', e5, odd_s, ret_ret]
      rw [List.drop_eq_getElem_cons h, List.any_cons]
      cases hx : oddN l[i] with
      | true => exact ⟨i, by simp, by simp⟩
      | false =>
        simp only [cond_false, e4, Bool.false_or]
        exact ih (i + 1) (by omega) (by omega)
    · have : i = l.length := by omega
      subst this
      simp only [bin_lss, Int.lt_irrefl, decide_false, cond_false, er1_int, List.drop_length]
      exact ⟨-1, rfl, rfl⟩
theorem containsN_s (l : List Int) (t : Nat) (hl : l.length ≤ 9223372036854775807) (st : St) : s59 [.lst (intsV l) t, .fn 56 [] []] st = some (.ret (.bool (l.any oddN)), st) := by
  rw [s59_eq]
  unfold f59
  obtain ⟨r, h1, h2⟩ := idxN_loop l t hl st big 0 (by omega) (lt_big (by omega))
  rw [List.drop_zero] at h2
  have e : s71 [.lst (intsV l) t, .fn 56 [] []] st = some (.ret (.int .i64 r), st) := by
    rw [s71_eq]; unfold f71
    simp only [lenL_lst, intsV_len]
    exact h1
  simp only [er1_lst, er1_fn, e, ret_ret, bin_geq, er1_bool, h2]
end Go.Ab

/- sinew/wire: which notes may be. -/
namespace Go.Ab
open Go.RowKit Go.Oct
set_option linter.unusedVariables false
set_option linter.unusedSimpArgs false

def manyF (m : Int) (r : List (List (List UInt8))) : Int := r.foldl (fun m l => IntKind.i64.wrap (m + (l.length : Int))) m
def greatF (g : Bool) (r : List (List (List UInt8))) : Bool := g || r.any fun l => l.any longT
/-- What fits answers. -/
def fitsW (n : Note) : Bool :=
  !decide (n.kind < 1) && (!decide (255 < n.kind) && (!decide (64 < n.nums.length) && (!decide (4096 < n.rows.length) &&
  (!n.nums.any oddN && (!greatF false n.rows && (!n.texts.any longT && decide (manyF n.texts.length n.rows ≤ 4096)))))))
/-- A list's length is one that an int holds. -/
structure NoteOK (n : Note) : Prop where
  nums : n.nums.length ≤ 9223372036854775807
  texts : n.texts.length ≤ 9223372036854775807
  rows : n.rows.length ≤ 9223372036854775807
  row : ∀ r ∈ n.rows, r.length ≤ 9223372036854775807
theorem fits_loop (n : Note) (hn : NoteOK n) (id : Nat) (st : St) (ho : st.ob id = some (.cells (noteC n))) : ∀ (f i : Nat) (m : Int) (g : Bool), i ≤ n.rows.length → n.rows.length < f + i →
    g42b11111010 f (.ptr id 0) (.fn 56 [] []) (.int .i64 m) (.bool g) (.fn 57 [] []) (.lst (rowsV n.rows) 0) (.int .i64 (n.rows.length : Nat)) (.int .i64 (i : Nat)) st
      = g42b111111 (.ptr id 0) (.fn 56 [] []) (.int .i64 (manyF m (n.rows.drop i))) (.bool (greatF g (n.rows.drop i))) (.fn 57 [] []) st := by
  intro f
  induction f with
  | zero => intro i m g hi hf; omega
  | succ f ih =>
    intro i m g hi hf
    unfold g42b11111010
    by_cases h : i < n.rows.length
    · have e4 : ∀ K, A.bin .add (.int .i64 (i : Nat)) (.int .i64 1) K = K (.int .i64 ((i + 1 : Nat) : Int)) := fun K => bin_inc (by have := hn.rows; omega) K
      have hr := hn.row _ (List.getElem_mem h)
      have e3 : ∀ K, A.bin .add (.int .i64 m) (.int .i64 (n.rows[i].length : Nat)) K = K (.int .i64 (IntKind.i64.wrap (m + (n.rows[i].length : Int)))) := fun K => bin_addW _ _ K
      simp only [bin_lss, show ((i : Int) < (n.rows.length : Int)) from by omega, decide_true, cond_true, iaddr_rows 0 h, load_l1', lenL_lst, strsV_len, e3]
      rw [List.drop_eq_getElem_cons h]
      cases g with
      | false =>
        simp only [guard_ff, er1_lst, er1_fn, containsT_s _ _ hr, ret_ret, e4]
        rw [ih (i + 1) _ _ (by omega) (by omega)]
        simp only [manyF, greatF, List.foldl_cons, List.any_cons, Bool.false_or]
      | true =>
        simp only [guard_tf, e4]
        rw [ih (i + 1) _ _ (by omega) (by omega)]
        simp only [manyF, greatF, List.foldl_cons, List.any_cons, Bool.true_or]
    · have : i = n.rows.length := by omega
      subst this
      simp only [bin_lss, Int.lt_irrefl, decide_false, cond_false, List.drop_length, manyF, greatF, List.foldl_nil, List.any_nil, Bool.or_false]
theorem fits_s (n : Note) (hn : NoteOK n) (st : St) : s42 [noteV n] st = some (.ret (.bool (fitsW n)), st) := by
  rw [s42_eq]
  refine fg_of (st' := st.new (.cells (noteC n))) (v := .bool (fitsW n)) ?_ ((Ks.refl st).new _) rfl
  unfold f42 noteV
  rw [box_agg _ _ _ rfl]
  generalize hst : st.new (.cells (noteC n)) = st1
  have ho : st1.ob st.n = some (.cells (noteC n)) := by rw [← hst]; simp
  generalize st.n = id at ho
  have l0 : ∀ K, A.load false 1 (.ptr id 0) st1 K = K (.int .i64 n.kind) st1 := fun K => by simp [ho, noteC]
  have l1 : ∀ K, A.load false 1 (.ptr id 1) st1 K = K (.lst (intsV n.nums) 0) st1 := fun K => by simp [ho, noteC]
  have l2 : ∀ K, A.load false 1 (.ptr id 2) st1 K = K (.lst (strsV n.texts) 0) st1 := fun K => by simp [ho, noteC]
  have l3 : ∀ K, A.load false 1 (.ptr id 3) st1 K = K (.lst (rowsV n.rows) 0) st1 := fun K => by simp [ho, noteC]
  unfold fitsW
  simp only [faddr_ptr, Nat.zero_add, l0, bin_lss]
  by_cases h1 : n.kind < 1
  · simp only [h1, decide_true, guard_tf, Bool.not_true, Bool.false_and]
    unfold g42b100_9; simp only [guard_tf]
    unfold g42b100_15; simp only [guard_tf, er1_bool]
  simp only [h1, decide_false, guard_ff, bin_gtr, Bool.not_false, Bool.true_and, l0]
  unfold g42b100_9
  by_cases h2 : 255 < n.kind
  · simp only [h2, decide_true, guard_tf, Bool.not_true, Bool.false_and]
    unfold g42b100_15; simp only [guard_tf, er1_bool]
  simp only [h2, decide_false, guard_ff, faddr_ptr, Nat.zero_add, l1, lenL_lst, intsV_len, bin_gtr, Bool.not_false, Bool.true_and]
  unfold g42b100_15
  by_cases h3 : 64 < n.nums.length
  · simp only [h3, show ((64 : Int) < (n.nums.length : Int)) from by omega, decide_true, guard_tf, Bool.not_true, Bool.false_and, er1_bool]
  simp only [h3, show ¬ ((64 : Int) < (n.nums.length : Int)) from by omega, decide_false, guard_ff, faddr_ptr, Nat.zero_add, l3, lenL_lst, rowsV_len, bin_gtr, Bool.not_false, Bool.true_and]
  by_cases h4 : 4096 < n.rows.length
  · simp only [h4, show ((4096 : Int) < (n.rows.length : Int)) from by omega, decide_true, cond_true, Bool.not_true, Bool.false_and, er1_bool]
  simp only [h4, show ¬ ((4096 : Int) < (n.rows.length : Int)) from by omega, decide_false, cond_false, Bool.not_false, Bool.true_and]
  unfold g42b11
  simp only [faddr_ptr, Nat.zero_add, l2, lenL_lst, strsV_len]
  unfold g42b1111
  simp only [faddr_ptr, Nat.zero_add, l3, lenL_lst, rowsV_len]
  have := fits_loop n hn id st1 ho big 0 (n.texts.length : Nat) false (by omega) (lt_big (by have := hn.rows; omega))
  rw [List.drop_zero, show ((0 : Nat) : Int) = 0 from rfl] at this
  rw [this]
  unfold g42b111111
  simp only [faddr_ptr, Nat.zero_add, l1, er1_lst, er1_fn, containsN_s _ _ hn.nums, ret_ret, un_not]
  unfold g42b1111110_6
  cases hA : n.nums.any oddN with
  | true =>
    simp only [Bool.not_true, guard_ft, Bool.false_and]
    unfold g42b1111110_17; simp only [guard_ft, er1_bool]
  | false =>
    simp only [Bool.not_false, guard_tt, un_not, Bool.true_and]
    cases hB : greatF false n.rows with
    | true =>
      simp only [Bool.not_true, guard_ft, Bool.false_and]
      unfold g42b1111110_17; simp only [guard_ft, er1_bool]
    | false =>
      simp only [Bool.not_false, guard_tt, faddr_ptr, Nat.zero_add, l2, er1_lst, er1_fn, containsT_s _ _ hn.texts, ret_ret, un_not, Bool.true_and]
      unfold g42b1111110_17
      cases hC : n.texts.any longT with
      | true => simp only [Bool.not_true, guard_ft, Bool.false_and, er1_bool]
      | false => simp only [Bool.not_false, guard_tt, bin_leq, Bool.true_and, er1_bool]
/-! ### sinewref03.shaped -/
theorem short_loop (l : List (List UInt8)) (t : Nat) (hl : l.length ≤ 9223372036854775807) (st : St) : ∀ (n i : Nat), i ≤ l.length → l.length < n + i →
    g74b1010 n (.lst (strsV l) t) (.int .i64 (i : Nat)) st = some (.ret (.bool (!(l.drop i).any longT)), st) := by
  intro n
  induction n with
  | zero => intro i hi hn; omega
  | succ n ih =>
    intro i hi hn
    unfold g74b1010
    by_cases h : i < l.length
    · have e4 : ∀ K, A.bin .add (.int .i64 (i : Nat)) (.int .i64 1) K = K (.int .i64 ((i + 1 : Nat) : Int)) := fun K => bin_inc (by omega) K
      simp only [lenL_lst, strsV_len, bin_lss, show ((i : Int) < (l.length : Int)) from by omega, decide_true, cond_true, iaddr_strs t h, load_l1', lenS_str, bin_gtr]
      rw [List.drop_eq_getElem_cons h, List.any_cons]
      by_cases hx : 65536 < l[i].length
      · simp only [show ((65536 : Int) < (l[i].length : Int)) from by omega, decide_true, cond_true, er1_bool, longT, hx, Bool.true_or, Bool.not_true]
      · simp only [show ¬ ((65536 : Int) < (l[i].length : Int)) from by omega, decide_false, cond_false, e4, ih (i + 1) (by omega) (by omega)]
        simp only [longT, hx, decide_false, Bool.false_or]
    · have : i = l.length := by omega
      subst this
      simp only [lenL_lst, strsV_len, bin_lss, Int.lt_irrefl, decide_false, cond_false, er1_bool, List.drop_length]
      rfl
theorem short_s (l : List (List UInt8)) (t : Nat) (hl : l.length ≤ 9223372036854775807) (st : St) : s74 [.lst (strsV l) t] st = some (.ret (.bool (!l.any longT)), st) := by
  rw [s74_eq]
  unfold f74
  have := short_loop l t hl st big 0 (by omega) (lt_big (by omega))
  rw [List.drop_zero] at this
  exact this
/-- The rows, one behind the other. -/
def rowsS (k : Int) : List (List (List UInt8)) → Bool
  | [] => true
  | l :: r => !decide (4096 - k < l.length) && (!l.any longT && rowsS (k + l.length) r)
def shapedW (n : Note) : Bool :=
  !decide (n.kind < 1) && (!decide (255 < n.kind) && (!decide (64 < n.nums.length) && (!decide (4096 < n.texts.length) && (!decide (4096 < n.rows.length) &&
  (!n.texts.any longT && (!n.nums.any oddN && rowsS n.texts.length n.rows))))))
theorem shaped_rows (n : Note) (hn : NoteOK n) (id : Nat) (st : St) (ho : st.ob id = some (.cells (noteC n))) : ∀ (f i : Nat) (k : Int), 0 ≤ k → k ≤ 4096 → i ≤ n.rows.length → n.rows.length < f + i →
    g66b1111010 f (.ptr id 0) (.int .i64 k) (.int .i64 (i : Nat)) st = some (.ret (.bool (rowsS k (n.rows.drop i))), st) := by
  have l3 : ∀ K, A.load false 1 (.ptr id 3) st K = K (.lst (rowsV n.rows) 0) st := fun K => by simp [ho, noteC]
  intro f
  induction f with
  | zero => intro i k h0 hk hi hf; omega
  | succ f ih =>
    intro i k h0 hk hi hf
    unfold g66b1111010
    by_cases h : i < n.rows.length
    · have e4 : ∀ K, A.bin .add (.int .i64 (i : Nat)) (.int .i64 1) K = K (.int .i64 ((i + 1 : Nat) : Int)) := fun K => bin_inc (by have := hn.rows; omega) K
      have hr := hn.row _ (List.getElem_mem h)
      have e1 : ∀ K, A.bin .sub (.int .i64 4096) (.int .i64 k) K = K (.int .i64 (4096 - k)) := fun K => bin_sub K (by omega) (by omega)
      simp only [faddr_ptr, Nat.zero_add, l3, lenL_lst, rowsV_len, bin_lss, show ((i : Int) < (n.rows.length : Int)) from by omega, decide_true, cond_true, iaddr_rows 0 h, load_l1', strsV_len, e1, bin_gtr]
      rw [List.drop_eq_getElem_cons h]
      unfold rowsS g66b1111010010000_10
      by_cases h1 : 4096 - k < (n.rows[i].length : Int)
      · simp only [h1, decide_true, guard_tf, er1_bool, Bool.not_true, Bool.false_and]
      · have e2 : ∀ K, A.bin .add (.int .i64 k) (.int .i64 (n.rows[i].length : Nat)) K = K (.int .i64 (k + (n.rows[i].length : Int))) := fun K => bin_add K (by omega) (by omega)
        simp only [h1, decide_false, guard_ff, faddr_ptr, Nat.zero_add, l3, iaddr_rows 0 h, load_l1', er1_lst, short_s _ _ hr, ret_ret, un_not, Bool.not_not, Bool.not_false, Bool.true_and]
        cases hB : n.rows[i].any longT with
        | true => simp only [cond_true, er1_bool, Bool.not_true, Bool.false_and]
        | false =>
          simp only [cond_false, lenL_lst, strsV_len, e2, e4, Bool.not_false, Bool.true_and]
          exact ih (i + 1) _ (by omega) (by omega) (by omega) (by omega)
    · have : i = n.rows.length := by omega
      subst this
      simp only [faddr_ptr, Nat.zero_add, l3, lenL_lst, rowsV_len, bin_lss, Int.lt_irrefl, decide_false, cond_false, er1_bool, List.drop_length]
      rfl
theorem shaped_nums (n : Note) (hn : NoteOK n) (id : Nat) (st : St) (ho : st.ob id = some (.cells (noteC n))) : ∀ (f i : Nat), i ≤ n.nums.length → n.nums.length < f + i →
    g66b11010 f (.ptr id 0) (.int .i64 (i : Nat)) st = _root_.cond ((n.nums.drop i).any oddN) (some (.ret (.bool false), st)) (g66b111 (.ptr id 0) st) := by
  have l1 : ∀ K, A.load false 1 (.ptr id 1) st K = K (.lst (intsV n.nums) 0) st := fun K => by simp [ho, noteC]
  intro f
  induction f with
  | zero => intro i hi hf; omega
  | succ f ih =>
    intro i hi hf
    unfold g66b11010
    by_cases h : i < n.nums.length
    · have e4 : ∀ K, A.bin .add (.int .i64 (i : Nat)) (.int .i64 1) K = K (.int .i64 ((i + 1 : Nat) : Int)) := fun K => bin_inc (by have := hn.nums; omega) K
      simp only [faddr_ptr, Nat.zero_add, l1, lenL_lst, intsV_len, bin_lss, show ((i : Int) < (n.nums.length : Int)) from by omega, decide_true, cond_true, iaddr_ints 0 h, load_l1']
      rw [List.drop_eq_getElem_cons h, List.any_cons]
      unfold oddN
      by_cases h1 : n.nums[i] < 0
      · simp only [h1, decide_true, guard_tf, er1_bool, Bool.true_or, _root_.cond_true]
      · simp only [h1, decide_false, guard_ff, faddr_ptr, Nat.zero_add, l1, iaddr_ints 0 h, load_l1', bin_gtr, Bool.false_or]
        by_cases h2 : 4611686018427387903 < n.nums[i]
        · simp only [h2, decide_true, cond_true, er1_bool, Bool.true_or, _root_.cond_true]
        · simp only [h2, decide_false, cond_false, e4, Bool.false_or]
          exact ih (i + 1) (by omega) (by omega)
    · have : i = n.nums.length := by omega
      subst this
      simp only [faddr_ptr, Nat.zero_add, l1, lenL_lst, intsV_len, bin_lss, Int.lt_irrefl, decide_false, cond_false, List.drop_length]
      rfl
theorem shaped_s (n : Note) (hn : NoteOK n) (st : St) : s66 [noteV n] st = some (.ret (.bool (shapedW n)), st) := by
  rw [s66_eq]
  refine fg_of (st' := st.new (.cells (noteC n))) (v := .bool (shapedW n)) ?_ ((Ks.refl st).new _) rfl
  unfold f66 noteV
  rw [box_agg _ _ _ rfl]
  generalize hst : st.new (.cells (noteC n)) = st1
  have ho : st1.ob st.n = some (.cells (noteC n)) := by rw [← hst]; simp
  generalize st.n = id at ho
  have l0 : ∀ K, A.load false 1 (.ptr id 0) st1 K = K (.int .i64 n.kind) st1 := fun K => by simp [ho, noteC]
  have l1 : ∀ K, A.load false 1 (.ptr id 1) st1 K = K (.lst (intsV n.nums) 0) st1 := fun K => by simp [ho, noteC]
  have l2 : ∀ K, A.load false 1 (.ptr id 2) st1 K = K (.lst (strsV n.texts) 0) st1 := fun K => by simp [ho, noteC]
  have l3 : ∀ K, A.load false 1 (.ptr id 3) st1 K = K (.lst (rowsV n.rows) 0) st1 := fun K => by simp [ho, noteC]
  have z27 : g66b100_27 (.ptr id 0) (.bool true) st1 = some (.ret (.bool false), st1) := by unfold g66b100_27; simp only [guard_tf, er1_bool]
  have z21 : g66b100_21 (.ptr id 0) (.bool true) st1 = some (.ret (.bool false), st1) := by unfold g66b100_21; simp only [guard_tf, z27]
  have z15 : g66b100_15 (.ptr id 0) (.bool true) st1 = some (.ret (.bool false), st1) := by unfold g66b100_15; simp only [guard_tf, z21]
  unfold shapedW
  simp only [faddr_ptr, Nat.zero_add, l0, bin_lss]
  by_cases h1 : n.kind < 1
  · simp only [h1, decide_true, guard_tf, Bool.not_true, Bool.false_and]
    unfold g66b100_9; simp only [guard_tf, z15]
  simp only [h1, decide_false, guard_ff, bin_gtr, Bool.not_false, Bool.true_and, l0]
  unfold g66b100_9
  by_cases h2 : 255 < n.kind
  · simp only [h2, decide_true, guard_tf, Bool.not_true, Bool.false_and, z15]
  simp only [h2, decide_false, guard_ff, faddr_ptr, Nat.zero_add, l1, lenL_lst, intsV_len, bin_gtr, Bool.not_false, Bool.true_and]
  by_cases h3 : 64 < n.nums.length
  · simp only [h3, show ((64 : Int) < (n.nums.length : Int)) from by omega, decide_true, z15, Bool.not_true, Bool.false_and]
  simp only [h3, show ¬ ((64 : Int) < (n.nums.length : Int)) from by omega, decide_false, Bool.not_false, Bool.true_and]
  unfold g66b100_15
  simp only [guard_ff, faddr_ptr, Nat.zero_add, l2, lenL_lst, strsV_len, bin_gtr]
  by_cases h4 : 4096 < n.texts.length
  · simp only [h4, show ((4096 : Int) < (n.texts.length : Int)) from by omega, decide_true, z21, Bool.not_true, Bool.false_and]
  simp only [h4, show ¬ ((4096 : Int) < (n.texts.length : Int)) from by omega, decide_false, Bool.not_false, Bool.true_and]
  unfold g66b100_21
  simp only [guard_ff, faddr_ptr, Nat.zero_add, l3, lenL_lst, rowsV_len, bin_gtr]
  by_cases h5 : 4096 < n.rows.length
  · simp only [h5, show ((4096 : Int) < (n.rows.length : Int)) from by omega, decide_true, z27, Bool.not_true, Bool.false_and]
  simp only [h5, show ¬ ((4096 : Int) < (n.rows.length : Int)) from by omega, decide_false, Bool.not_false, Bool.true_and]
  unfold g66b100_27
  simp only [guard_ff, faddr_ptr, Nat.zero_add, l2, er1_lst, short_s _ _ hn.texts, ret_ret, un_not, Bool.not_not]
  cases hA : n.texts.any longT with
  | true => simp only [cond_true, er1_bool, Bool.not_true, Bool.false_and]
  | false =>
    simp only [cond_false, Bool.not_false, Bool.true_and]
    unfold g66b11
    have := shaped_nums n hn id st1 ho big 0 (by omega) (lt_big (by have := hn.nums; omega))
    rw [List.drop_zero, show ((0 : Nat) : Int) = 0 from rfl] at this
    rw [this]
    cases hB : n.nums.any oddN with
    | true => simp only [_root_.cond_true, Bool.not_true, Bool.false_and]
    | false =>
      simp only [_root_.cond_false, Bool.not_false, Bool.true_and]
      unfold g66b111
      simp only [faddr_ptr, Nat.zero_add, l2, lenL_lst, strsV_len]
      have := shaped_rows n hn id st1 ho big 0 (n.texts.length : Nat) (by omega) (by omega) (by omega) (lt_big (by have := hn.rows; omega))
      rw [List.drop_zero, show ((0 : Nat) : Int) = 0 from rfl] at this
      exact this
end Go.Ab

/- Which notes may be: both are one where lengths add up; notes that are the same. -/
namespace Go.Ab
open Go.RowKit Go.Oct
set_option linter.unusedVariables false
set_option linter.unusedSimpArgs false

def lens (r : List (List (List UInt8))) : Nat := (r.map List.length).sum
theorem lens_cons (l : List (List UInt8)) (r : List (List (List UInt8))) : lens (l :: r) = l.length + lens r := by simp [lens]
theorem manyF_eq : ∀ (r : List (List (List UInt8))) (m : Nat), m + lens r ≤ 9223372036854775807 → manyF m r = ((m + lens r : Nat) : Int)
  | [], m, _ => by simp [manyF, lens]
  | l :: r, m, h => by
    rw [lens_cons] at h
    have e : manyF (m : Int) (l :: r) = manyF ((m + l.length : Nat) : Int) r := by
      show manyF (IntKind.i64.wrap ((m : Int) + (l.length : Int))) r = _
      rw [wrap_i64 (by omega) (by omega)]; rfl
    rw [e, manyF_eq r (m + l.length) (by omega), lens_cons]; congr 1; omega
theorem rowsS_eq : ∀ (r : List (List (List UInt8))) (k : Nat), k ≤ 4096 → rowsS k r = (!(r.any fun l => l.any longT) && decide (k + lens r ≤ 4096))
  | [], k, h => by simp [rowsS, lens, h]
  | l :: r, k, h => by
    unfold rowsS
    rw [List.any_cons, lens_cons]
    by_cases h1 : 4096 - (k : Int) < (l.length : Int)
    · have : ¬ (k + (l.length + lens r) ≤ 4096) := by omega
      simp [h1, this]
    · have e : ((k : Int) + (l.length : Int)) = ((k + l.length : Nat) : Int) := by omega
      rw [e, rowsS_eq r (k + l.length) (by omega)]
      simp only [h1, decide_false, Bool.not_false, Bool.true_and]
      cases l.any longT <;> simp [Nat.add_assoc]
theorem fits_shaped (n : Note) (h : n.texts.length + lens n.rows ≤ 9223372036854775807) : fitsW n = shapedW n := by
  unfold fitsW shapedW greatF
  rw [manyF_eq _ _ h]
  by_cases h1 : n.texts.length ≤ 4096
  · rw [rowsS_eq _ _ h1]
    have e : decide (((n.texts.length + lens n.rows : Nat) : Int) ≤ 4096) = decide (n.texts.length + lens n.rows ≤ 4096) := by
      apply decide_eq_decide.2; omega
    have e2 : decide (4096 < n.texts.length) = false := by simp; omega
    rw [e, e2]
    cases decide (n.kind < 1) <;> cases decide (255 < n.kind) <;> cases decide (64 < n.nums.length) <;> cases decide (4096 < n.rows.length) <;> cases n.nums.any oddN <;> cases n.texts.any longT <;> cases n.rows.any (fun l => l.any longT) <;> simp
  · have e : decide (((n.texts.length + lens n.rows : Nat) : Int) ≤ 4096) = false := by simp; omega
    have e2 : decide (4096 < n.texts.length) = true := by simp; omega
    rw [e, e2]
    simp
/-! ### the same -/
theorem sameRows_loop (a b : List (List (List UInt8))) (t u : Nat) (hl : a.length = b.length) (hm : a.length ≤ 9223372036854775807) (ha : ∀ r ∈ a, r.length ≤ 9223372036854775806) (st : St) : ∀ (n i : Nat), i ≤ a.length → a.length < n + i →
    g38b11010 n (.lst (rowsV a) t) (.lst (rowsV b) u) (.int .i64 (i : Nat)) st = some (.ret (.bool (decide (a.drop i = b.drop i))), st) := by
  intro n
  induction n with
  | zero => intro i hi hn; omega
  | succ n ih =>
    intro i hi hn
    unfold g38b11010
    by_cases h : i < a.length
    · have e4 : ∀ K, A.bin .add (.int .i64 (i : Nat)) (.int .i64 1) K = K (.int .i64 ((i + 1 : Nat) : Int)) := fun K => bin_inc (by omega) K
      have hr := ha _ (List.getElem_mem h)
      simp only [lenL_lst, rowsV_len, bin_lss, show ((i : Int) < (a.length : Int)) from by omega, decide_true, cond_true, iaddr_rows t h, iaddr_rows u (show i < b.length by omega), load_l1', er1_lst, same_s _ _ _ _ hr, ret_ret, kid, noP_ret, ret_ret, un_not]
      rw [List.drop_eq_getElem_cons h, List.drop_eq_getElem_cons (show i < b.length by omega)]
      by_cases h2 : a[i] = b[i]
      · simp only [h2, decide_true, Bool.not_true, cond_false, e4]
        rw [ih (i + 1) (by omega) (by omega)]
        simp only [List.cons.injEq, true_and]
      · simp only [h2, decide_false, Bool.not_false, cond_true, er1_bool, List.cons.injEq, false_and]
    · have h1 : i = a.length := by omega
      subst h1
      simp only [lenL_lst, rowsV_len, bin_lss, Int.lt_irrefl, decide_false, cond_false, er1_bool]
      rw [List.drop_length, hl, List.drop_length]; rfl
theorem sameRows_s (a b : List (List (List UInt8))) (t u : Nat) (hm : a.length ≤ 9223372036854775807) (ha : ∀ r ∈ a, r.length ≤ 9223372036854775806) (st : St) : s38 [.lst (rowsV a) t, .lst (rowsV b) u] st = some (.ret (.bool (decide (a = b))), st) := by
  rw [s38_eq]
  unfold f38
  simp only [lenL_lst, rowsV_len, eql_int, if_true]
  by_cases h : a.length = b.length
  · have e : ((((a.length : Nat) : Int)) != (b.length : Int)) = false := by rw [h]; simp
    simp only [e, cond_false]
    have := sameRows_loop a b t u h hm ha st big 0 (by omega) (lt_big (by omega))
    simpa using this
  · have e : ((((a.length : Nat) : Int)) != (b.length : Int)) = true := by simp; omega
    simp only [e, cond_true, er1_bool]
    congr 3
    have : a ≠ b := fun g => h (by rw [g])
    simp [this]
/-- Lists that SameAll walks. -/
structure NoteSM (n : Note) : Prop where
  nums : n.nums.length ≤ 9223372036854775806
  texts : n.texts.length ≤ 9223372036854775806
  rows : n.rows.length ≤ 9223372036854775806
  row : ∀ r ∈ n.rows, r.length ≤ 9223372036854775806
theorem same_nums (a b : Note) (hl : a.nums.length = b.nums.length) (ha : NoteSM a) (p q : Nat) (st : St) (hp : st.ob p = some (.cells (noteC a))) (hq : st.ob q = some (.cells (noteC b))) : ∀ (f i : Nat), i ≤ a.nums.length → a.nums.length < f + i →
    g25b11010 f (.ptr p 0) (.ptr q 0) (.int .i64 (i : Nat)) st = some (.ret (.bool (decide (a.nums.drop i = b.nums.drop i) && (decide (a.texts = b.texts) && decide (a.rows = b.rows)))), st) := by
  have a1 : ∀ K, A.load false 1 (.ptr p 1) st K = K (.lst (intsV a.nums) 0) st := fun K => by simp [hp, noteC]
  have a2 : ∀ K, A.load false 1 (.ptr p 2) st K = K (.lst (strsV a.texts) 0) st := fun K => by simp [hp, noteC]
  have a3 : ∀ K, A.load false 1 (.ptr p 3) st K = K (.lst (rowsV a.rows) 0) st := fun K => by simp [hp, noteC]
  have b1 : ∀ K, A.load false 1 (.ptr q 1) st K = K (.lst (intsV b.nums) 0) st := fun K => by simp [hq, noteC]
  have b2 : ∀ K, A.load false 1 (.ptr q 2) st K = K (.lst (strsV b.texts) 0) st := fun K => by simp [hq, noteC]
  have b3 : ∀ K, A.load false 1 (.ptr q 3) st K = K (.lst (rowsV b.rows) 0) st := fun K => by simp [hq, noteC]
  intro f
  induction f with
  | zero => intro i hi hf; omega
  | succ f ih =>
    intro i hi hf
    unfold g25b11010
    by_cases h : i < a.nums.length
    · have e4 : ∀ K, A.bin .add (.int .i64 (i : Nat)) (.int .i64 1) K = K (.int .i64 ((i + 1 : Nat) : Int)) := fun K => bin_inc (by have := ha.nums; omega) K
      simp only [faddr_ptr, Nat.zero_add, a1, b1, lenL_lst, intsV_len, bin_lss, show ((i : Int) < (a.nums.length : Int)) from by omega, decide_true, cond_true, iaddr_ints 0 h, iaddr_ints 0 (show i < b.nums.length by omega), load_l1', eql_int, if_true]
      rw [List.drop_eq_getElem_cons h, List.drop_eq_getElem_cons (show i < b.nums.length by omega)]
      by_cases h2 : a.nums[i] = b.nums[i]
      · simp only [h2, bne_self_eq_false, cond_false, e4]
        rw [ih (i + 1) (by omega) (by omega)]
        simp only [List.cons.injEq, true_and]
      · have : (a.nums[i] != b.nums[i]) = true := by simp [h2]
        simp only [this, cond_true, er1_bool, List.cons.injEq, h2, false_and, decide_false, Bool.false_and]
    · have h1 : i = a.nums.length := by omega
      subst h1
      simp only [faddr_ptr, Nat.zero_add, a1, a2, b2, lenL_lst, intsV_len, bin_lss, Int.lt_irrefl, decide_false, cond_false, er1_lst, same_s _ _ _ _ ha.texts, ret_ret]
      rw [List.drop_length, hl, List.drop_length]
      by_cases h3 : a.texts = b.texts
      · simp only [h3, decide_true, guard_tt, faddr_ptr, Nat.zero_add, a3, b3, er1_lst, sameRows_s _ _ _ _ (show a.rows.length ≤ 9223372036854775807 by have := ha.rows; omega) ha.row, ret_ret, er1_bool, Bool.true_and]
      · simp only [h3, decide_false, guard_ft, er1_bool, Bool.false_and, Bool.and_false]
def sameN (a b : Note) : Bool := decide (a.kind = b.kind) && (decide (a.nums = b.nums) && (decide (a.texts = b.texts) && decide (a.rows = b.rows)))
theorem sameN_iff {a b : Note} : sameN a b = true ↔ a = b := by
  cases a; cases b; simp [sameN]
theorem noteSame_s (a b : Note) (ha : NoteSM a) (st : St) : s25 [noteV a, noteV b] st = some (.ret (.bool (sameN a b)), st) := by
  rw [s25_eq]
  refine fg_of (st' := (st.new (.cells (noteC a))).new (.cells (noteC b))) (v := .bool (sameN a b)) ?_ (((Ks.refl st).new _).new _) rfl
  unfold f25 noteV
  rw [box_agg _ _ _ rfl, box_agg _ _ _ rfl]
  have hp : ((st.new (.cells (noteC a))).new (.cells (noteC b))).ob st.n = some (.cells (noteC a)) := by
    rw [new_ne _ _ (by simp), new_at]
  have hq : ((st.new (.cells (noteC a))).new (.cells (noteC b))).ob (st.new (.cells (noteC a))).n = some (.cells (noteC b)) := new_at _ _
  generalize (st.new (.cells (noteC a))).new (.cells (noteC b)) = st1 at hp hq
  generalize (st.new (.cells (noteC a))).n = q at hq
  generalize st.n = p at hp
  have a0 : ∀ K, A.load false 1 (.ptr p 0) st1 K = K (.int .i64 a.kind) st1 := fun K => by simp [hp, noteC]
  have a1 : ∀ K, A.load false 1 (.ptr p 1) st1 K = K (.lst (intsV a.nums) 0) st1 := fun K => by simp [hp, noteC]
  have b0 : ∀ K, A.load false 1 (.ptr q 0) st1 K = K (.int .i64 b.kind) st1 := fun K => by simp [hq, noteC]
  have b1 : ∀ K, A.load false 1 (.ptr q 1) st1 K = K (.lst (intsV b.nums) 0) st1 := fun K => by simp [hq, noteC]
  simp only [faddr_ptr, Nat.zero_add, a0, b0, eql_int, if_true]
  unfold sameN
  by_cases h1 : a.kind = b.kind
  · simp only [h1, bne_self_eq_false, guard_ff, faddr_ptr, Nat.zero_add, a1, b1, lenL_lst, intsV_len, eql_int, if_true, decide_true, Bool.true_and]
    by_cases h2 : a.nums.length = b.nums.length
    · have e : ((((a.nums.length : Nat) : Int)) != (b.nums.length : Int)) = false := by rw [h2]; simp
      simp only [e, cond_false]
      unfold g25b11
      have := same_nums a b h2 ha p q st1 hp hq big 0 (by omega) (lt_big (by have := ha.nums; omega))
      rw [List.drop_zero, List.drop_zero] at this
      exact this
    · have e : ((((a.nums.length : Nat) : Int)) != (b.nums.length : Int)) = true := by simp; omega
      have : ¬ a.nums = b.nums := fun g => h2 (by rw [g])
      simp only [e, cond_true, er1_bool, this, decide_false, Bool.false_and]
  · have : (a.kind != b.kind) = true := by simp [h1]
    simp only [this, guard_tf, er1_bool, h1, decide_false, Bool.false_and]
/-- Lists of notes: four cells each. -/
def notesV (l : List Note) : List V := l.map noteV
@[simp] theorem notesV_len (l : List Note) : (notesV l).length = l.length := by simp [notesV]
theorem szok_notes (l : List Note) : szok 4 (notesV l) = true := szok_of (by intro v hv; obtain ⟨x, _, rfl⟩ := List.mem_map.1 hv; rfl)
theorem iaddr_notes {l : List Note} {i : Nat} (t : Nat) (h : i < l.length) (K : V → Res) : A.iaddr 4 (.lst (notesV l) t) (.int .i64 (i : Nat)) K = K (.lptr (noteC l[i])) := iaddr_lst (v := noteV l[i]) K (by simp [notesV, h]) rfl
theorem load_note (n : Note) (st : St) (K : V → St → Res) : A.load true 4 (.lptr (noteC n)) st K = K (noteV n) st := load_lagg K rfl
@[simp] theorem er1_note (n : Note) : (noteV n).er1 = noteV n := rfl
theorem sameAll_loop (a b : List Note) (t u : Nat) (hl : a.length = b.length) (hm : a.length ≤ 9223372036854775806) (ha : ∀ n ∈ a, NoteSM n) (st : St) : ∀ (n i : Nat), i ≤ a.length → a.length < n + i →
    ∃ c : Bool, g16b11010 n (.lst (notesV a) t) (.lst (notesV b) u) (.int .i64 (i : Nat)) st = some (.ret (.bool c), st) ∧ (c = true ↔ a.drop i = b.drop i) := by
  intro n
  induction n with
  | zero => intro i hi hn; omega
  | succ n ih =>
    intro i hi hn
    unfold g16b11010
    by_cases h : i < a.length
    · have e4 : ∀ K, A.bin .add (.int .i64 (i : Nat)) (.int .i64 1) K = K (.int .i64 ((i + 1 : Nat) : Int)) := fun K => bin_inc (by omega) K
      have hr := ha _ (List.getElem_mem h)
      simp only [lenL_lst, notesV_len, bin_lss, show ((i : Int) < (a.length : Int)) from by omega, decide_true, cond_true, iaddr_notes t h, iaddr_notes u (show i < b.length by omega), load_note, er1_note, noteSame_s _ _ hr, ret_ret, kid, noP_ret, ret_ret, un_not]
      rw [List.drop_eq_getElem_cons h, List.drop_eq_getElem_cons (show i < b.length by omega)]
      cases h2 : sameN a[i] b[i] with
      | true =>
        simp only [Bool.not_true, cond_false, e4]
        obtain ⟨c, c1, c2⟩ := ih (i + 1) (by omega) (by omega)
        refine ⟨c, c1, ?_⟩
        rw [c2, List.cons.injEq, sameN_iff.1 h2]; simp only [true_and]
      | false =>
        simp only [Bool.not_false, cond_true, er1_bool]
        refine ⟨false, rfl, ?_⟩
        have : ¬ a[i] = b[i] := fun g => by rw [sameN_iff.2 g] at h2; cases h2
        simp only [List.cons.injEq, this, false_and, Bool.false_eq_true]
    · have h1 : i = a.length := by omega
      subst h1
      simp only [lenL_lst, notesV_len, bin_lss, Int.lt_irrefl, decide_false, cond_false, er1_bool]
      refine ⟨true, rfl, ?_⟩
      rw [List.drop_length, hl, List.drop_length]; simp
theorem sameAll_s (a b : List Note) (t u : Nat) (hm : a.length ≤ 9223372036854775806) (ha : ∀ n ∈ a, NoteSM n) (st : St) : ∃ c : Bool, s16 [.lst (notesV a) t, .lst (notesV b) u] st = some (.ret (.bool c), st) ∧ (c = true ↔ a = b) := by
  rw [s16_eq]
  unfold f16
  simp only [lenL_lst, notesV_len, eql_int, if_true]
  by_cases h : a.length = b.length
  · have e : ((((a.length : Nat) : Int)) != (b.length : Int)) = false := by rw [h]; simp
    simp only [e, cond_false]
    obtain ⟨c, c1, c2⟩ := sameAll_loop a b t u h hm ha st big 0 (by omega) (lt_big (by omega))
    exact ⟨c, by simpa using c1, by simpa using c2⟩
  · have e : ((((a.length : Nat) : Int)) != (b.length : Int)) = true := by simp; omega
    simp only [e, cond_true, er1_bool]
    exact ⟨false, rfl, by simp; exact fun g => h (by rw [g])⟩
end Go.Ab

/- sinew/wire.of: the note of a body. -/
namespace Go.Ab
open Go.RowKit Go.Oct
set_option linter.unusedVariables false
set_option linter.unusedSimpArgs false

/-! ### plainly -/
def numO (most : Nat) (s : List UInt8) : Option (Nat × List UInt8) := if (numL s).2.2 = 0 ∧ (numL s).1 ≤ most then some ((numL s).1, s.drop (numL s).2.1) else none
def listO (s : List UInt8) : Option (List (List UInt8) × List UInt8) := if (listL s).2.2 = 0 then some ((listL s).1, s.drop (listL s).2.1) else none
def numsO : Nat → List UInt8 → Option (List Int × List UInt8)
  | 0, s => some ([], s)
  | k + 1, s => (numO 4611686018427387903 s).bind fun x => (numsO k x.2).bind fun y => some ((x.1 : Int) :: y.1, y.2)
def rowsO : Nat → List UInt8 → Option (List (List (List UInt8)) × List UInt8)
  | 0, s => some ([], s)
  | k + 1, s => (listO s).bind fun x => (rowsO k x.2).bind fun y => some (x.1 :: y.1, y.2)
def optO {α : Type} (b : Bool) (x : Option α) : Option α := if b then x else none
theorem goL_len (l : List UInt8) : ∀ (n a : Nat) (acc : List (List UInt8)), (goL l n a acc).1.length ≤ acc.length + n ∧ ((goL l n a acc).2.2 = 0 → a ≤ (goL l n a acc).2.1 ∧ (a ≤ l.length → (goL l n a acc).2.1 ≤ l.length))
  | 0, a, acc => by simp [goL]
  | n + 1, a, acc => by
    unfold goL
    split
    · rename_i h
      obtain ⟨h1, h2⟩ := goL_len l n (a + (strL (l.drop a)).2.1) (acc ++ [(strL (l.drop a)).1])
      have hu := strL_used h
      simp only [List.length_append, List.length_cons, List.length_nil, List.length_drop] at h1 hu
      exact ⟨by omega, fun g => ⟨by have := (h2 g).1; omega, fun ha => (h2 g).2 (by omega)⟩⟩
    · rename_i h
      exact ⟨by simp, fun g => absurd g h⟩
theorem listL_len (l : List UInt8) : (listL l).1.length ≤ 4096 ∧ ((listL l).2.2 = 0 → 1 ≤ (listL l).2.1 ∧ (listL l).2.1 ≤ l.length) := by
  unfold listL
  split
  · rename_i h
    have hu := numL_used h
    split
    · exact ⟨by simp, fun g => by simp at g⟩
    · rename_i h2
      obtain ⟨h3, h4⟩ := goL_len l (numL l).1 (numL l).2.1 []
      simp only [List.length_nil] at h3
      exact ⟨by omega, fun g => ⟨by have := (h4 g).1; omega, (h4 g).2 (by omega)⟩⟩
  · rename_i h
    exact ⟨by simp, fun g => absurd g h⟩
theorem err_nz {n : Nat} : (((n : Nat) : Int) != 0) = !decide (n = 0) := by
  by_cases h : n = 0
  · simp [h]
  · simp [h]
/-! ### the closures -/
structure OfSt (st0 st : St) (p q c : Nat) (s : List UInt8) (ok : Bool) (cs : List V) : Prop where
  ks : Ks st0 st
  hp : st0.n ≤ p
  hq : st0.n ≤ q
  hc : st0.n ≤ c
  pq : p ≠ q
  pc : p ≠ c
  qc : q ≠ c
  obp : st.ob p = some (.cells [.str s])
  obq : st.ob q = some (.cells cs)
  obc : st.ob c = some (.cells [.bool ok])
  len : s.length ≤ 4611686018427387903
theorem OfSt.put_p {st0 st : St} {p q c : Nat} {s : List UInt8} {ok : Bool} {cs : List V} (h : OfSt st0 st p q c s ok cs) (s' : List UInt8) (hl : s'.length ≤ 4611686018427387903) : OfSt st0 (st.put p (.cells [.str s'])) p q c s' ok cs :=
  ⟨h.ks.put h.hp _, h.hp, h.hq, h.hc, h.pq, h.pc, h.qc, put_at _ _ _, by rw [put_ne _ _ h.pq.symm]; exact h.obq, by rw [put_ne _ _ h.pc.symm]; exact h.obc, hl⟩
theorem OfSt.put_c {st0 st : St} {p q c : Nat} {s : List UInt8} {ok : Bool} {cs : List V} (h : OfSt st0 st p q c s ok cs) (ok' : Bool) : OfSt st0 (st.put c (.cells [.bool ok'])) p q c s ok' cs :=
  ⟨h.ks.put h.hc _, h.hp, h.hq, h.hc, h.pq, h.pc, h.qc, by rw [put_ne _ _ h.pc]; exact h.obp, by rw [put_ne _ _ h.qc]; exact h.obq, put_at _ _ _, h.len⟩
theorem OfSt.put_q {st0 st : St} {p q c : Nat} {s : List UInt8} {ok : Bool} {cs : List V} (h : OfSt st0 st p q c s ok cs) (cs' : List V) : OfSt st0 (st.put q (.cells cs')) p q c s ok cs' :=
  ⟨h.ks.put h.hq _, h.hp, h.hq, h.hc, h.pq, h.pc, h.qc, by rw [put_ne _ _ h.pq]; exact h.obp, put_at _ _ _, by rw [put_ne _ _ h.qc.symm]; exact h.obc, h.len⟩
theorem OfSt.app {st0 st : St} {p q c : Nat} {s : List UInt8} {ok : Bool} {cs : List V} (h : OfSt st0 st p q c s ok cs) {t : Nat} (ho : Own st0 st 1 t) : OfSt st0 (appSt st t 1) p q c s ok cs ∧ Own st0 (appSt st t 1) 1 (st.nt + 3) := by
  obtain ⟨k, o⟩ := ho.app h.ks
  exact ⟨⟨k, h.hp, h.hq, h.hc, h.pq, h.pc, h.qc, by rw [appSt_ob]; exact h.obp, by rw [appSt_ob]; exact h.obq, by rw [appSt_ob]; exact h.obc, h.len⟩, o⟩
theorem num_cl {st0 st : St} {p q c : Nat} {s : List UInt8} {ok : Bool} {cs : List V} (h : OfSt st0 st p q c s ok cs) (most : Nat) :
    ∃ (k : Nat) (st' : St) (s' : List UInt8) (ok' : Bool), s62 [.int .i64 (most : Nat), .ptr p 0, .ptr c 0] st = some (.ret (.int .i64 (k : Nat)), st') ∧ OfSt st0 st' p q c s' ok' cs ∧ optO ok (numO most s) = optO ok' (some (k, s')) ∧ k ≤ most ∧ (∀ t, Own st0 st 1 t → Own st0 st' 1 t) ∧ st'.nt = st.nt := by
  rw [s62_eq]
  unfold f62
  have lp : ∀ K, A.load false 1 (.ptr p 0) st K = K (.str s) st := fun K => by simp [h.obp]
  have lc : ∀ K, A.load false 1 (.ptr c 0) st K = K (.bool ok) st := fun K => by simp [h.obc]
  have sc : ∀ K, A.store 1 (.ptr c 0) (.bool false) st K = K (st.put c (.cells [.bool false])) := fun K => by simp [h.obc]
  have fail : optO ok (numO most s) = none → ∃ (k : Nat) (st' : St) (s' : List UInt8) (ok' : Bool), some (Out.ret (V.int .i64 0), st.put c (.cells [.bool false])) = some (.ret (.int .i64 (k : Nat)), st') ∧ OfSt st0 st' p q c s' ok' cs ∧ optO ok (numO most s) = optO ok' (some (k, s')) ∧ k ≤ most ∧ (∀ t, Own st0 st 1 t → Own st0 st' 1 t) ∧ st'.nt = st.nt :=
    fun hf => ⟨0, _, s, false, rfl, h.put_c false, by rw [hf]; rfl, Nat.zero_le _, fun t g => g, rfl⟩
  simp only [lp, er1_str, num_s s h.len, ret_ret, N3, ext_0, ext_1, ext_2, lc, un_not, eql_int, if_true, err_nz, bin_gtr, sc, er1_int]
  cases ok with
  | false => simp only [Bool.not_false, guard_tf]; exact fail rfl
  | true =>
    simp only [Bool.not_true, guard_ff]
    by_cases h0 : (numL s).2.2 = 0
    · simp only [h0, decide_true, Bool.not_true, guard_ff]
      have hu := numL_used h0
      by_cases h1 : (numL s).1 ≤ most
      · simp only [show ¬ ((most : Int) < ((numL s).1 : Int)) from by omega, decide_false, cond_false]
        unfold g62b111
        have e2 : ∀ K, A.store 1 (.ptr p 0) (.str (s.drop (numL s).2.1)) st K = K (st.put p (.cells [.str (s.drop (numL s).2.1)])) := fun K => by simp [h.obp]
        simp only [lp, sliceS_from hu.2.2, e2, er1_int]
        exact ⟨(numL s).1, _, s.drop (numL s).2.1, true, rfl, h.put_p _ (by have := h.len; simp; omega), by simp [optO, numO, h0, h1], h1, fun t g => g, rfl⟩
      · simp only [show ((most : Int) < ((numL s).1 : Int)) from by omega, decide_true, cond_true]
        exact fail (by simp [optO, numO, h1])
    · simp only [h0, decide_false, Bool.not_false, guard_tf]
      exact fail (by simp [optO, numO, h0])
theorem list_cl {st0 st : St} {p q c : Nat} {s : List UInt8} {ok : Bool} {cs : List V} (h : OfSt st0 st p q c s ok cs) :
    ∃ (l : List (List UInt8)) (t : Nat) (st' : St) (s' : List UInt8) (ok' : Bool), s64 [.ptr p 0, .ptr c 0] st = some (.ret (.lst (strsV l) t), st') ∧ OfSt st0 st' p q c s' ok' cs ∧ optO ok (listO s) = optO ok' (some (l, s')) ∧ l.length ≤ 4096 ∧ (∀ t, Own st0 st 1 t → Own st0 st' 1 t) ∧ st'.nt = st.nt := by
  rw [s64_eq]
  unfold f64
  have lp : ∀ K, A.load false 1 (.ptr p 0) st K = K (.str s) st := fun K => by simp [h.obp]
  have lc : ∀ K, A.load false 1 (.ptr c 0) st K = K (.bool ok) st := fun K => by simp [h.obc]
  have sc : ∀ K, A.store 1 (.ptr c 0) (.bool false) st K = K (st.put c (.cells [.bool false])) := fun K => by simp [h.obc]
  have fail : optO ok (listO s) = none → ∃ (l : List (List UInt8)) (t : Nat) (st' : St) (s' : List UInt8) (ok' : Bool), some (Out.ret (V.lst [] 1), st.put c (.cells [.bool false])) = some (.ret (.lst (strsV l) t), st') ∧ OfSt st0 st' p q c s' ok' cs ∧ optO ok (listO s) = optO ok' (some (l, s')) ∧ l.length ≤ 4096 ∧ (∀ t, Own st0 st 1 t → Own st0 st' 1 t) ∧ st'.nt = st.nt :=
    fun hf => ⟨[], 1, _, s, false, rfl, h.put_c false, by rw [hf]; rfl, Nat.zero_le _, fun t g => g, rfl⟩
  simp only [lp, er1_str, list_s s h.len, ret_ret, L3, ext_0, ext_1, ext_2, lc, un_not, eql_int, if_true, err_nz, sc, er1_lst]
  cases ok with
  | false => simp only [Bool.not_false, guard_tf]; exact fail rfl
  | true =>
    simp only [Bool.not_true, guard_ff]
    obtain ⟨hl1, hl2⟩ := listL_len s
    by_cases h0 : (listL s).2.2 = 0
    · simp only [h0, decide_true, Bool.not_true, cond_false]
      have hu := hl2 h0
      unfold g64b111
      have e2 : ∀ K, A.store 1 (.ptr p 0) (.str (s.drop (listL s).2.1)) st K = K (st.put p (.cells [.str (s.drop (listL s).2.1)])) := fun K => by simp [h.obp]
      simp only [lp, sliceS_from hu.2, e2, er1_lst]
      exact ⟨(listL s).1, 0, _, s.drop (listL s).2.1, true, rfl, h.put_p _ (by have := h.len; simp; omega), by simp [optO, listO, h0], hl1, fun t g => g, rfl⟩
    · simp only [h0, decide_false, Bool.not_false, cond_true]
      exact fail (by simp [optO, listO, h0])
end Go.Ab

/- sinew/wire.of, walked. -/
namespace Go.Ab
open Go.RowKit Go.Oct
set_option linter.unusedVariables false
set_option linter.unusedSimpArgs false

theorem opt_bind {α β : Type} {a b c : Bool} {x : Option α} {y : α} {f : α → Option β} {z : β} (h1 : optO a x = optO b (some y)) (h2 : optO b (f y) = optO c (some z)) : optO a (x.bind f) = optO c (some z) := by
  cases a with
  | false =>
    have : b = false := by cases b; rfl; simp [optO] at h1
    subst this
    exact h2
  | true =>
    have h1' : x = optO b (some y) := h1
    subst h1'
    cases b with
    | false => exact h2
    | true => exact h2
def nC (kind : Int) (nums : List Int) (t1 : Nat) (texts : List (List UInt8)) (t2 : Nat) (rows : List (List (List UInt8))) (t3 : Nat) : List V := [.int .i64 kind, .lst (intsV nums) t1, .lst (strsV texts) t2, .lst (rowsV rows) t3]
def F35 (p c : Nat) : V := .fn 62 [] [.ptr p 0, .ptr c 0]
def F37 (p c : Nat) : V := .fn 64 [] [.ptr p 0, .ptr c 0]
theorem call35 (p c : Nat) (x : Int) (st : St) (K : V → St → Res) : A.call g52T (F35 p c) [.int .i64 x] st K = A.ret (s62 [.int .i64 x, .ptr p 0, .ptr c 0] st) K := rfl
theorem call37 (p c : Nat) (st : St) (K : V → St → Res) : A.call g52T (F37 p c) [] st K = A.ret (s64 [.ptr p 0, .ptr c 0] st) K := rfl
theorem of_nums (k : Nat) (hk : k ≤ 64) (kind : Int) (p q c : Nat) (st0 : St) : ∀ (f i : Nat) (s : List UInt8) (ok : Bool) (nums : List Int) (t : Nat) (st : St), i ≤ k → k < f + i → nums.length = i → OfSt st0 st p q c s ok (nC kind nums t [] 1 [] 1) → Own st0 st 1 t →
    ∃ l t' st' s' ok', g52b11111010 f (.ptr p 0) (.ptr q 0) (.ptr c 0) (F35 p c) (F37 p c) (.int .i64 (k : Nat)) (.int .i64 (i : Nat)) st = g52b111111 (.ptr p 0) (.ptr q 0) (.ptr c 0) (F35 p c) (F37 p c) st' ∧
      OfSt st0 st' p q c s' ok' (nC kind (nums ++ l) t' [] 1 [] 1) ∧ optO ok (numsO (k - i) s) = optO ok' (some (l, s')) ∧ (nums ++ l).length ≤ 64 := by
  intro f
  induction f with
  | zero => intro i s ok nums t st hi hf; omega
  | succ f ih =>
    intro i s ok nums t st hi hf hn h ho
    unfold g52b11111010
    by_cases hlt : i < k
    · obtain ⟨d, hd⟩ : ∃ d, k - i = d + 1 := ⟨k - i - 1, by omega⟩
      have e4 : ∀ K, A.bin .add (.int .i64 (i : Nat)) (.int .i64 1) K = K (.int .i64 ((i + 1 : Nat) : Int)) := fun K => bin_inc (by omega) K
      obtain ⟨x, st1, s1, ok1, r1, r2, r3, r4, r5, r6⟩ := num_cl h 4611686018427387903
      have ld : A.load false 1 (.ptr q 1) st = fun K => K (.lst (intsV nums) t) st := by funext K; simp [h.obq, nC]
      have ldv1 : ldv false 1 (.ptr q 1) st1 = some (.lst (intsV nums) t) := by simp [ldv, r2.obq, nC, kid]
      have o1 := r5 t ho
      obtain ⟨a1, a2⟩ := r2.app o1
      have stq : ∀ (v : List V) (u : Nat) K, A.store 1 (.ptr q 1) (.lst v u) (appSt st1 t 1) K = K ((appSt st1 t 1).put q (.cells [.int .i64 kind, .lst v u, .lst (strsV []) 1, .lst (rowsV []) 1])) := fun v u K => by simp [a1.obq, nC]
      rw [show ((4611686018427387903 : Nat) : Int) = 4611686018427387903 from rfl] at r1
      simp only [bin_lss, show ((i : Int) < (k : Int)) from by omega, decide_true, cond_true, faddr_ptr, Nat.zero_add, ld, call35, r1, ret_ret, kid, noP_ret, ret_ret, ldv1, chk_same, bslice_int1, elemsOf_ints]
      rw [app_own _ o1 (by simp; omega) (szok_ints _)]
      simp only [kid, noP_ret, ret_ret, stq, e4]
      rw [← intsV_app]
      have h2 : OfSt st0 ((appSt st1 t 1).put q (.cells (nC kind (nums ++ [(x : Int)]) (st1.nt + 3) [] 1 [] 1))) p q c s1 ok1 (nC kind (nums ++ [(x : Int)]) (st1.nt + 3) [] 1 [] 1) := a1.put_q _
      obtain ⟨l, t', st', s', ok', q1, q2, q3, q4⟩ := ih (i + 1) s1 ok1 (nums ++ [(x : Int)]) (st1.nt + 3) _ (by omega) (by omega) (by simp [hn]) h2 a2
      refine ⟨(x : Int) :: l, t', st', s', ok', q1, by simpa using q2, ?_, by simpa using q4⟩
      rw [hd]
      rw [show k - (i + 1) = d by omega] at q3
      exact opt_bind r3 (opt_bind q3 rfl)
    · have : i = k := by omega
      subst this
      simp only [bin_lss, Int.lt_irrefl, decide_false, cond_false]
      exact ⟨[], t, st, s, ok, rfl, by simpa using h, by simp [numsO], by simp; omega⟩
/-- What stands behind the rows. -/
def preO (s : List UInt8) : Option (Note × List UInt8) :=
  (numO 255 s).bind fun a => (numO 64 a.2).bind fun b => (numsO b.1 b.2).bind fun d => (listO d.2).bind fun e => (numO 4096 e.2).bind fun f => (rowsO f.1 f.2).bind fun g => some (⟨a.1, d.1, e.1, g.1⟩, g.2)
def parseO (s : List UInt8) : Option Note := (preO s).bind fun x => if x.2 = [] ∧ fitsW x.1 = true then some x.1 else none
structure NoteSmall (n : Note) : Prop where
  nums : n.nums.length ≤ 64
  texts : n.texts.length ≤ 4096
  rows : n.rows.length ≤ 4096
  row : ∀ r ∈ n.rows, r.length ≤ 4096
theorem NoteSmall.ok {n : Note} (h : NoteSmall n) : NoteOK n := ⟨by have := h.nums; omega, by have := h.texts; omega, by have := h.rows; omega, fun r hr => by have := h.row r hr; omega⟩
theorem NoteSmall.sm {n : Note} (h : NoteSmall n) : NoteSM n := ⟨by have := h.nums; omega, by have := h.texts; omega, by have := h.rows; omega, fun r hr => by have := h.row r hr; omega⟩
@[simp] theorem bslice_strs1 (l : List (List UInt8)) (t : Nat) (K : V → Res) : A.bslice 1 (.lst [] 1) 1 [(0, .lst (strsV l) t)] K = K (.lst (rowsV [l]) 2) := by simp [A.bslice, setP, V.er, rowsV]
@[simp] theorem elemsOf_rows (xs : List (List (List UInt8))) (t : Nat) (st : St) : elemsOf 5 1 (.lst (rowsV xs) t) st = some (rowsV xs) := by simp [elemsOf]
theorem rowsV_app (a b : List (List (List UInt8))) : rowsV (a ++ b) = rowsV a ++ rowsV b := by simp [rowsV]
theorem of_rows (k : Nat) (hk : k ≤ 4096) (kind : Int) (nums : List Int) (t1 : Nat) (texts : List (List UInt8)) (t2 : Nat) (hn : nums.length ≤ 64) (ht : texts.length ≤ 4096) (p q c : Nat) (st0 : St) : ∀ (f i : Nat) (s : List UInt8) (ok : Bool) (rows : List (List (List UInt8))) (t : Nat) (st : St), i ≤ k → k < f + i → rows.length = i → (∀ r ∈ rows, r.length ≤ 4096) → OfSt st0 st p q c s ok (nC kind nums t1 texts t2 rows t) → Own st0 st 1 t →
    ∃ (l : List (List (List UInt8))) (v : V) (st' : St) (s' : List UInt8) (ok' : Bool), g52b1111111010 f (.ptr p 0) (.ptr q 0) (.ptr c 0) (F37 p c) (.int .i64 (k : Nat)) (.int .i64 (i : Nat)) st = some (.ret v, st') ∧ Ks st0 st' ∧
      optO ok (rowsO (k - i) s) = optO ok' (some (l, s')) ∧ NoteSmall ⟨kind, nums, texts, rows ++ l⟩ ∧ v.era = .tup [noteV ⟨kind, nums, texts, rows ++ l⟩, .bool (ok' && (decide (s' = []) && fitsW ⟨kind, nums, texts, rows ++ l⟩))] := by
  intro f
  induction f with
  | zero => intro i s ok rows t st hi hf; omega
  | succ f ih =>
    intro i s ok rows t st hi hf hrl hrow h ho
    unfold g52b1111111010
    by_cases hlt : i < k
    · obtain ⟨d, hd⟩ : ∃ d, k - i = d + 1 := ⟨k - i - 1, by omega⟩
      have e4 : ∀ K, A.bin .add (.int .i64 (i : Nat)) (.int .i64 1) K = K (.int .i64 ((i + 1 : Nat) : Int)) := fun K => bin_inc (by omega) K
      obtain ⟨x, u, st1, s1, ok1, r1, r2, r3, r4, r5, r6⟩ := list_cl h
      have ld : A.load false 1 (.ptr q 3) st = fun K => K (.lst (rowsV rows) t) st := by funext K; simp [h.obq, nC]
      have ldv1 : ldv false 1 (.ptr q 3) st1 = some (.lst (rowsV rows) t) := by simp [ldv, r2.obq, nC, kid]
      have o1 := r5 t ho
      obtain ⟨a1, a2⟩ := r2.app o1
      have stq : ∀ (v : List V) (u : Nat) K, A.store 1 (.ptr q 3) (.lst v u) (appSt st1 t 1) K = K ((appSt st1 t 1).put q (.cells [.int .i64 kind, .lst (intsV nums) t1, .lst (strsV texts) t2, .lst v u])) := fun v u K => by simp [a1.obq, nC]
      simp only [bin_lss, show ((i : Int) < (k : Int)) from by omega, decide_true, cond_true, faddr_ptr, Nat.zero_add, ld, call37, r1, ret_ret, kid, noP_ret, ret_ret, ldv1, chk_same, bslice_strs1, elemsOf_rows]
      rw [app_own _ o1 (by simp; omega) (szok_rows _)]
      simp only [kid, noP_ret, ret_ret, stq, e4]
      rw [← rowsV_app]
      have h2 : OfSt st0 ((appSt st1 t 1).put q (.cells (nC kind nums t1 texts t2 (rows ++ [x]) (st1.nt + 3)))) p q c s1 ok1 (nC kind nums t1 texts t2 (rows ++ [x]) (st1.nt + 3)) := a1.put_q _
      obtain ⟨l, v, st', s', ok', q1, q2, q3, q4, q5⟩ := ih (i + 1) s1 ok1 (rows ++ [x]) (st1.nt + 3) _ (by omega) (by omega) (by simp [hrl]) (by
        intro r hr
        rcases List.mem_append.1 hr with g | g
        · exact hrow r g
        · rw [List.mem_singleton.1 g]; exact r4) h2 a2
      refine ⟨x :: l, v, st', s', ok', q1, q2, ?_, by simpa using q4, by simpa using q5⟩
      rw [hd]
      rw [show k - (i + 1) = d by omega] at q3
      exact opt_bind r3 (opt_bind q3 rfl)
    · have hik : i = k := by omega
      subst hik
      have sm : NoteSmall ⟨kind, nums, texts, rows⟩ := ⟨hn, ht, by show rows.length ≤ 4096; omega, hrow⟩
      have ld : ∀ K, A.load true 4 (.ptr q 0) st K = K (.agg (nC kind nums t1 texts t2 rows t)) st := fun K => by simp [h.obq, nC]
      have lc : ∀ K, A.load false 1 (.ptr c 0) st K = K (.bool ok) st := fun K => by simp [h.obc]
      have lp : ∀ K, A.load false 1 (.ptr p 0) st K = K (.str s) st := fun K => by simp [h.obp]
      have er : (V.agg (nC kind nums t1 texts t2 rows t)).er1 = noteV ⟨kind, nums, texts, rows⟩ := rfl
      have sq : ∀ K, A.store 4 (.ptr q 0) (.agg (nC kind nums t1 texts t2 rows t)) st K = K (st.put q (.cells (nC kind nums t1 texts t2 rows t))) := fun K => by
        rw [store_agg, h.obq, obo_some]
        simp [nC, putL]
      have h2 : OfSt st0 (st.put q (.cells (nC kind nums t1 texts t2 rows t))) p q c s ok (nC kind nums t1 texts t2 rows t) := h.put_q _
      have sc : ∀ (b : Bool) K, A.store 1 (.ptr c 0) (.bool b) (st.put q (.cells (nC kind nums t1 texts t2 rows t))) K = K ((st.put q (.cells (nC kind nums t1 texts t2 rows t))).put c (.cells [.bool b])) := fun b K => by simp [h2.obc]
      have fin : ∀ b : Bool, ∃ v st', A.res (rcell (A.load true 4 (.ptr q 0) ((st.put q (.cells (nC kind nums t1 texts t2 rows t))).put c (.cells [.bool b])) kid) (rcell (A.load false 1 (.ptr c 0) ((st.put q (.cells (nC kind nums t1 texts t2 rows t))).put c (.cells [.bool b])) kid) (some []))) ((st.put q (.cells (nC kind nums t1 texts t2 rows t))).put c (.cells [.bool b])) = some (.ret v, st') ∧ Ks st0 st' ∧ v.era = .tup [noteV ⟨kind, nums, texts, rows⟩, .bool b] := fun b => by
        have h3 := h2.put_c b
        have l1 : A.load true 4 (.ptr q 0) ((st.put q (.cells (nC kind nums t1 texts t2 rows t))).put c (.cells [.bool b])) kid = some (.ret (.agg (nC kind nums t1 texts t2 rows t)), (st.put q (.cells (nC kind nums t1 texts t2 rows t))).put c (.cells [.bool b])) := by
          rw [load_obA, h3.obq, obo_some]; simp [nC, kid]
        have l2 : A.load false 1 (.ptr c 0) ((st.put q (.cells (nC kind nums t1 texts t2 rows t))).put c (.cells [.bool b])) kid = some (.ret (.bool b), (st.put q (.cells (nC kind nums t1 texts t2 rows t))).put c (.cells [.bool b])) := by
          rw [load_ob, h3.obc, obo_some]; simp [kid]
        rw [l1, l2, rcell_some, rcell_some, res_two]
        exact ⟨_, _, rfl, h3.ks, rfl⟩
      simp only [bin_lss, Int.lt_irrefl, decide_false, cond_false, ld, lc, sq, kid, noP_ret, ret_ret, sc]
      cases ok with
      | false =>
        obtain ⟨v, st', f1, f2, f3⟩ := fin false
        simp only [guard_ft]
        exact ⟨[], v, st', s, false, f1, f2, rfl, by simpa using sm, by simpa using f3⟩
      | true =>
        simp only [guard_tt, lp, eql_str, Bool.false_eq_true, if_false]
        by_cases hs : s = []
        · subst hs
          obtain ⟨v, st', f1, f2, f3⟩ := fin (fitsW ⟨kind, nums, texts, rows⟩)
          have ldv1 : ldv true 4 (.ptr q 0) st = some (.agg (nC kind nums t1 texts t2 rows t)) := by
            unfold ldv; rw [ld]; rfl
          simp only [beq_self_eq_true, guard_tt, er, fits_s _ sm.ok, ret_ret, kid, noP_ret, ret_ret, ldv1, chk_same, sq, sc]
          exact ⟨[], v, st', [], true, f1, f2, by simp [rowsO, optO], by simpa using sm, by simpa using f3⟩
        · have hb : (s == []) = false := by simp [hs]
          obtain ⟨v, st', f1, f2, f3⟩ := fin false
          simp only [hb, guard_ft]
          exact ⟨[], v, st', s, true, f1, f2, by simp [rowsO, optO], by simpa using sm, by simpa [hs] using f3⟩
end Go.Ab

/- sinew/wire.of; Unpack; All. -/
namespace Go.Ab
open Go.RowKit Go.Oct
set_option linter.unusedVariables false
set_option linter.unusedSimpArgs false

theorem of_s (s : List UInt8) (hs : s.length ≤ 4611686018427387903) (st : St) : ∃ (n : Note) (b : Bool), s52 [.str s] st = some (.ret (.tup [noteV n, .bool b]), st) ∧ parseO s = optO b (some n) ∧ NoteSmall n := by
  rw [s52_eq]
  have key : ∃ (n : Note) (b : Bool) (v : V) (st' : St), f52 (.str s) st = some (.ret v, st') ∧ Ks st st' ∧ v.era = .tup [noteV n, .bool b] ∧ parseO s = optO b (some n) ∧ NoteSmall n := by
    unfold f52
    have b1 : ∀ (st : St) K, A.box (.str s) st K = K (.ptr st.n 0) (st.new (.cells [.str s])) := fun st K => rfl
    have b2 : ∀ (st : St) K, A.box (.agg [.int .i64 0, .lst [] 1, .lst [] 1, .lst [] 1]) st K = K (.ptr st.n 0) (st.new (.cells (nC 0 [] 1 [] 1 [] 1))) := fun st K => rfl
    have b3 : ∀ (st : St) K, A.box (.bool false) st K = K (.ptr st.n 0) (st.new (.cells [.bool false])) := fun st K => rfl
    simp only [b1, b2, b3]
    have h0 : OfSt st (((st.new (.cells [.str s])).new (.cells (nC 0 [] 1 [] 1 [] 1))).new (.cells [.bool false])) st.n (st.n + 1) (st.n + 1 + 1) s false (nC 0 [] 1 [] 1 [] 1) :=
      ⟨(((Ks.refl st).new _).new _).new _, Nat.le_refl _, by omega, by omega, by omega, by omega, by omega,
        by simp [new_ob]; omega, by simp [new_ob], by simp [new_ob], hs⟩
    simp only [new_n]
    generalize ((st.new (.cells [.str s])).new (.cells (nC 0 [] 1 [] 1 [] 1))).new (.cells [.bool false]) = st1 at h0
    generalize st.n + 1 + 1 = c at h0
    generalize st.n + 1 = q at h0
    generalize st.n = p at h0
    have e1 : ∀ K, A.store 1 (.ptr c 0) (.bool true) st1 K = K (st1.put c (.cells [.bool true])) := fun K => by simp [h0.obc]
    simp only [e1]
    have h1 := h0.put_c true
    generalize st1.put c (.cells [.bool true]) = st2 at h1
    obtain ⟨k1, st3, s1, o1, r1, h3, q1, m1, w1, _⟩ := num_cl h1 255
    rw [show ((255 : Nat) : Int) = 255 from rfl] at r1
    rw [show V.fn 62 [] [.ptr p 0, .ptr c 0] = F35 p c from rfl, show V.fn 64 [] [.ptr p 0, .ptr c 0] = F37 p c from rfl]
    have e2 : ∀ K, A.store 1 (.ptr q 0) (.int .i64 (k1 : Nat)) st3 K = K (st3.put q (.cells (nC (k1 : Nat) [] 1 [] 1 [] 1))) := fun K => by simp [h3.obq, nC]
    simp only [call35, r1, ret_ret, faddr_ptr, Nat.zero_add, e2]
    have h4 := h3.put_q (nC (k1 : Nat) [] 1 [] 1 [] 1)
    generalize st3.put q (.cells (nC (k1 : Nat) [] 1 [] 1 [] 1)) = st4 at h4
    unfold g52b11111
    obtain ⟨k2, st5, s2, o2, r2, h5, q2, m2, w2, _⟩ := num_cl h4 64
    rw [show ((64 : Nat) : Int) = 64 from rfl] at r2
    simp only [call35, r2, ret_ret]
    obtain ⟨nums, t1, st6, s3, o3, r3, h6, q3, m3⟩ := of_nums k2 m2 (k1 : Nat) p q c st big 0 s2 o2 [] 1 st5 (by omega) (by have := big_le; omega) rfl h5 (Own.nil _ _ _)
    rw [show ((0 : Nat) : Int) = 0 from rfl] at r3
    rw [r3]
    rw [List.nil_append] at h6 m3
    unfold g52b111111
    obtain ⟨texts, t2, st7, s4, o4, r4, h7, q4, m4, w4, _⟩ := list_cl h6
    have e3 : ∀ K, A.store 1 (.ptr q 2) (.lst (strsV texts) t2) st7 K = K (st7.put q (.cells (nC (k1 : Nat) nums t1 texts t2 [] 1))) := fun K => by simp [h7.obq, nC]
    simp only [call37, r4, ret_ret, faddr_ptr, Nat.zero_add, e3]
    have h8 := h7.put_q (nC (k1 : Nat) nums t1 texts t2 [] 1)
    generalize st7.put q (.cells (nC (k1 : Nat) nums t1 texts t2 [] 1)) = st8 at h8
    obtain ⟨k5, st9, s5, o5, r5, h9, q5, m5, w5, _⟩ := num_cl h8 4096
    rw [show ((4096 : Nat) : Int) = 4096 from rfl] at r5
    simp only [call35, r5, ret_ret]
    obtain ⟨rows, v, st10, s6, o6, r6, h10, q6, sm, er⟩ := of_rows k5 m5 (k1 : Nat) nums t1 texts t2 m3 m4 p q c st big 0 s5 o5 [] 1 st9 (by omega) (by have := big_le; omega) rfl (by simp) h9 (Own.nil _ _ _)
    rw [show ((0 : Nat) : Int) = 0 from rfl] at r6
    rw [List.nil_append] at sm er
    have hp : preO s = optO o6 (some (⟨(k1 : Nat), nums, texts, rows⟩, s6)) :=
      opt_bind (a := true) q1 (opt_bind q2 (opt_bind q3 (opt_bind q4 (opt_bind q5 (opt_bind q6 rfl)))))
    refine ⟨⟨(k1 : Nat), nums, texts, rows⟩, o6 && (decide (s6 = []) && fitsW ⟨(k1 : Nat), nums, texts, rows⟩), v, st10, r6, h10, er, ?_, sm⟩
    unfold parseO
    rw [hp]
    cases o6 with
    | false => rfl
    | true =>
      simp only [optO, if_true, Option.bind_some, Bool.true_and]
      by_cases h1 : s6 = []
      · cases h2 : fitsW ⟨(k1 : Nat), nums, texts, rows⟩ <;> simp [h1]
      · simp [h1]
  obtain ⟨n, b, v, st', h1, h2, h3, h4, h5⟩ := key
  refine ⟨n, b, ?_, h4, h5⟩
  have hpu : (V.tup [noteV n, .bool b]).pu = true := by
    have a1 : V.puL (rowsV n.rows) = true := puL_of (by intro v hv; obtain ⟨x, _, rfl⟩ := List.mem_map.1 hv; simp)
    simp [noteV, noteC, a1]
  have := fg_of h1 h2 (by rw [h3]; exact hpu)
  rw [h3] at this
  exact this
/-! ### Unpack -/
def emptyN : Note := ⟨0, [], [], []⟩
/-- The note that bytes begin with, how many bytes, and the error. -/
def unpL (s : List UInt8) : Note × Nat × Nat :=
  if s.length < 8 then (emptyN, 0, 11) else
  if 1048576 < of4 s then (emptyN, 0, 31) else
  if s.length < 8 + of4 s then (emptyN, 0, 11) else
  if Crc.sum ((s.drop 8).take (of4 s)) ≠ of4 (s.drop 4) then (emptyN, 0, 30) else
  match parseO ((s.drop 8).take (of4 s)) with
  | some n => (n, 8 + of4 s, 0)
  | none => (emptyN, 0, 31)
def U3 (x : Note × Nat × Nat) : V := .tup [noteV x.1, .int .i64 (x.2.1 : Nat), .int .i64 (x.2.2 : Nat)]
theorem pu_note (n : Note) : (noteV n).pu = true := by
  have a1 : V.puL (rowsV n.rows) = true := puL_of (by intro v hv; obtain ⟨x, _, rfl⟩ := List.mem_map.1 hv; simp)
  simp [noteV, noteC, a1]
theorem small_empty : NoteSmall emptyN := ⟨by simp [emptyN], by simp [emptyN], by simp [emptyN], by simp [emptyN]⟩
theorem unp_s (s : List UInt8) (hs : s.length ≤ 4611686018427387903) (st : St) : s36 [.str s] st = some (.ret (U3 (unpL s)), st) ∧ NoteSmall (unpL s).1 := by
  rw [s36_eq]
  have key : ∃ (v : V) (st' : St), f36 (.str s) st = some (.ret v, st') ∧ Ks st st' ∧ v.era = U3 (unpL s) ∧ NoteSmall (unpL s).1 := by
    unfold f36
    have b2 : ∀ (st : St) K, A.box (.agg [.int .i64 0, .lst [] 1, .lst [] 1, .lst [] 1]) st K = K (.ptr st.n 0) (st.new (.cells (nC 0 [] 1 [] 1 [] 1))) := fun st K => rfl
    have b4 : ∀ K, A.build [.int .i64 0, .lst [] 1, .lst [] 1, .lst [] 1] [] K = K (.agg (nC 0 [] 1 [] 1 [] 1)) := fun K => rfl
    simp only [b2, b4]
    have hk : Ks st (st.new (.cells (nC 0 [] 1 [] 1 [] 1))) := (Ks.refl st).new _
    have hp : st.n ≤ st.n := Nat.le_refl _
    have ho : (st.new (.cells (nC 0 [] 1 [] 1 [] 1))).ob st.n = some (.cells (nC 0 [] 1 [] 1 [] 1)) := new_at _ _
    generalize st.new (.cells (nC 0 [] 1 [] 1 [] 1)) = st1 at hk ho
    generalize hpe : st.n = p at ho
    have hp' : st.n ≤ p := by omega
    -- the answer, out of the cell
    have fin : ∀ (cs : List V) (n : Note) (x y : Nat), cs.length = 4 → ones cs = true → (V.agg cs).er = noteV n → ∃ v st', (A.store 4 (.ptr p 0) (.agg cs) st1 fun z => A.res (rcell (A.load true 4 (.ptr p 0) z kid) (rtmp (.int .i64 (x : Nat)) (rtmp (.int .i64 (y : Nat)) (some [])))) z) = some (.ret v, st') ∧ Ks st st' ∧ v.era = U3 (n, x, y) := by
      intro cs n x y h4 h1 her
      have sq : ∀ K, A.store 4 (.ptr p 0) (.agg cs) st1 K = K (st1.put p (.cells cs)) := fun K => by
        rw [store_agg, ho, obo_some]
        have hl : cs.all V.one = true := h1
        have e : Go.Ab.putL (nC 0 [] 1 [] 1 [] 1) 0 cs = cs := by
          match cs, h4 with
          | [a, b, c, d], _ => rfl
        rw [if_pos ⟨h4, by simp [nC], hl⟩, e]
      have l1 : A.load true 4 (.ptr p 0) (st1.put p (.cells cs)) kid = some (.ret (.agg cs), st1.put p (.cells cs)) := by
        rw [load_obA, put_at, obo_some, h1, _root_.cond_true, if_pos (by omega)]
        rw [List.drop_zero, List.take_of_length_le (by omega)]; rfl
      rw [sq, l1, rtmp_some, rtmp_some, rcell_some, res_two]
      refine ⟨_, _, rfl, hk.put hp' _, ?_⟩
      have : (V.agg cs).er1.er = noteV n := by
        rw [← her]
        show V.agg ((cs.map V.er0).map V.er0) = V.agg (cs.map V.er0)
        rw [List.map_map]
        congr 2
        funext v
        cases v <;> rfl
      show V.tup [(V.agg cs).er1.er, _, _] = _
      rw [this]; rfl
    have fail : ∀ (y : Nat), ∃ v st', (A.store 4 (.ptr p 0) (.agg (nC 0 [] 1 [] 1 [] 1)) st1 fun z => A.res (rcell (A.load true 4 (.ptr p 0) z kid) (rtmp (.int .i64 0) (rtmp (.int .i64 (y : Nat)) (some [])))) z) = some (.ret v, st') ∧ Ks st st' ∧ v.era = U3 (emptyN, 0, y) := fun y => fin _ emptyN 0 y rfl rfl rfl
    simp only [lenS_str, bin_lss]
    unfold unpL
    by_cases c1 : s.length < 8
    · simp only [show ((s.length : Int) < 8) from by omega, decide_true, cond_true, if_pos c1]
      obtain ⟨v, st', f1, f2, f3⟩ := fail 11
      exact ⟨v, st', f1, f2, f3, small_empty⟩
    have h4 := of4_lt s
    have e1 : ∀ K, A.bin .add (.int .i64 8) (.int .i64 (of4 s : Nat)) K = K (.int .i64 ((8 + of4 s : Nat) : Int)) := fun K => bin_addN 8 _ K (by omega)
    simp only [show ¬ ((s.length : Int) < 8) from by omega, decide_false, cond_false, if_neg c1, er1_str, of4_s (show 4 ≤ s.length by omega), ret_ret, e1]
    unfold g36b111
    simp only [bin_gtr, b4, lenS_str]
    by_cases c2 : 1048576 < of4 s
    · simp only [show ((1048584 : Int) < ((8 + of4 s : Nat) : Int)) from by omega, decide_true, cond_true, if_pos c2]
      obtain ⟨v, st', f1, f2, f3⟩ := fail 31
      exact ⟨v, st', f1, f2, f3, small_empty⟩
    simp only [show ¬ ((1048584 : Int) < ((8 + of4 s : Nat) : Int)) from by omega, decide_false, cond_false, if_neg c2]
    by_cases c3 : s.length < 8 + of4 s
    · simp only [show ((s.length : Int) < ((8 + of4 s : Nat) : Int)) from by omega, decide_true, cond_true, if_pos c3]
      obtain ⟨v, st', f1, f2, f3⟩ := fail 11
      exact ⟨v, st', f1, f2, f3, small_empty⟩
    have e2 : ∀ K, A.sliceS (.str s) (some (.int .i64 8)) (some (.int .i64 ((8 + of4 s : Nat) : Int))) K = K (.str ((s.drop 8).take (of4 s))) := fun K => by
      have := sliceS_part (s := s) (a := 8) (b := 8 + of4 s) (by omega) (by omega) K
      rw [Nat.add_sub_cancel_left] at this
      exact this
    have e3 : ∀ K, A.sliceS (.str s) (some (.int .i64 4)) none K = K (.str (s.drop 4)) := fun K => sliceS_from (a := 4) (by omega) K
    have hbl : ((s.drop 8).take (of4 s)).length ≤ 4611686018427387903 := by simp; omega
    simp only [show ¬ ((s.length : Int) < ((8 + of4 s : Nat) : Int)) from by omega, decide_false, cond_false, if_neg c3, e2, e3, er1_str, sum_s _ (show ((s.drop 8).take (of4 s)).length ≤ 9223372036854775807 by omega), of4_s (show 4 ≤ (s.drop 4).length by simp; omega), ret_ret, kid, noP_ret, ret_ret, eql_int, if_true]
    unfold g36b1110011111
    by_cases c4 : Crc.sum ((s.drop 8).take (of4 s)) ≠ of4 (s.drop 4)
    · have : (((Crc.sum ((s.drop 8).take (of4 s)) : Nat) : Int) != ((of4 (s.drop 4) : Nat) : Int)) = true := by
        simp only [bne_iff_ne, ne_eq]; omega
      simp only [this, cond_true, b4]
      rw [if_pos c4]
      obtain ⟨v, st', f1, f2, f3⟩ := fail 30
      exact ⟨v, st', f1, f2, f3, small_empty⟩
    have c4' : (((Crc.sum ((s.drop 8).take (of4 s)) : Nat) : Int) != ((of4 (s.drop 4) : Nat) : Int)) = false := by
      have : Crc.sum ((s.drop 8).take (of4 s)) = of4 (s.drop 4) := Classical.byContradiction c4
      rw [this]; simp
    simp only [c4', cond_false]
    rw [if_neg c4]
    unfold g36b1111
    obtain ⟨n, b, g1, g2, g3⟩ := of_s ((s.drop 8).take (of4 s)) hbl st1
    simp only [e2, er1_str, g1, ret_ret, ext_0, ext_1, un_not]
    rw [g2]
    have sq : ∀ K, A.store 4 (.ptr p 0) (noteV n) st1 K = K (st1.put p (.cells (noteC n))) := fun K => by
      unfold noteV
      rw [store_agg, ho, obo_some]
      simp [nC, noteC, Go.Ab.putL]
    simp only [sq]
    unfold g36b1111101
    have fin2 : ∀ (cs : List V) (n : Note) (x y : Nat) (old : List V), old.length = 4 → cs.length = 4 → ones cs = true → (V.agg cs).er = noteV n → ∃ v st', (A.store 4 (.ptr p 0) (.agg cs) (st1.put p (.cells old)) fun z => A.res (rcell (A.load true 4 (.ptr p 0) z kid) (rtmp (.int .i64 (x : Nat)) (rtmp (.int .i64 (y : Nat)) (some [])))) z) = some (.ret v, st') ∧ Ks st st' ∧ v.era = U3 (n, x, y) := by
      intro cs n x y old hold h4 h1 her
      obtain ⟨v, st', f1, f2, f3⟩ := fin cs n x y h4 h1 her
      refine ⟨v, st', ?_, f2, f3⟩
      rw [← f1, store_agg, put_at, obo_some, store_agg, ho, obo_some]
      have hl : cs.all V.one = true := h1
      have e : ∀ old : List V, old.length = 4 → Go.Ab.putL old 0 cs = cs := fun old ho => by
        match old, ho, cs, h4 with
        | [_, _, _, _], _, [a, b, c, d], _ => rfl
      rw [if_pos ⟨h4, by omega, hl⟩, if_pos ⟨h4, by simp [nC], hl⟩, e _ hold, e _ rfl, put_put]
    cases b with
    | false =>
      simp only [Bool.not_false, cond_true, b4, optO, if_false, Bool.false_eq_true]
      obtain ⟨v, st', f1, f2, f3⟩ := fin2 (nC 0 [] 1 [] 1 [] 1) emptyN 0 31 (noteC n) rfl rfl rfl rfl
      exact ⟨v, st', f1, f2, f3, small_empty⟩
    | true =>
      have l1 : ∀ K, A.load true 4 (.ptr p 0) (st1.put p (.cells (noteC n))) K = K (.agg (noteC n)) (st1.put p (.cells (noteC n))) := fun K => by
        rw [load_obA, put_at, obo_some]; rfl
      simp only [Bool.not_true, cond_false, l1, optO, if_true]
      obtain ⟨v, st', f1, f2, f3⟩ := fin2 (noteC n) n (8 + of4 s) 0 (noteC n) rfl rfl rfl rfl
      exact ⟨v, st', f1, f2, f3, g3⟩
  obtain ⟨v, st', h1, h2, h3, h4⟩ := key
  refine ⟨?_, h4⟩
  have := fg_of h1 h2 (by rw [h3]; simp [U3, pu_note])
  rw [h3] at this
  exact this
end Go.Ab

/- sinewref03.read. -/
namespace Go.Ab
open Go.RowKit Go.Oct
set_option linter.unusedVariables false
set_option linter.unusedSimpArgs false

structure RdSt (st0 st : St) (r q : Nat) (cs : List V) : Prop where
  ks : Ks st0 st
  hr : st0.n ≤ r
  hq : st0.n ≤ q
  rq : r ≠ q
  obr : st.ob r = some (.cells (nC 0 [] 1 [] 1 [] 1))
  obq : st.ob q = some (.cells cs)
theorem RdSt.put_q {st0 st : St} {r q : Nat} {cs : List V} (h : RdSt st0 st r q cs) (cs' : List V) : RdSt st0 (st.put q (.cells cs')) r q cs' :=
  ⟨h.ks.put h.hq _, h.hr, h.hq, h.rq, by rw [put_ne _ _ h.rq]; exact h.obr, put_at _ _ _⟩
theorem RdSt.app {st0 st : St} {r q : Nat} {cs : List V} (h : RdSt st0 st r q cs) {t : Nat} (ho : Own st0 st 1 t) : RdSt st0 (appSt st t 1) r q cs ∧ Own st0 (appSt st t 1) 1 (st.nt + 3) := by
  obtain ⟨k, o⟩ := ho.app h.ks
  exact ⟨⟨k, h.hr, h.hq, h.rq, by rw [appSt_ob]; exact h.obr, by rw [appSt_ob]; exact h.obq⟩, o⟩
/-- What read gives behind its rows. -/
def rowsEnd (kind : Int) (nums : List Int) (texts : List (List UInt8)) (rows : List (List (List UInt8))) (d : Nat) (s : List UInt8) : Option Note :=
  (rowsO d s).bind fun g => if g.2 = [] ∧ shapedW ⟨kind, nums, texts, rows ++ g.1⟩ = true then some ⟨kind, nums, texts, rows ++ g.1⟩ else none
end Go.Ab

/- sinewref03.read, whole. -/
namespace Go.Ab
open Go.RowKit Go.Oct
set_option linter.unusedVariables false
set_option linter.unusedSimpArgs false

def cntEnd (kind : Int) (nums : List Int) (texts : List (List UInt8)) (s : List UInt8) : Option Note := (numO 4096 s).bind fun f => rowsEnd kind nums texts [] f.1 f.2
def txtEnd (kind : Int) (nums : List Int) (s : List UInt8) : Option Note := (listO s).bind fun e => cntEnd kind nums e.1 e.2
def numR (s : List UInt8) : Option (Int × List UInt8) := if (numL s).2.2 = 0 then some (((numL s).1 : Int), s.drop (numL s).2.1) else none
def numsR : Nat → List UInt8 → Option (List Int × List UInt8)
  | 0, s => some ([], s)
  | k + 1, s => (numR s).bind fun x => (numsR k x.2).bind fun y => some (x.1 :: y.1, y.2)
/-- What a step of read comes to. -/
def RdOut (st0 : St) (x : Res) (o : Option Note) : Prop := ∃ (n : Note) (b : Bool) (v : V) (st' : St), x = some (.ret v, st') ∧ Ks st0 st' ∧ v.era = .tup [noteV n, .bool b] ∧ o = optO b (some n)
/-- What read comes to. -/
def readO (s : List UInt8) : Option Note :=
  (numR s).bind fun a => (numR a.2).bind fun b => if 64 < b.1 then none else (numsR b.1.toNat b.2).bind fun y => txtEnd a.1 y.1 y.2
end Go.Ab

/- Both read the same; sinewref03.Unpack. -/
namespace Go.Ab
open Go.RowKit Go.Oct
set_option linter.unusedVariables false
set_option linter.unusedSimpArgs false

theorem rowsO_len : ∀ {k : Nat} {s : List UInt8} {g : List (List (List UInt8)) × List UInt8}, rowsO k s = some g → g.1.length = k ∧ (∀ r ∈ g.1, r.length ≤ 4096)
  | 0, s, g, h => by cases h; simp
  | k + 1, s, g, h => by
    rw [show rowsO (k + 1) s = (listO s).bind fun x => (rowsO k x.2).bind fun y => some (x.1 :: y.1, y.2) from rfl] at h
    unfold listO at h
    split at h
    · simp only [Option.bind_some] at h
      cases h1 : rowsO k (s.drop (listL s).2.1) with
      | none => rw [h1] at h; cases h
      | some y =>
        rw [h1] at h
        cases h
        obtain ⟨a, b⟩ := rowsO_len h1
        refine ⟨by simp [a], fun r hr => ?_⟩
        rcases List.mem_cons.1 hr with g | g
        · rw [g]; exact (listL_len s).1
        · exact b r g
    · cases h
/-! ### sinewref03.Unpack -/
end Go.Ab

/- All notes that bytes begin with. -/
namespace Go.Ab
open Go.RowKit Go.Oct
set_option linter.unusedVariables false
set_option linter.unusedSimpArgs false

def allL (s : List UInt8) : Nat → Nat → List Note → List Note × Nat
  | 0, a, acc => (acc, a)
  | f + 1, a, acc => if (unpL (s.drop a)).2.2 = 0 then allL s f (a + (unpL (s.drop a)).2.1) (acc ++ [(unpL (s.drop a)).1]) else (acc, a)
def A2 (x : List Note × Nat) : V := .tup [.lst (notesV x.1) 0, .int .i64 (x.2 : Nat)]
theorem unp_used {s : List UInt8} (h : (unpL s).2.2 = 0) : 8 ≤ (unpL s).2.1 ∧ (unpL s).2.1 ≤ s.length := by
  unfold unpL at h ⊢
  split at h
  · simp at h
  · rw [if_neg ‹_›]
    split at h
    · simp at h
    · rw [if_neg ‹_›]
      split at h
      · simp at h
      · rw [if_neg ‹_›]
        split at h
        · simp at h
        · rw [if_neg ‹_›]
          cases hp : parseO ((s.drop 8).take (of4 s)) with
          | none => rw [hp] at h; simp at h
          | some n => simp only; omega
theorem bslice_note (n : Note) (K : V → Res) : A.bslice 4 (.agg [.int .i64 0, .lst [] 1, .lst [] 1, .lst [] 1]) 1 [(0, .agg (noteC n))] K = K (.lst (notesV [n]) 2) := rfl
theorem box_zero (st : St) (K : V → St → Res) : A.box (.agg [.int .i64 0, .lst [] 1, .lst [] 1, .lst [] 1]) st K = K (.ptr st.n 0) (st.new (.cells (nC 0 [] 1 [] 1 [] 1))) := rfl
theorem store_note {st : St} {p : Nat} (h : st.ob p = some (.cells (nC 0 [] 1 [] 1 [] 1))) (n : Note) (K : St → Res) : A.store 4 (.ptr p 0) (noteV n) st K = K (st.put p (.cells (noteC n))) := by
  unfold noteV
  rw [store_agg, h, obo_some]; simp [nC, noteC, Go.Ab.putL]
theorem load_noteb {st : St} {p : Nat} {n : Note} (h : st.ob p = some (.cells (noteC n))) (K : V → St → Res) : A.load true 4 (.ptr p 0) st K = K (.agg (noteC n)) st := by
  rw [load_obA, h, obo_some]; rfl
theorem notesV_app (a b : List Note) : notesV (a ++ b) = notesV a ++ notesV b := by simp [notesV]
theorem all_loop (s : List UInt8) (hs : s.length ≤ 1073741824) (st0 : St) : ∀ (m n a : Nat) (acc : List Note) (t : Nat) (st : St), s.length < m + a → s.length < n + a → a ≤ s.length → acc.length ≤ a → (∀ x ∈ acc, NoteSmall x) → Own st0 st 4 t → Ks st0 st →
    ∃ v st', g24b10 n (.str s) (.lst (notesV acc) t) (.int .i64 (a : Nat)) st = some (.ret v, st') ∧ Ks st0 st' ∧ v.era = A2 (allL s m a acc) ∧ (∀ x ∈ (allL s m a acc).1, NoteSmall x) ∧ (allL s m a acc).1.length ≤ s.length := by
  intro m
  induction m with
  | zero => intro n a acc t st hm hn ha; omega
  | succ m ih =>
    intro n a acc t st hm hn ha hacc hsm ho hk
    obtain ⟨n, rfl⟩ : ∃ k, n = k + 1 := ⟨n - 1, by omega⟩
    obtain ⟨hu, hu2⟩ := unp_s (s.drop a) (drop_len (by omega)) st
    unfold g24b10 allL
    simp only [sliceS_from ha, er1_str, hu, ret_ret, U3, ext_0, ext_1, ext_2, box_zero, store_note (new_at st _), put_put]
    have ob1 : ((st.new (.cells (nC 0 [] 1 [] 1 [] 1))).put st.n (.cells (noteC (unpL (s.drop a)).1))).ob st.n = some (.cells (noteC (unpL (s.drop a)).1)) := put_at _ _ _
    have hk1 : Ks st ((st.new (.cells (nC 0 [] 1 [] 1 [] 1))).put st.n (.cells (noteC (unpL (s.drop a)).1))) := ((Ks.refl st).new _).put (Nat.le_refl _) _
    have o1 := ho.mono hk1
    have hk2 := hk.trans hk1
    generalize (st.new (.cells (nC 0 [] 1 [] 1 [] 1))).put st.n (.cells (noteC (unpL (s.drop a)).1)) = st1 at ob1 o1 hk2
    unfold g24b10001
    simp only [eql_int, if_true, err_nz]
    by_cases h0 : (unpL (s.drop a)).2.2 = 0
    · have hub := unp_used h0
      simp only [List.length_drop] at hub
      have e3 : ∀ K, A.bin .add (.int .i64 (a : Nat)) (.int .i64 ((unpL (s.drop a)).2.1 : Nat)) K = K (.int .i64 ((a + (unpL (s.drop a)).2.1 : Nat) : Int)) := fun K => bin_addN _ _ K (by omega)
      simp only [h0, decide_true, Bool.not_true, cond_false, load_noteb ob1, bslice_note, elemsOf_lst 4 _ _ _ (szok_notes _), if_true]
      rw [app_own _ o1 (by simp; omega) (szok_notes _)]
      simp only [e3]
      rw [← notesV_app]
      obtain ⟨k2, o2⟩ := o1.app hk2
      exact ih n (a + (unpL (s.drop a)).2.1) (acc ++ [(unpL (s.drop a)).1]) (st1.nt + 3) _ (by omega) (by omega) (by omega) (by simp; omega) (by
        intro x hx
        rcases List.mem_append.1 hx with g | g
        · exact hsm x g
        · rw [List.mem_singleton.1 g]; exact hu2) o2 k2
    · simp only [h0, decide_false, Bool.not_false, cond_true, er1_lst, er1_int, if_false]
      exact ⟨_, _, rfl, hk2, rfl, hsm, by show acc.length ≤ _; omega⟩
/-- All notes. -/
def allN (s : List UInt8) : List Note × Nat := allL s (s.length + 1) 0 []
theorem pu_A2 (x : List Note × Nat) : (A2 x).pu = true := by
  have : V.puL (notesV x.1) = true := puL_of (by intro v hv; obtain ⟨n, _, rfl⟩ := List.mem_map.1 hv; exact pu_note n)
  simp [A2, this]
theorem all_s (s : List UInt8) (hs : s.length ≤ 1073741824) (st : St) : s24 [.str s] st = some (.ret (A2 (allN s)), st) ∧ (∀ x ∈ (allN s).1, NoteSmall x) ∧ (allN s).1.length ≤ s.length := by
  rw [s24_eq]
  obtain ⟨v, st', h1, h2, h3, h4, h5⟩ := all_loop s hs st (s.length + 1) big 0 [] 1 st (by omega) (by have := big_le; omega) (by omega) (by simp) (by simp) (Own.nil _ _ _) (Ks.refl st)
  refine ⟨?_, h4, h5⟩
  have := fg_of (r := f24 (.str s) st) h1 h2 (by rw [h3]; exact pu_A2 _)
  rw [h3] at this
  exact this
end Go.Ab

/- sinew/wire.body: a note's bytes. -/
namespace Go.Ab
open Go.RowKit Go.Oct
set_option linter.unusedVariables false
set_option linter.unusedSimpArgs false

/-- What a list is written as. -/
def listB (l : List (List UInt8)) : List UInt8 := if 4096 < l.length then [] else if l.all (fun s => decide (s.length ≤ 65536)) then Oct.putL l else []
theorem listB_len (l : List (List UInt8)) : (listB l).length ≤ 268472329 := by
  unfold listB
  split
  · simp
  · split
    · rename_i h1 h2
      have := take_len (l := l) (i := l.length) (by omega) (by omega) (by
        intro x hx
        rw [List.take_length] at hx
        simpa using List.all_eq_true.1 h2 x hx)
      rw [List.take_length] at this
      exact this
    · simp
theorem putlist_any (l : List (List UInt8)) (u : Nat) (st : St) : ∃ e : Int, s45 [.lst (strsV l) u] st = some (.ret (.tup [.str (listB l), .int .i64 e]), st) := by
  by_cases h : 4096 < l.length
  · refine ⟨12, ?_⟩
    rw [s45_eq]
    unfold listB
    rw [if_pos h]
    refine fg_of (st' := st) (v := .tup [.str [], .int .i64 12]) ?_ (Ks.refl st) rfl
    unfold f45
    simp only [lenL_lst, strsV_len, bin_gtr, show ((4096 : Int) < (l.length : Int)) from by omega, decide_true, cond_true, er1_str, er1_int]
  · rw [putlist_s l u (by omega)]
    unfold putLR listB
    rw [if_neg h]
    split
    · exact ⟨0, rfl⟩
    · exact ⟨12, rfl⟩
structure BdSt (st0 st : St) (p b fl : Nat) (n : Note) (s : List UInt8) (t : Nat) (full : Bool) : Prop where
  ks : Ks st0 st
  bat : BAt st0 st b s t
  hb : b < st.n
  hf : st0.n ≤ fl
  pb : p ≠ b
  pf : p ≠ fl
  bf : b ≠ fl
  obp : st.ob p = some (.cells (noteC n))
  obf : st.ob fl = some (.cells [.bool full])
theorem wr_ob (st : St) {b t i : Nat} {s : List UInt8} (h : i ≠ b) : (wrSt st b t s).ob i = st.ob i := by
  unfold wrSt
  rw [put_ne _ _ h, appSt_ob]
theorem BdSt.write {st0 st : St} {p b fl : Nat} {n : Note} {s : List UInt8} {t : Nat} {full : Bool} (h : BdSt st0 st p b fl n s t full) (x : List UInt8) : BdSt st0 (wrSt st b t (s ++ x)) p b fl n (s ++ x) (st.nt + 3) full := by
  obtain ⟨a1, a2, a3⟩ := h.bat.write (x := x) h.ks h.hb
  exact ⟨a2, a1, a3, h.hf, h.pb, h.pf, h.bf, by rw [wr_ob _ h.pb]; exact h.obp, by rw [wr_ob _ h.bf.symm]; exact h.obf⟩
theorem BdSt.flag {st0 st : St} {p b fl : Nat} {n : Note} {s : List UInt8} {t : Nat} {full : Bool} (h : BdSt st0 st p b fl n s t full) (f2 : Bool) : BdSt st0 (st.put fl (.cells [.bool f2])) p b fl n s t f2 :=
  ⟨h.ks.put h.hf _, ⟨by rw [put_ne _ _ h.bf]; exact h.bat.ob, h.bat.new, h.bat.own⟩, h.hb, h.hf, h.pb, h.pf, h.bf, by rw [put_ne _ _ h.pf]; exact h.obp, put_at _ _ _⟩
theorem num_w {st0 st : St} {p b fl : Nat} {n : Note} {s : List UInt8} {t : Nat} {full : Bool} (h : BdSt st0 st p b fl n s t full) (k : Nat) (hk : k < 9223372036854775808) (hl : s.length ≤ 1073741000) (K : V → St → Res) :
    A.call g33T (.fn 47 [] [.ptr b 0]) [.int .i64 (k : Nat)] st K = K (.tup []) (wrSt st b t (s ++ putN k)) := by
  rw [show A.call g33T (.fn 47 [] [.ptr b 0]) [.int .i64 (k : Nat)] st K = A.ret (s47 [.int .i64 (k : Nat), .ptr b 0] st) K from rfl, s47_eq]
  unfold f47
  have := putN_len9 k
  simp only [er1_int, putnum_s k hk, ret_ret, P2, ext_0, ext_1, er1_ptr, er1_str, write_s h.bat (show s.length + (putN k).length ≤ 1073741824 by omega)]
/-- Behind a list. -/
theorem list_w {st0 st : St} {p b fl : Nat} {n : Note} {s : List UInt8} {t : Nat} {full : Bool} (h : BdSt st0 st p b fl n s t full) (l : List (List UInt8)) (u : Nat) :
    ∃ (st' : St) (t' : Nat), (∀ K, A.call g33T (.fn 43 [] [.ptr fl 0, .ptr b 0]) [.lst (strsV l) u] st K = K (.tup []) st') ∧
      BdSt st0 st' p b fl n (if full || decide (1048576 < s.length) then s else s ++ listB l) t' (full || decide (1048576 < s.length)) := by
  have e0 : ∀ K, A.call g33T (.fn 43 [] [.ptr fl 0, .ptr b 0]) [.lst (strsV l) u] st K = A.ret (f43 (.lst (strsV l) u) (.ptr fl 0) (.ptr b 0) st) K := fun K => by
    rw [show A.call g33T (.fn 43 [] [.ptr fl 0, .ptr b 0]) [.lst (strsV l) u] st K = A.ret (s43 [.lst (strsV l) u, .ptr fl 0, .ptr b 0] st) K from rfl, s43_eq]
  have lf : ∀ K, A.load false 1 (.ptr fl 0) st K = K (.bool full) st := fun K => by simp [h.obf]
  have sf : ∀ (c : Bool) K, A.store 1 (.ptr fl 0) (.bool c) st K = K (st.put fl (.cells [.bool c])) := fun c K => by simp [h.obf]
  have lf2 : ∀ (c : Bool) K, A.load false 1 (.ptr fl 0) (st.put fl (.cells [.bool c])) K = K (.bool c) (st.put fl (.cells [.bool c])) := fun c K => by simp
  have skip : ∀ c : Bool, c = true → f43 (.lst (strsV l) u) (.ptr fl 0) (.ptr b 0) st = g43b1 (.lst (strsV l) u) (.ptr fl 0) (.ptr b 0) (st.put fl (.cells [.bool c])) → ∃ (st' : St) (t' : Nat), (∀ K, A.call g33T (.fn 43 [] [.ptr fl 0, .ptr b 0]) [.lst (strsV l) u] st K = K (.tup []) st') ∧ BdSt st0 st' p b fl n s t' true := by
    intro c hc hf
    subst hc
    refine ⟨st.put fl (.cells [.bool true]), t, fun K => ?_, h.flag true⟩
    rw [e0, hf]
    unfold g43b1
    simp only [lf2, un_not, Bool.not_true, cond_false, ret_ret]
  cases full with
  | true =>
    simp only [Bool.true_or, if_true]
    refine skip true rfl ?_
    unfold f43
    simp only [lf, guard_tf, sf]
  | false =>
    simp only [Bool.false_or]
    by_cases hl : 1048576 < s.length
    · simp only [hl, decide_true, if_true]
      refine skip true rfl ?_
      unfold f43
      simp only [lf, guard_ff, er1_ptr, blen_s h.bat, ret_ret, bin_gtr, show ((1048576 : Int) < (s.length : Int)) from by omega, decide_true, sf]
    · have h2 := h.flag false
      obtain ⟨e, he⟩ := putlist_any l u (st.put fl (.cells [.bool false]))
      have hb := listB_len l
      simp only [hl, decide_false, Bool.false_eq_true, if_false]
      refine ⟨wrSt (st.put fl (.cells [.bool false])) b t (s ++ listB l), _, fun K => ?_, h2.write (listB l)⟩
      rw [e0]
      unfold f43
      simp only [lf, guard_ff, er1_ptr, blen_s h.bat, ret_ret, bin_gtr, show ¬ ((1048576 : Int) < (s.length : Int)) from by omega, decide_false, sf]
      unfold g43b1
      simp only [lf2, un_not, Bool.not_false, cond_true, er1_lst, he, ret_ret, ext_0, ext_1, er1_ptr, er1_str, write_s h2.bat (show s.length + (listB l).length ≤ 1073741824 by omega)]
def numsB (l : List Int) : List UInt8 := l.flatMap fun x => putN x.toNat
def rowsB (r : List (List (List UInt8))) : List UInt8 := r.flatMap listB
def headB (n : Note) : List UInt8 := putN n.kind.toNat ++ putN n.nums.length ++ numsB n.nums ++ listB n.texts ++ putN n.rows.length
/-- A note's bytes. -/
def bodyB (n : Note) : List UInt8 := headB n ++ rowsB n.rows
theorem numsB_snoc (l : List Int) (x : Int) : numsB (l ++ [x]) = numsB l ++ putN x.toNat := by simp [numsB]
theorem rowsB_snoc (l : List (List (List UInt8))) (x : List (List UInt8)) : rowsB (l ++ [x]) = rowsB l ++ listB x := by simp [rowsB]
def BdOut (st0 : St) (x : Res) (n : Note) : Prop := ∃ st', x = some (.ret (if 1048576 < (bodyB n).length then P2 [] 1 else P2 (bodyB n) 0), st') ∧ Ks st0 st'
theorem body_rows {st0 : St} {p b fl : Nat} {n : Note} (hn : NoteOK n) (u : Nat) : ∀ (f i : Nat) (s : List UInt8) (t : Nat) (full : Bool) (st : St), i ≤ n.rows.length → n.rows.length < f + i → BdSt st0 st p b fl n s t full → s.length ≤ 1073740000 →
    ((full = false ∧ s = headB n ++ rowsB (n.rows.take i)) ∨ (full = true ∧ 1048576 < (headB n ++ rowsB (n.rows.take i)).length)) →
    BdOut st0 (g33b11111111111010 f (.ptr b 0) (.ptr fl 0) (.fn 43 [] [.ptr fl 0, .ptr b 0]) (.lst (rowsV n.rows) u) (.int .i64 (n.rows.length : Nat)) (.int .i64 (i : Nat)) st) n := by
  intro f
  induction f with
  | zero => intro i s t full st hi hf; omega
  | succ f ih =>
    intro i s t full st hi hf h hl hor
    unfold g33b11111111111010
    by_cases hlt : i < n.rows.length
    · have e4 : ∀ K, A.bin .add (.int .i64 (i : Nat)) (.int .i64 1) K = K (.int .i64 ((i + 1 : Nat) : Int)) := fun K => bin_inc (by have := hn.rows; omega) K
      obtain ⟨st', t', r1, r2⟩ := list_w h n.rows[i] 0
      have hb := listB_len n.rows[i]
      simp only [bin_lss, show ((i : Int) < (n.rows.length : Int)) from by omega, decide_true, cond_true, iaddr_rows u hlt, load_l1', r1, e4]
      have hsn : rowsB (n.rows.take (i + 1)) = rowsB (n.rows.take i) ++ listB n.rows[i] := by
        rw [List.take_succ_eq_append_getElem hlt, rowsB_snoc]
      refine ih (i + 1) _ t' _ st' (by omega) (by omega) r2 ?_ ?_
      · split
        · exact hl
        · rename_i hc
          have : s.length ≤ 1048576 := by
            simp only [Bool.or_eq_true, decide_eq_true_eq, not_or] at hc; omega
          rw [List.length_append]; omega
      · rw [hsn, ← List.append_assoc]
        rcases hor with ⟨h1, h2⟩ | ⟨h1, h2⟩
        · subst h1
          by_cases hc : 1048576 < s.length
          · right
            refine ⟨by simp [hc], ?_⟩
            rw [← h2, List.length_append]; omega
          · left
            refine ⟨by simp [hc], ?_⟩
            rw [if_neg (by simp [hc]), h2]
        · right
          refine ⟨by simp [h1], ?_⟩
          rw [List.length_append]; omega
    · have hik : i = n.rows.length := by omega
      subst hik
      rw [List.take_length] at hor
      have lf : ∀ K, A.load false 1 (.ptr fl 0) st K = K (.bool full) st := fun K => by simp [h.obf]
      simp only [bin_lss, Int.lt_irrefl, decide_false, cond_false, lf]
      rcases hor with ⟨h1, h2⟩ | ⟨h1, h2⟩
      · subst h1
        simp only [guard_ff, er1_ptr, blen_s h.bat, ret_ret, bin_gtr]
        have hs : s = bodyB n := h2
        by_cases hc : 1048576 < s.length
        · simp only [show ((1048576 : Int) < (s.length : Int)) from by omega, decide_true, cond_true, er1_str, er1_int]
          exact ⟨st, by rw [← hs, if_pos hc]; rfl, h.ks⟩
        · obtain ⟨st', g1, g2⟩ := bstr_s h.bat h.ks (by omega)
          simp only [show ¬ ((1048576 : Int) < (s.length : Int)) from by omega, decide_false, cond_false, er1_ptr, g1, ret_ret, er1_str, er1_int]
          exact ⟨st', by rw [← hs, if_neg hc]; rfl, g2⟩
      · subst h1
        simp only [guard_tf, er1_str, er1_int]
        exact ⟨st, by rw [if_pos (show 1048576 < (bodyB n).length from h2)]; rfl, h.ks⟩
theorem numsB_len (l : List Int) : (numsB l).length ≤ l.length * 9 := by
  induction l with
  | nil => simp [numsB]
  | cons x l ih =>
    have := putN_len9 x.toNat
    simp only [numsB, List.flatMap_cons, List.length_append, List.length_cons] at ih ⊢
    omega
theorem body_nums {st0 : St} {p b fl : Nat} {n : Note} (hn : NoteOK n) (hl : n.nums.length ≤ 64) (ho : ∀ x ∈ n.nums, 0 ≤ x ∧ x ≤ 4611686018427387903) : ∀ (f i : Nat) (t : Nat) (st : St), i ≤ n.nums.length → n.nums.length < f + i → BdSt st0 st p b fl n (putN n.kind.toNat ++ putN n.nums.length ++ numsB (n.nums.take i)) t false →
    BdOut st0 (g33b11111111010 f (.ptr p 0) (.ptr b 0) (.ptr fl 0) (.fn 43 [] [.ptr fl 0, .ptr b 0]) (.fn 47 [] [.ptr b 0]) (.lst (intsV n.nums) 0) (.int .i64 (n.nums.length : Nat)) (.int .i64 (i : Nat)) st) n := by
  intro f
  induction f with
  | zero => intro i t st hi hf; omega
  | succ f ih =>
    intro i t st hi hf h
    have p1 := putN_len9 n.kind.toNat
    have p2 := putN_len9 n.nums.length
    have p3 := numsB_len (n.nums.take i)
    have p4 : (n.nums.take i).length ≤ 64 := by simp; omega
    have hlen : (putN n.kind.toNat ++ putN n.nums.length ++ numsB (n.nums.take i)).length ≤ 1000 := by
      simp only [List.length_append]; omega
    unfold g33b11111111010
    by_cases hlt : i < n.nums.length
    · have e4 : ∀ K, A.bin .add (.int .i64 (i : Nat)) (.int .i64 1) K = K (.int .i64 ((i + 1 : Nat) : Int)) := fun K => bin_inc (by omega) K
      obtain ⟨hx1, hx2⟩ := ho _ (List.getElem_mem hlt)
      have e5 : V.int .i64 n.nums[i] = .int .i64 ((n.nums[i].toNat : Nat) : Int) := by rw [Int.toNat_of_nonneg hx1]
      simp only [bin_lss, show ((i : Int) < (n.nums.length : Int)) from by omega, decide_true, cond_true, iaddr_ints 0 hlt, load_l1']
      rw [e5, num_w h _ (by omega) (by omega)]
      simp only [e4]
      have := h.write (putN n.nums[i].toNat)
      have e6 : (putN n.kind.toNat ++ putN n.nums.length ++ numsB (n.nums.take i)) ++ putN n.nums[i].toNat = putN n.kind.toNat ++ putN n.nums.length ++ numsB (n.nums.take (i + 1)) := by
        rw [List.take_succ_eq_append_getElem hlt, numsB_snoc, List.append_assoc]
      rw [e6] at this ⊢
      exact ih (i + 1) _ _ (by omega) (by omega) this
    · have hik : i = n.nums.length := by omega
      subst hik
      rw [List.take_length] at h hlen
      have l2 : ∀ st, st.ob p = some (.cells (noteC n)) → ∀ K, A.load false 1 (.ptr p 2) st K = K (.lst (strsV n.texts) 0) st := fun st ho K => by simp [ho, noteC]
      have l3 : ∀ st, st.ob p = some (.cells (noteC n)) → ∀ K, A.load false 1 (.ptr p 3) st K = K (.lst (rowsV n.rows) 0) st := fun st ho K => by simp [ho, noteC]
      simp only [bin_lss, Int.lt_irrefl, decide_false, cond_false]
      unfold g33b111111111
      obtain ⟨st', t', r1, r2⟩ := list_w h n.texts 0
      have hf : (false || decide (1048576 < (putN n.kind.toNat ++ putN n.nums.length ++ numsB n.nums).length)) = false := by
        rw [Bool.false_or]; exact decide_eq_false (by omega)
      rw [hf] at r2
      simp only [Bool.false_eq_true, if_false] at r2
      have hb := listB_len n.texts
      have hl2 : (putN n.kind.toNat ++ putN n.nums.length ++ numsB n.nums ++ listB n.texts).length ≤ 268473400 := by
        rw [List.length_append]; omega
      simp only [faddr_ptr, Nat.zero_add, l2 st h.obp, r1, l3 st' r2.obp, lenL_lst, rowsV_len]
      rw [num_w r2 n.rows.length (by have := hn.rows; omega) (by omega)]
      have r3 := r2.write (putN n.rows.length)
      simp only [l3 _ r3.obp, lenL_lst, rowsV_len]
      unfold g33b1111111111101
      have p5 := putN_len9 n.rows.length
      exact body_rows hn 0 big 0 _ _ false _ (by omega) (lt_big (by have := hn.rows; omega)) r3 (by rw [List.length_append]; omega) (.inl ⟨rfl, by simp [headB, rowsB]⟩)
theorem body_s (n : Note) (hn : NoteOK n) (st : St) : s33 [noteV n] st = some (.ret (if fitsW n = true then (if 1048576 < (bodyB n).length then P2 [] 1 else P2 (bodyB n) 0) else P2 [] 1), st) := by
  rw [s33_eq]
  have key : ∃ st', f33 (noteV n) st = some (.ret (if fitsW n = true then (if 1048576 < (bodyB n).length then P2 [] 1 else P2 (bodyB n) 0) else P2 [] 1), st') ∧ Ks st st' := by
    unfold f33
    have bx : ∀ K, A.box (noteV n) st K = K (.ptr st.n 0) (st.new (.cells (noteC n))) := fun K => rfl
    have lo : ∀ K, A.load true 4 (.ptr st.n 0) (st.new (.cells (noteC n))) K = K (.agg (noteC n)) (st.new (.cells (noteC n))) := fun K => load_noteb (new_at _ _) K
    have hnv : (V.agg (noteC n)).er1 = noteV n := rfl
    simp only [bx, lo, hnv, fits_s n hn, ret_ret, un_not]
    cases hf : fitsW n with
    | false =>
      simp only [Bool.not_false, cond_true, er1_str, er1_int, Bool.false_eq_true, if_false]
      exact ⟨_, rfl, (Ks.refl st).new _⟩
    | true =>
      have b3 : ∀ (st : St) K, A.box (.bool false) st K = K (.ptr st.n 0) (st.new (.cells [.bool false])) := fun st K => rfl
      simp only [Bool.not_true, cond_false, newB_at, b3, if_true]
      have hf' := hf
      unfold fitsW at hf'
      simp only [Bool.and_eq_true, Bool.not_eq_true', decide_eq_false_iff_not, Int.not_lt, Nat.not_lt] at hf'
      obtain ⟨k1, k2, k3, k4, k5, k6, k7, k8⟩ := hf'
      have hodd : ∀ x ∈ n.nums, 0 ≤ x ∧ x ≤ 4611686018427387903 := by
        intro x hx
        have := List.any_eq_false.1 k5 x hx
        simp only [oddN, Bool.or_eq_true, decide_eq_true_eq, not_or, Int.not_lt] at this
        exact this
      have h0 : BdSt st (((st.new (.cells (noteC n))).new (.cells [.bld 80, .buf [] 1])).new (.cells [.bool false])) st.n (st.n + 1) (st.n + 1 + 1) n [] 1 false :=
        ⟨(((Ks.refl st).new _).new _).new _, ⟨by simp [new_ob], by omega, .inl ⟨rfl, rfl⟩⟩, by simp, by omega, by omega, by omega, by omega, by simp [new_ob]; omega, by simp [new_ob]⟩
      simp only [new_n]
      generalize ((st.new (.cells (noteC n))).new (.cells [.bld 80, .buf [] 1])).new (.cells [.bool false]) = st1 at h0
      generalize st.n + 1 + 1 = fl at h0
      generalize st.n + 1 = b at h0
      generalize st.n = p at h0
      have e1 : ∀ K, A.store 1 (.ptr fl 0) (.bool false) st1 K = K (st1.put fl (.cells [.bool false])) := fun K => by simp [h0.obf]
      simp only [e1]
      have h1 := h0.flag false
      generalize st1.put fl (.cells [.bool false]) = st2 at h1
      unfold g33b1111
      have l0 : ∀ st, st.ob p = some (.cells (noteC n)) → ∀ K, A.load false 1 (.ptr p 0) st K = K (.int .i64 n.kind) st := fun st ho K => by simp [ho, noteC]
      have l1 : ∀ st, st.ob p = some (.cells (noteC n)) → ∀ K, A.load false 1 (.ptr p 1) st K = K (.lst (intsV n.nums) 0) st := fun st ho K => by simp [ho, noteC]
      have e5 : V.int .i64 n.kind = .int .i64 ((n.kind.toNat : Nat) : Int) := by rw [Int.toNat_of_nonneg (by omega)]
      simp only [faddr_ptr, Nat.zero_add, l0 _ h1.obp]
      rw [e5, num_w h1 _ (by omega) (by simp)]
      have h2 := h1.write (putN n.kind.toNat)
      simp only [l1 _ h2.obp, lenL_lst, intsV_len]
      have p1 := putN_len9 n.kind.toNat
      rw [num_w h2 _ (by omega) (by simp; omega)]
      have h3 := h2.write (putN n.nums.length)
      unfold g33b11111111
      simp only [faddr_ptr, Nat.zero_add, l1 _ h3.obp, lenL_lst, intsV_len]
      exact body_nums hn k3 hodd big 0 _ _ (by omega) (by have := big_le; omega) (by simpa [numsB] using h3)
  obtain ⟨st', h1, h2⟩ := key
  generalize hv : (if fitsW n = true then (if 1048576 < (bodyB n).length then P2 [] 1 else P2 (bodyB n) 0) else P2 [] 1) = v at h1
  have e : v.era = v ∧ v.era.pu = true := by
    subst hv
    split
    · split <;> exact ⟨rfl, rfl⟩
    · exact ⟨rfl, rfl⟩
  have := fg_of h1 h2 e.2
  rw [e.1] at this
  exact this
end Go.Ab

/- sinew/wire: Pack, Check; what is packed is read back. -/
namespace Go.Ab
open Go.RowKit Go.Oct
set_option linter.unusedVariables false
set_option linter.unusedSimpArgs false

def packB (n : Note) : List UInt8 := four (bodyB n).length ++ four (Crc.sum (bodyB n)) ++ bodyB n
def packOK (n : Note) : Bool := fitsW n && decide ((bodyB n).length ≤ 1048576)
theorem body_s' (n : Note) (hn : NoteOK n) (st : St) : s33 [noteV n] st = some (.ret (if packOK n = true then P2 (bodyB n) 0 else P2 [] 1), st) := by
  rw [body_s n hn]
  congr 3
  unfold packOK
  cases fitsW n with
  | false => simp
  | true =>
    by_cases h : 1048576 < (bodyB n).length
    · have : ¬ ((bodyB n).length ≤ 1048576) := by omega
      simp [h, this]
    · have : (bodyB n).length ≤ 1048576 := by omega
      simp [h, this]
theorem pack_s (n : Note) (hn : NoteOK n) (st : St) : s22 [noteV n] st = some (.ret (if packOK n = true then P2 (packB n) 0 else P2 [] 1), st) := by
  rw [s22_eq]
  have key : f22 (noteV n) st = some (.ret (if packOK n = true then P2 (packB n) 0 else P2 [] 1), st.new (.cells (noteC n))) := by
    unfold f22
    have bx : ∀ K, A.box (noteV n) st K = K (.ptr st.n 0) (st.new (.cells (noteC n))) := fun K => rfl
    have lo : ∀ K, A.load true 4 (.ptr st.n 0) (st.new (.cells (noteC n))) K = K (.agg (noteC n)) (st.new (.cells (noteC n))) := fun K => load_noteb (new_at _ _) K
    have hnv : (V.agg (noteC n)).er1 = noteV n := rfl
    simp only [bx, lo, hnv, body_s' n hn, ret_ret]
    cases hp : packOK n with
    | false =>
      simp only [Bool.false_eq_true, if_false, P2, ext_0, ext_1, eql_int, if_true, show (((1 : Nat) : Int) != 0) = true from rfl, cond_true, er1_str, er1_int]
    | true =>
      have hl : (bodyB n).length ≤ 1048576 := by
        simp only [packOK, Bool.and_eq_true, decide_eq_true_eq] at hp; exact hp.2
      simp only [if_true, P2, ext_0, ext_1, eql_int, show (((0 : Nat) : Int) != 0) = false from rfl, cond_false]
      unfold g22b111
      simp only [lenS_str, er1_int, four_s, ret_ret, er1_str, sum_s _ (show (bodyB n).length ≤ 9223372036854775807 by omega)]
      rw [bin_cat _ _ _ (by rw [four_len, four_len]; omega)]
      rw [bin_cat _ _ _ (by rw [List.length_append, four_len, four_len]; omega)]
      rfl
  have e : (if packOK n = true then P2 (packB n) 0 else P2 [] 1).era = (if packOK n = true then P2 (packB n) 0 else P2 [] 1) ∧ (if packOK n = true then P2 (packB n) 0 else P2 [] 1).era.pu = true := by
    split <;> exact ⟨rfl, rfl⟩
  have := fg_of key ((Ks.refl st).new _) e.2
  rw [e.1] at this
  exact this
/-! ### what is packed is read back -/
theorem numO_put {k most : Nat} (hk : k ≤ most) (h : k < 9223372036854775808) (t : List UInt8) : numO most (putN k ++ t) = some (k, t) := by
  unfold numO
  rw [numL_put k h t]
  simp [hk]
theorem numsO_put : ∀ (l : List Int) (t : List UInt8), (∀ x ∈ l, 0 ≤ x ∧ x ≤ 4611686018427387903) → numsO l.length (numsB l ++ t) = some (l, t)
  | [], t, _ => rfl
  | x :: l, t, h => by
    have hx := h x (by simp)
    rw [show numsO (x :: l).length (numsB (x :: l) ++ t) = (numO 4611686018427387903 (numsB (x :: l) ++ t)).bind fun x => (numsO l.length x.2).bind fun y => some ((x.1 : Int) :: y.1, y.2) from rfl]
    rw [show numsB (x :: l) ++ t = putN x.toNat ++ (numsB l ++ t) by simp [numsB]]
    rw [numO_put (by omega) (by omega), Option.bind_some, numsO_put l t (fun y hy => h y (List.mem_cons_of_mem _ hy))]
    simp only [Option.bind_some, Int.toNat_of_nonneg hx.1]
theorem listO_put {l : List (List UInt8)} (hl : l.length ≤ 4096) (h : l.any longT = false) (t : List UInt8) : listO (listB l ++ t) = some (l, t) := by
  have hs : ∀ s ∈ l, s.length ≤ 65536 := fun s hs => by
    have := List.any_eq_false.1 h s hs
    simp only [longT, decide_eq_true_eq] at this; omega
  have : listB l = Oct.putL l := by
    unfold listB
    rw [if_neg (by omega), if_pos (List.all_eq_true.2 fun s h => by simpa using hs s h)]
  unfold listO
  rw [this, listL_put l hl hs t]
  simp
theorem rowsO_put : ∀ (r : List (List (List UInt8))) (t : List UInt8), (∀ l ∈ r, l.length ≤ 4096 ∧ l.any longT = false) → rowsO r.length (rowsB r ++ t) = some (r, t)
  | [], t, _ => rfl
  | l :: r, t, h => by
    have hl := h l (by simp)
    rw [show rowsO (l :: r).length (rowsB (l :: r) ++ t) = (listO (rowsB (l :: r) ++ t)).bind fun x => (rowsO r.length x.2).bind fun y => some (x.1 :: y.1, y.2) from rfl]
    rw [show rowsB (l :: r) ++ t = listB l ++ (rowsB r ++ t) by simp [rowsB]]
    rw [listO_put hl.1 hl.2, Option.bind_some, rowsO_put r t (fun y hy => h y (List.mem_cons_of_mem _ hy))]
    rfl
theorem lens_mem : ∀ {r : List (List (List UInt8))} {l : List (List UInt8)}, l ∈ r → l.length ≤ lens r
  | x :: r, l, h => by
    rw [lens_cons]
    rcases List.mem_cons.1 h with g | g
    · rw [g]; omega
    · have := lens_mem g; omega
theorem parse_body {n : Note} (hf : fitsW n = true) (hl : n.texts.length + lens n.rows ≤ 4096) : parseO (bodyB n) = some n := by
  have hf' := hf
  unfold fitsW at hf'
  simp only [Bool.and_eq_true, Bool.not_eq_true', decide_eq_false_iff_not, Int.not_lt, Nat.not_lt] at hf'
  obtain ⟨k1, k2, k3, k4, k5, k6, k7, k8⟩ := hf'
  have hodd : ∀ x ∈ n.nums, 0 ≤ x ∧ x ≤ 4611686018427387903 := by
    intro x hx
    have := List.any_eq_false.1 k5 x hx
    simp only [oddN, Bool.or_eq_true, decide_eq_true_eq, not_or, Int.not_lt] at this
    exact this
  have hrow : ∀ l ∈ n.rows, l.length ≤ 4096 ∧ l.any longT = false := by
    intro l hx
    have h1 := lens_mem hx
    simp only [greatF, Bool.false_or] at k6
    have := List.any_eq_false.1 k6 l hx
    exact ⟨by omega, by simpa using this⟩
  have hp : preO (bodyB n) = some (n, []) := by
    unfold preO bodyB headB
    simp only [List.append_assoc]
    rw [numO_put (by omega) (by omega), Option.bind_some]
    simp only
    rw [numO_put k3 (by omega), Option.bind_some]
    simp only
    rw [numsO_put n.nums _ hodd, Option.bind_some]
    simp only
    rw [listO_put (by omega) k7, Option.bind_some]
    simp only
    rw [numO_put k4 (by omega), Option.bind_some]
    simp only
    have := rowsO_put n.rows [] hrow
    rw [List.append_nil] at this
    rw [this, Option.bind_some, Int.toNat_of_nonneg (by omega)]
  unfold parseO
  rw [hp, Option.bind_some, if_pos ⟨rfl, hf⟩]
theorem unp_pack {n : Note} (hp : packOK n = true) (hl : n.texts.length + lens n.rows ≤ 4096) (t : List UInt8) : unpL (packB n ++ t) = (n, (packB n).length, 0) := by
  simp only [packOK, Bool.and_eq_true, decide_eq_true_eq] at hp
  obtain ⟨hf, hb⟩ := hp
  have hlen : (packB n).length = 8 + (bodyB n).length := by
    unfold packB; rw [List.length_append, List.length_append, four_len, four_len]
  have h1 : of4 (packB n ++ t) = (bodyB n).length := by
    unfold packB
    rw [List.append_assoc, List.append_assoc]
    exact of4_four _ (by omega) _
  have hs : Crc.sum (bodyB n) < 4294967296 := Crc.sum_lt _
  have h2 : of4 ((packB n ++ t).drop 4) = Crc.sum (bodyB n) := by
    unfold packB
    rw [List.append_assoc, List.append_assoc, List.drop_left' (four_len _)]
    exact of4_four _ hs _
  have h3 : ((packB n ++ t).drop 8).take (bodyB n).length = bodyB n := by
    unfold packB
    rw [List.append_assoc, List.drop_left' (by rw [List.length_append, four_len, four_len]), List.take_left' rfl]
  unfold unpL
  rw [h1, h2, h3, if_neg (by rw [List.length_append]; omega), if_neg (by omega), if_neg (by rw [List.length_append]; omega), if_neg (by simp), parse_body hf hl, hlen]
end Go.Ab

/- What is read is what is written. -/
namespace Go.Ab
open Go.RowKit Go.Oct
set_option linter.unusedVariables false
set_option linter.unusedSimpArgs false

theorem digsN_mod (a m : Nat) : ∀ j, digsN (a * 256 ^ j + m) j = digsN m j := by
  intro j
  have : ∀ (i : Nat), i ≤ j → digsN (a * 256 ^ j + m) i = digsN m i := by
    intro i
    induction i with
    | zero => intro _; rfl
    | succ i ih =>
      intro hi
      rw [digsN_succ, digsN_succ, ih (by omega)]
      congr 2
      obtain ⟨d, hd⟩ : ∃ d, j = i + 1 + d := ⟨j - (i + 1), by omega⟩
      have e : a * 256 ^ j = 256 ^ i * (256 * (a * 256 ^ d)) := by
        rw [hd, Nat.pow_add, Nat.pow_succ]
        simp only [Nat.mul_comm, Nat.mul_left_comm, Nat.mul_assoc]
      rw [e, Nat.mul_add_div (Nat.pow_pos (by omega)), Nat.mul_add_mod]
  exact this j (Nat.le_refl _)
theorem digs_val : ∀ d : List UInt8, digsN (val d) d.length = d
  | [] => rfl
  | b :: d => by
    have h := val_lt d
    rw [val_cons, List.length_cons, digsN_succ, digsN_mod, digs_val d]
    congr 1
    rw [Nat.mul_comm, Nat.mul_add_div (Nat.pow_pos (by omega)), Nat.div_eq_of_lt h, Nat.add_zero]
    have := b.toNat_lt
    rw [Nat.mod_eq_of_lt this, UInt8.ofNat_toNat]
theorem nlen_val {d : List UInt8} (h8 : d.length ≤ 8) (h0 : d ≠ [] → (d.headD 1).toNat ≠ 0) (hv : val d < 9223372036854775808) : nlen (val d) = d.length := by
  obtain ⟨s1, s2⟩ := nlen_spec (val d) hv
  have hlt := val_lt d
  have h3 : nlen (val d) ≤ d.length := by
    apply Classical.byContradiction
    intro hc
    exact s2 d.length (by omega) (Nat.div_eq_of_lt hlt)
  apply Nat.le_antisymm h3
  cases d with
  | nil => exact Nat.zero_le _
  | cons b d =>
    apply Classical.byContradiction
    intro hc
    have hb : 1 ≤ b.toNat := by
      have := h0 (by simp)
      simp only [List.headD_cons] at this; omega
    rw [List.length_cons] at hc
    have h5 : nlen (val (b :: d)) ≤ d.length := by omega
    have h6 := Nat.pow_le_pow_right (show 0 < 256 by omega) h5
    rw [val_cons] at s1
    have h7 : 256 ^ d.length ≤ b.toNat * 256 ^ d.length := Nat.le_mul_of_pos_left _ hb
    rw [val_cons] at h6
    omega
/-- The number that is read was written so. -/
theorem numL_back {l : List UInt8} (h : (numL l).2.2 = 0) : l.take (numL l).2.1 = putN (numL l).1 := by
  obtain ⟨b, r, rfl, h8, hr, hb, he⟩ := numL_ok h
  have hv := val_fits b r h8 hr hb b.toNat (Nat.le_refl _)
  rw [he]
  simp only [List.take_succ_cons]
  have hl : (r.take b.toNat).length = b.toNat := by simp; omega
  have hn : nlen (val (r.take b.toNat)) = b.toNat := by
    rw [← hl]
    have := nlen_val (d := r.take b.toNat) (by omega) (fun hne => by
      have hpos : 0 < b.toNat := by
        cases hb0 : b.toNat with
        | zero => rw [hb0] at hne; simp at hne
        | succ k => omega
      cases r with
      | nil => simp at hr; omega
      | cons c r =>
        rw [badN_cons hpos] at hb
        obtain ⟨k, hk⟩ : ∃ k, b.toNat = k + 1 := ⟨b.toNat - 1, by omega⟩
        rw [hk, List.take_succ_cons, List.headD_cons]
        simp only [Bool.or_eq_false_iff, beq_eq_false_iff_ne, ne_eq] at hb
        exact hb.1) hv
    rw [hl] at this ⊢
    exact this
  rw [putN_eq, hn]
  have := digs_val (r.take b.toNat)
  rw [hl] at this
  rw [this, UInt8.ofNat_toNat]
theorem split_at {l : List UInt8} {k : Nat} {p : List UInt8} (h : l.take k = p) : l = p ++ l.drop k := by rw [← h, List.take_append_drop]
theorem strL_back {l : List UInt8} (h : (strL l).2.2 = 0) : l.take (strL l).2.1 = putS (strL l).1 ∧ (strL l).1.length ≤ 65536 := by
  unfold strL at h ⊢
  split at h
  · rename_i h0
    split at h
    · simp at h
    · split at h
      · simp at h
      · rename_i h1 h2
        rw [if_pos h0, if_neg h1, if_neg h2]
        simp only
        have hl : ((l.drop (numL l).2.1).take (numL l).1).length = (numL l).1 := by simp; omega
        refine ⟨?_, by rw [hl]; omega⟩
        unfold putS
        rw [hl, ← numL_back h0, List.take_add]
  · rename_i h0
    exact absurd h h0
theorem goL_back (l : List UInt8) : ∀ (n a : Nat) (acc : List (List UInt8)), (goL l n a acc).2.2 = 0 → a ≤ l.length →
    ∃ m, (goL l n a acc).1 = acc ++ m ∧ m.length = n ∧ (∀ s ∈ m, s.length ≤ 65536) ∧ (l.drop a).take ((goL l n a acc).2.1 - a) = catS m ∧ a ≤ (goL l n a acc).2.1
  | 0, a, acc, _, _ => ⟨[], by simp [goL], rfl, by simp, by simp [goL, catS], by simp [goL]⟩
  | n + 1, a, acc, h, ha => by
    unfold goL at h ⊢
    split at h
    · rename_i h0
      rw [if_pos h0]
      have hu := strL_used h0
      simp only [List.length_drop] at hu
      obtain ⟨m, h1, h2, h3, h4, h5⟩ := goL_back l n (a + (strL (l.drop a)).2.1) (acc ++ [(strL (l.drop a)).1]) h (by omega)
      obtain ⟨b1, b2⟩ := strL_back h0
      refine ⟨(strL (l.drop a)).1 :: m, by rw [h1]; simp, by simp [h2], ?_, ?_, by omega⟩
      · intro s hs
        rcases List.mem_cons.1 hs with g | g
        · rw [g]; exact b2
        · exact h3 s g
      · unfold catS
        rw [← h4, ← b1, ← List.drop_drop, ← List.take_add]
        congr 1; omega
    · rename_i h0
      exact absurd h h0
theorem listL_back {l : List UInt8} (h : (listL l).2.2 = 0) : l.take (listL l).2.1 = Oct.putL (listL l).1 ∧ (listL l).1.length ≤ 4096 ∧ ∀ s ∈ (listL l).1, s.length ≤ 65536 := by
  unfold listL at h ⊢
  split at h
  · rename_i h0
    split at h
    · simp at h
    · rename_i h1
      rw [if_pos h0, if_neg h1]
      have hu := numL_used h0
      obtain ⟨m, g1, g2, g3, g4, g5⟩ := goL_back l (numL l).1 (numL l).2.1 [] h hu.2.2
      rw [List.nil_append] at g1
      rw [g1]
      refine ⟨?_, by omega, g3⟩
      unfold Oct.putL
      rw [g2, ← numL_back h0, ← g4, ← List.take_add]
      congr 1; omega
  · rename_i h0
    exact absurd h h0
theorem numO_back {most : Nat} {s : List UInt8} {x : Nat × List UInt8} (h : numO most s = some x) : s = putN x.1 ++ x.2 := by
  unfold numO at h
  split at h
  · rename_i h0; cases h; exact split_at (numL_back h0.1)
  · cases h
theorem listO_back {s : List UInt8} {x : List (List UInt8) × List UInt8} (h : listO s = some x) : s = listB x.1 ++ x.2 := by
  unfold listO at h
  split at h
  · rename_i h0
    cases h
    obtain ⟨a, b, c⟩ := listL_back h0
    have : listB (listL s).1 = Oct.putL (listL s).1 := by
      unfold listB
      rw [if_neg (by omega), if_pos (List.all_eq_true.2 fun s h => by simpa using c s h)]
    rw [this]
    exact split_at a
  · cases h
theorem numsO_back : ∀ {k : Nat} {s : List UInt8} {x : List Int × List UInt8}, numsO k s = some x → s = numsB x.1 ++ x.2 ∧ x.1.length = k
  | 0, s, x, h => by cases h; simp [numsB]
  | k + 1, s, x, h => by
    rw [show numsO (k + 1) s = (numO 4611686018427387903 s).bind fun x => (numsO k x.2).bind fun y => some ((x.1 : Int) :: y.1, y.2) from rfl] at h
    cases h1 : numO 4611686018427387903 s with
    | none => rw [h1] at h; cases h
    | some y =>
      rw [h1, Option.bind_some] at h
      cases h2 : numsO k y.2 with
      | none => rw [h2] at h; cases h
      | some z =>
        rw [h2] at h
        cases h
        obtain ⟨a, b⟩ := numsO_back h2
        refine ⟨?_, by simp [b]⟩
        rw [numO_back h1, a]
        simp [numsB]
theorem rowsO_back : ∀ {k : Nat} {s : List UInt8} {x : List (List (List UInt8)) × List UInt8}, rowsO k s = some x → s = rowsB x.1 ++ x.2
  | 0, s, x, h => by cases h; simp [rowsB]
  | k + 1, s, x, h => by
    rw [show rowsO (k + 1) s = (listO s).bind fun x => (rowsO k x.2).bind fun y => some (x.1 :: y.1, y.2) from rfl] at h
    cases h1 : listO s with
    | none => rw [h1] at h; cases h
    | some y =>
      rw [h1, Option.bind_some] at h
      cases h2 : rowsO k y.2 with
      | none => rw [h2] at h; cases h
      | some z =>
        rw [h2] at h
        cases h
        rw [listO_back h1, rowsO_back h2]
        simp [rowsB]
theorem parse_back {s : List UInt8} {n : Note} (h : parseO s = some n) : s = bodyB n ∧ fitsW n = true := by
  unfold parseO preO at h
  cases h1 : numO 255 s with
  | none => rw [h1] at h; cases h
  | some a =>
    rw [h1, Option.bind_some] at h
    cases h2 : numO 64 a.2 with
    | none => rw [h2] at h; cases h
    | some b =>
      rw [h2, Option.bind_some] at h
      cases h3 : numsO b.1 b.2 with
      | none => rw [h3] at h; cases h
      | some d =>
        rw [h3, Option.bind_some] at h
        cases h4 : listO d.2 with
        | none => rw [h4] at h; cases h
        | some e =>
          rw [h4, Option.bind_some] at h
          cases h5 : numO 4096 e.2 with
          | none => rw [h5] at h; cases h
          | some f =>
            rw [h5, Option.bind_some] at h
            cases h6 : rowsO f.1 f.2 with
            | none => rw [h6] at h; cases h
            | some g =>
              rw [h6, Option.bind_some, Option.bind_some] at h
              split at h
              · rename_i hc
                cases h
                refine ⟨?_, hc.2⟩
                have e1 := (numsO_back h3).2
                have e2 := (rowsO_len h6).1
                unfold bodyB headB
                simp only [Int.toNat_natCast]
                rw [numO_back h1, numO_back h2, (numsO_back h3).1, listO_back h4, numO_back h5, rowsO_back h6, hc.1, e1, e2]
                simp [List.append_assoc]
              · cases h
end Go.Ab

/- All that is read, packed again. -/
namespace Go.Ab
open Go.RowKit Go.Oct
set_option linter.unusedVariables false
set_option linter.unusedSimpArgs false

theorem four_of4 {s : List UInt8} (h : 4 ≤ s.length) : s.take 4 = four (of4 s) := by
  have hl : (s.take 4).length = 4 := by simp; omega
  have := digs_val (s.take 4)
  rw [hl] at this
  exact this.symm
theorem unp_back {s : List UInt8} (h : (unpL s).2.2 = 0) : s.take (unpL s).2.1 = packB (unpL s).1 ∧ packOK (unpL s).1 = true := by
  unfold unpL at h ⊢
  split at h
  · simp at h
  · rename_i c1
    rw [if_neg c1]
    split at h
    · simp at h
    · rename_i c2
      rw [if_neg c2]
      split at h
      · simp at h
      · rename_i c3
        rw [if_neg c3]
        split at h
        · simp at h
        · rename_i c4
          rw [if_neg c4]
          cases hp : parseO ((s.drop 8).take (of4 s)) with
          | none => rw [hp] at h; simp at h
          | some n =>
            simp only
            obtain ⟨b1, b2⟩ := parse_back hp
            have hl : (bodyB n).length = of4 s := by rw [← b1]; simp; omega
            have c4' : Crc.sum ((s.drop 8).take (of4 s)) = of4 (s.drop 4) := Classical.byContradiction c4
            refine ⟨?_, by unfold packOK; rw [b2, hl]; simp; omega⟩
            unfold packB
            rw [hl, ← b1, c4', ← four_of4 (show 4 ≤ (s.drop 4).length by simp; omega), ← four_of4 (show 4 ≤ s.length by omega)]
            rw [show (8 + of4 s) = 4 + (4 + of4 s) by omega, List.take_add, List.take_add, List.drop_drop, List.append_assoc]
def packsB (l : List Note) : List UInt8 := l.flatMap packB
theorem packsB_snoc (l : List Note) (n : Note) : packsB (l ++ [n]) = packsB l ++ packB n := by simp [packsB]
theorem all_back (s : List UInt8) : ∀ (m a : Nat) (acc : List Note), a ≤ s.length → packsB acc = s.take a → (∀ n ∈ acc, packOK n = true) →
    packsB (allL s m a acc).1 = s.take (allL s m a acc).2 ∧ (allL s m a acc).2 ≤ s.length ∧ ∀ n ∈ (allL s m a acc).1, packOK n = true
  | 0, a, acc, ha, h, hk => ⟨h, ha, hk⟩
  | m + 1, a, acc, ha, h, hk => by
    unfold allL
    by_cases h0 : (unpL (s.drop a)).2.2 = 0
    · rw [if_pos h0]
      have hu := unp_used h0
      simp only [List.length_drop] at hu
      obtain ⟨b1, b2⟩ := unp_back h0
      refine all_back s m _ _ (by omega) ?_ ?_
      · rw [packsB_snoc, h, ← b1, List.take_add]
      · intro n hn
        rcases List.mem_append.1 hn with g | g
        · exact hk n g
        · rw [List.mem_singleton.1 g]; exact b2
    · rw [if_neg h0]
      exact ⟨h, ha, hk⟩
theorem check_s (n : Note) (hn : NoteOK n) (st : St) : s31 [noteV n] st = some (.ret (.int .i64 (if packOK n = true then 0 else 1)), st) := by
  rw [s31_eq]
  refine fg_of (st' := st.new (.cells (noteC n))) (v := .int .i64 (if packOK n = true then 0 else 1)) ?_ ((Ks.refl st).new _) rfl
  unfold f31
  have bx : ∀ K, A.box (noteV n) st K = K (.ptr st.n 0) (st.new (.cells (noteC n))) := fun K => rfl
  have lo : ∀ K, A.load true 4 (.ptr st.n 0) (st.new (.cells (noteC n))) K = K (.agg (noteC n)) (st.new (.cells (noteC n))) := fun K => load_noteb (new_at _ _) K
  have hnv : (V.agg (noteC n)).er1 = noteV n := rfl
  simp only [bx, lo, hnv, body_s' n hn, ret_ret]
  cases packOK n <;> simp [P2]
end Go.Ab
