import Derived.Test.YtnnjfbbflfbcaaaAbW03e
import Derived.Test.YtnnjfbbflfbcaaaAbCrc
/- sinewlaw03: the checksum. -/
namespace Go.Ab
open Go.RowKit Go.Proofs
set_option linter.unusedVariables false
set_option linter.unusedSimpArgs false
/-! ### check.Sum -/
theorem sum_loop (s : List UInt8) (hs : s.length ≤ 9223372036854775807) (p : Nat) (st : St) (hp : st.ob p = some (.cells crcTab)) : ∀ (n i c : Nat), c < 4294967296 → i ≤ s.length → s.length < n + i →
    g23b111010 n (.str s) (.ptr p 0) (.int .u32 (c : Nat)) (.int .i64 (s.length : Nat)) (.int .i64 (i : Nat)) st = some (.ret (.int .i64 ((4294967295 ^^^ Crc.crc c (s.drop i) : Nat) : Int)), st) := by
  intro n
  induction n with
  | zero => intro i c hc hi hn; omega
  | succ n ih =>
    intro i c hc hi hn
    by_cases h : i < s.length
    · have hb := Crc.by_lt s[i]
      have hx := idxS_at (s := s) (i := i) h
      have e1 : ∀ K, A.toInt .u32 (.int .u8 s[i].toNat) K = K (.int .u32 (s[i].toNat : Nat)) := fun K => by
        have := s[i].toNat_lt
        simp only [A.toInt, u32_wrap]; congr 2; omega
      have e2 : ∀ K, A.bin .shl (.int .u32 (s[i].toNat : Nat)) (.int .u64 24) K = K (.int .u32 ((s[i].toNat * 16777216 : Nat) : Int)) := fun K => by
        rw [show (24 : Int) = ((24 : Nat) : Int) from rfl, bin_shl32 _ 24 K (by omega)]; congr 2; simp; omega
      have e3 : ∀ K, A.bin .xor (.int .u32 (c : Nat)) (.int .u32 ((s[i].toNat * 16777216 : Nat) : Int)) K = K (.int .u32 ((c ^^^ (s[i].toNat * 16777216) : Nat) : Int)) := bin_xor32 _ _ hc hb
      have nb : ∀ (m : Nat) (hm : m < 4294967296) (K : V → St → Res), (A.bin .shl (.int .u32 (m : Nat)) (.int .u64 4) fun a1 => A.bin .shr (.int .u32 (m : Nat)) (.int .u64 28) fun a2 => A.iaddrA 16 1 (.ptr p 0) a2 fun a3 => A.load false 1 a3 st fun a4 z5 => A.bin .xor a1 a4 fun a6 => K a6 z5)
          = K (.int .u32 ((Crc.stN 4 m : Nat) : Int)) st := by
        intro m hm K
        rw [show (4 : Int) = ((4 : Nat) : Int) from rfl, bin_shl32 _ 4 _ (by omega), show (28 : Int) = ((28 : Nat) : Int) from rfl, bin_shr32 _ 28 _ (by omega)]
        have hk : m / 268435456 < 16 := by omega
        have hk2 : ((m / 268435456 : Nat) : Int) < 16 := by omega
        have ht := crcTab_at _ hk
        have hlt2 : m * 2 ^ 4 % 4294967296 < 4294967296 := by omega
        have hlt : m / 268435456 * 268435456 < 4294967296 := Nat.lt_of_le_of_lt (Nat.div_mul_le_self _ _) hm
        have hl := bin_xor32 (m * 2 ^ 4 % 4294967296) (Crc.stN 4 (m / 268435456 * 268435456)) hlt2 (Crc.stN_lt hlt 4)
        rw [show m / 2 ^ 28 = m / 268435456 from rfl]
        simp only [iaddrA_ptr, show (0 : Int) ≤ ((m / 268435456 : Nat) : Int) from by omega, show ((m / 268435456 : Nat) : Int) < ((16 : Nat) : Int) from by omega, and_self, if_true, Int.toNat_natCast, Nat.zero_add, Nat.mul_one, load_ob, hp, obo_some, ht, ob_some', hl]
        rw [show m * 2 ^ 4 % 4294967296 = m * 16 % 4294967296 by rfl, Crc.nib hm]
      have hn1 : c ^^^ (s[i].toNat * 16777216) < 4294967296 := Crc.xor_lt32 hc hb
      have hn2 := Crc.stN_lt hn1 4
      have e6 : ∀ K, A.bin .add (.int .i64 (i : Nat)) (.int .i64 1) K = K (.int .i64 ((i + 1 : Nat) : Int)) := fun K => bin_addN i 1 K (by omega)
      have hd : s.drop i = s[i] :: s.drop (i + 1) := List.drop_eq_getElem_cons h
      unfold g23b111010 g23b1110100110011
      simp only [bin_lss, cond_true, show ((i : Int) < (s.length : Int)) from by omega, decide_true, hx, e1, e2, e3]
      rw [nb _ hn1, nb _ hn2]
      rw [e6, ← Crc.stN_add, hd]
      exact ih (i + 1) _ (Crc.stN_lt hn1 8) (by omega) (by omega)
    · have hi' : i = s.length := by omega
      subst hi'
      have e1 : ∀ K, A.un .xor (.int .u32 (c : Nat)) K = K (.int .u32 ((4294967295 ^^^ c : Nat) : Int)) := fun K => by
        have := bin_xor32 4294967295 c (by omega) hc K
        refine Eq.trans ?_ this
        simp [A.un, A.bin, IntKind.signed, IntKind.max, IntKind.bits]
      have h2 := Crc.xor_lt32 (a := 4294967295) (by omega) hc
      unfold g23b111010
      simp only [bin_lss, Int.lt_irrefl, decide_false, cond_false, e1, A.toInt, List.drop_length]
      rw [wrap_i64 (by omega) (by omega)]
      rfl
theorem sum_s (s : List UInt8) (hs : s.length ≤ 9223372036854775807) (st : St) : s23 [.str s] st = some (.ret (.int .i64 (Crc.sum s : Nat)), st) := by
  rw [s23_eq]
  have hb := big_le
  refine fg_of (v := .int .i64 (Crc.sum s : Nat)) (st' := (st.new (.cells crcTab))) ?_ ((Ks.refl st).new _) rfl
  have hl := sum_loop s hs st.n (st.new (.cells crcTab)) (by simp) big 0 4294967295 (by omega) (by omega) (by omega)
  have e1 : putL [V.int .u32 0, .int .u32 0, .int .u32 0, .int .u32 0, .int .u32 0, .int .u32 0, .int .u32 0, .int .u32 0, .int .u32 0, .int .u32 0, .int .u32 0, .int .u32 0, .int .u32 0, .int .u32 0, .int .u32 0, .int .u32 0] 0 crcTab = crcTab := rfl
  have e2 : (st.new (.cells [V.int .u32 0, .int .u32 0, .int .u32 0, .int .u32 0, .int .u32 0, .int .u32 0, .int .u32 0, .int .u32 0, .int .u32 0, .int .u32 0, .int .u32 0, .int .u32 0, .int .u32 0, .int .u32 0, .int .u32 0, .int .u32 0])).put st.n (.cells crcTab) = st.new (.cells crcTab) := by
    unfold St.put St.new; congr 1; funext j; by_cases h : j = st.n <;> simp [h]
  have h3 : crcTab.length = 16 ∧ crcTab.all V.one = true := ⟨rfl, rfl⟩
  unfold f23
  rw [s34_val]
  rw [ret_ret, box_agg _ _ _ rfl]
  show A.store 16 (.ptr st.n 0) (.agg crcTab) _ _ = _
  rw [store_agg, new_at, obo_some, if_pos ⟨rfl, by decide, rfl⟩, e1, e2, lenS_str]
  exact hl
/-! ### the reference's Sum -/
theorem rsum_in (s : List UInt8) (L : V → V → V → St → Res) (st : St) (k : Nat) (hk : k < 9223372036854775807) : ∀ (n j c : Nat), c < 4294967296 → j ≤ 8 → 8 < n + j →
    g26b110100100110 L n (.str s) (.int .i64 (c : Nat)) (.int .i64 (k : Nat)) (.int .i64 (j : Nat)) st = L (.str s) (.int .i64 ((Crc.stN (8 - j) c : Nat) : Int)) (.int .i64 ((k + 1 : Nat) : Int)) st := by
  intro n
  induction n with
  | zero => intro j c hc hj hn; omega
  | succ n ih =>
    intro j c hc hj hn
    unfold g26b110100100110
    by_cases h : j < 8
    · have e1 : ∀ K, A.bin .mul (.int .i64 2) (.int .i64 (c : Nat)) K = K (.int .i64 ((2 * c : Nat) : Int)) := fun K => by
        rw [bin_mul K (by omega) (by omega)]; simp
      have e2 : ∀ K, A.bin .add (.int .i64 (j : Nat)) (.int .i64 1) K = K (.int .i64 ((j + 1 : Nat) : Int)) := fun K => bin_addN j 1 K (by omega)
      have hst := ih (j + 1) (Crc.st c) (Crc.st_lt hc) (by omega) (by omega)
      rw [Crc.stN_st, show 8 - (j + 1) + 1 = 8 - j by omega] at hst
      simp only [bin_lss, show ((j : Int) < 8) from by omega, decide_true, cond_true, e1, bin_gtr]
      by_cases hg : 4294967295 < 2 * c
      · have hb : Crc.st c = (2 * c - 4294967295 - 1) ^^^ 79764919 := by
          unfold Crc.st
          rw [show 2 * c % 4294967296 = 2 * c - 4294967295 - 1 by omega, show c / 2147483648 = 1 by omega, Nat.one_mul]
        rw [hb] at hst
        simp only [show ((4294967295 : Int) < ((2 * c : Nat) : Int)) from by omega, decide_true, cond_true]
        rw [bin_sub _ (by omega) (by omega), bin_sub _ (by omega) (by omega)]
        rw [show (((2 * c : Nat) : Int) - 4294967295 - 1) = ((2 * c - 4294967295 - 1 : Nat) : Int) by omega, show (79764919 : Int) = ((79764919 : Nat) : Int) from rfl, bin_xor64 _ _ (by omega) (by omega), e2]
        exact hst
      · have hb : Crc.st c = 2 * c := Crc.st_small (by omega)
        rw [hb] at hst
        simp only [show ¬ ((4294967295 : Int) < ((2 * c : Nat) : Int)) from by omega, decide_false, cond_false, e2]
        exact hst
    · have : j = 8 := by omega
      subst this
      have e2 : ∀ K, A.bin .add (.int .i64 (k : Nat)) (.int .i64 1) K = K (.int .i64 ((k + 1 : Nat) : Int)) := fun K => bin_addN k 1 K (by omega)
      simp only [bin_lss, show ¬ (((8 : Nat) : Int) < 8) from by omega, decide_false, cond_false, e2]
      rfl
theorem rsum_loop (s : List UInt8) (hs : s.length ≤ 9223372036854775807) (st : St) : ∀ (n i c : Nat), c < 4294967296 → i ≤ s.length → s.length < n + i →
    g26b11010 n (.str s) (.int .i64 (c : Nat)) (.int .i64 (i : Nat)) st = some (.ret (.int .i64 ((4294967295 ^^^ Crc.crc c (s.drop i) : Nat) : Int)), st) := by
  intro n
  induction n with
  | zero => intro i c hc hi hn; omega
  | succ n ih =>
    intro i c hc hi hn
    unfold g26b11010 g26b1101001001
    by_cases h : i < s.length
    · have hb := Crc.by_lt s[i]
      have hx := idxS_at (s := s) (i := i) h
      have e1 : ∀ K, A.toInt .i64 (.int .u8 s[i].toNat) K = K (.int .i64 (s[i].toNat : Nat)) := fun K => by
        have := s[i].toNat_lt
        simp only [A.toInt]; rw [wrap_i64 (by omega) (by omega)]
      have e2 : ∀ K, A.bin .shl (.int .i64 (s[i].toNat : Nat)) (.int .u64 24) K = K (.int .i64 ((s[i].toNat * 16777216 : Nat) : Int)) := fun K => by
        have := s[i].toNat_lt
        exact bin_shlN _ 24 K (by omega) (by simp; omega)
      have e3 : ∀ K, A.bin .xor (.int .i64 (c : Nat)) (.int .i64 ((s[i].toNat * 16777216 : Nat) : Int)) K = K (.int .i64 ((c ^^^ (s[i].toNat * 16777216) : Nat) : Int)) := bin_xor64 _ _ (by omega) (by omega)
      have hn1 : c ^^^ (s[i].toNat * 16777216) < 4294967296 := Crc.xor_lt32 hc hb
      have hd : s.drop i = s[i] :: s.drop (i + 1) := List.drop_eq_getElem_cons h
      have hB := big_le
      have hin := rsum_in s (g26b11010 n) st i (by omega) big 0 _ hn1 (by omega) (by omega)
      simp only [lenS_str, bin_lss, show ((i : Int) < (s.length : Int)) from by omega, decide_true, cond_true, hx, e1, e2, e3]
      refine hin.trans ?_
      rw [hd]
      exact ih (i + 1) _ (Crc.stN_lt hn1 8) (by omega) (by omega)
    · have hi' : i = s.length := by omega
      subst hi'
      have e1 : ∀ K, A.bin .xor (.int .i64 (c : Nat)) (.int .i64 4294967295) K = K (.int .i64 ((4294967295 ^^^ c : Nat) : Int)) := fun K => by
        rw [Nat.xor_comm]; exact bin_xor64 c 4294967295 (by omega) (by omega) K
      simp only [lenS_str, bin_lss, Int.lt_irrefl, decide_false, cond_false, e1, List.drop_length]
      rfl
theorem rsum_s (s : List UInt8) (hs : s.length ≤ 9223372036854775807) (st : St) : s26 [.str s] st = some (.ret (.int .i64 (Crc.sum s : Nat)), st) := by
  rw [s26_eq]
  have hb := big_le
  exact rsum_loop s hs st big 0 4294967295 (by omega) (by omega) (by omega)
end Go.Ab
