import Derived.Test.YtnnjfbbflfbcaaaAbW03f
/- sinew/wire: small functions; which notes may be. -/
namespace Go.Ab
open Go.RowKit Go.Oct
set_option linter.unusedVariables false
set_option linter.unusedSimpArgs false

structure Note where
  kind : Int
  nums : List Int
  texts : List (List UInt8)
  rows : List (List (List UInt8))
def rowsV (r : List (List (List UInt8))) : List V := r.map fun l => .lst (strsV l) 0
def noteC (n : Note) : List V := [.int .i64 n.kind, .lst (intsV n.nums) 0, .lst (strsV n.texts) 0, .lst (rowsV n.rows) 0]
def noteV (n : Note) : V := .agg (noteC n)
@[simp] theorem rowsV_len (r : List (List (List UInt8))) : (rowsV r).length = r.length := by simp [rowsV]
@[simp] theorem szok_rows (r : List (List (List UInt8))) : szok 1 (rowsV r) = true := szok_map (fun _ => rfl) r
theorem iaddr_rows {r : List (List (List UInt8))} {i : Nat} (t : Nat) (h : i < r.length) (K : V → Res) : A.iaddr 1 (.lst (rowsV r) t) (.int .i64 (i : Nat)) K = K (.lptr [.lst (strsV r[i]) 0]) := iaddr_lst (v := .lst (strsV r[i]) 0) K (by simp [rowsV, h]) rfl
theorem bin_addW (x y : Int) (K : V → Res) : A.bin .add (.int .i64 x) (.int .i64 y) K = K (.int .i64 (IntKind.i64.wrap (x + y))) := by simp [A.bin]
/-! ### four bytes -/
def of4 (s : List UInt8) : Nat := val (s.take 4)
theorem of4_lt (s : List UInt8) : of4 s < 4294967296 := by
  have := val_lt (s.take 4)
  have h : (s.take 4).length ≤ 4 := by simp; omega
  have := Nat.pow_le_pow_right (show 0 < 256 by omega) h
  unfold of4; omega
theorem four_bytes {s : List UInt8} (h : 4 ≤ s.length) : ∃ a b c d r, s = a :: b :: c :: d :: r := by
  match s, h with
  | a :: b :: c :: d :: r, _ => exact ⟨a, b, c, d, r, rfl⟩
  | [], h | [_], h | [_, _], h | [_, _, _], h => simp at h
theorem of4_eq (a b c d : UInt8) (r : List UInt8) : of4 (a :: b :: c :: d :: r) = ((a.toNat * 2 ^ 8 + b.toNat) * 2 ^ 8 + c.toNat) * 2 ^ 8 + d.toNat := by
  simp [of4, val]
theorem four_walk (a b c d : UInt8) (K : V → Res) : (A.bin .shl (.int .i64 (a.toNat : Nat)) (.int .u64 24) fun a3 => A.bin .shl (.int .i64 (b.toNat : Nat)) (.int .u64 16) fun a6 => A.bin .or a3 a6 fun a7 => A.bin .shl (.int .i64 (c.toNat : Nat)) (.int .u64 8) fun a10 => A.bin .or a7 a10 fun a11 => A.bin .or a11 (.int .i64 (d.toNat : Nat)) K)
    = K (.int .i64 ((((a.toNat * 2 ^ 8 + b.toNat) * 2 ^ 8 + c.toNat) * 2 ^ 8 + d.toNat : Nat) : Int)) := by
  have ha := a.toNat_lt; have hb := b.toNat_lt; have hc := c.toNat_lt; have hd := d.toNat_lt
  have e1 : ∀ K, A.bin .shl (.int .i64 (a.toNat : Nat)) (.int .u64 24) K = K (.int .i64 ((a.toNat * 2 ^ 24 : Nat) : Int)) := fun K => bin_shl64 _ 24 K (by omega) (by omega)
  have e2 : ∀ K, A.bin .shl (.int .i64 (b.toNat : Nat)) (.int .u64 16) K = K (.int .i64 ((b.toNat * 2 ^ 16 : Nat) : Int)) := fun K => bin_shl64 _ 16 K (by omega) (by omega)
  have e3 : ∀ K, A.bin .shl (.int .i64 (c.toNat : Nat)) (.int .u64 8) K = K (.int .i64 ((c.toNat * 2 ^ 8 : Nat) : Int)) := fun K => bin_shl64 _ 8 K (by omega) (by omega)
  have e4 : ∀ K, A.bin .or (.int .i64 ((a.toNat * 2 ^ 24 : Nat) : Int)) (.int .i64 ((b.toNat * 2 ^ 16 : Nat) : Int)) K = K (.int .i64 (((a.toNat * 2 ^ 8 + b.toNat) * 2 ^ 16 : Nat) : Int)) := fun K => by
    rw [bin_orJ _ _ 24 K (by omega) (by omega), show a.toNat * 2 ^ 24 + b.toNat * 2 ^ 16 = (a.toNat * 2 ^ 8 + b.toNat) * 2 ^ 16 by omega]
  have e5 : ∀ K, A.bin .or (.int .i64 (((a.toNat * 2 ^ 8 + b.toNat) * 2 ^ 16 : Nat) : Int)) (.int .i64 ((c.toNat * 2 ^ 8 : Nat) : Int)) K = K (.int .i64 ((((a.toNat * 2 ^ 8 + b.toNat) * 2 ^ 8 + c.toNat) * 2 ^ 8 : Nat) : Int)) := fun K => by
    rw [bin_orJ _ _ 16 K (by omega) (by omega), show (a.toNat * 2 ^ 8 + b.toNat) * 2 ^ 16 + c.toNat * 2 ^ 8 = ((a.toNat * 2 ^ 8 + b.toNat) * 2 ^ 8 + c.toNat) * 2 ^ 8 by omega]
  have e6 : ∀ K, A.bin .or (.int .i64 ((((a.toNat * 2 ^ 8 + b.toNat) * 2 ^ 8 + c.toNat) * 2 ^ 8 : Nat) : Int)) (.int .i64 (d.toNat : Nat)) K = K (.int .i64 ((((a.toNat * 2 ^ 8 + b.toNat) * 2 ^ 8 + c.toNat) * 2 ^ 8 + d.toNat : Nat) : Int)) := fun K => bin_orJ _ _ 8 K (by omega) (by omega)
  simp only [e1, e2, e3, e4, e5, e6]
theorem idx_0 (a : UInt8) (r : List UInt8) (K : V → Res) : A.idxS (.str (a :: r)) (.int .i64 0) K = K (.int .u8 (a.toNat : Nat)) := rfl
theorem idx_1 (a b : UInt8) (r : List UInt8) (K : V → Res) : A.idxS (.str (a :: b :: r)) (.int .i64 1) K = K (.int .u8 (b.toNat : Nat)) := rfl
theorem idx_2 (a b c : UInt8) (r : List UInt8) (K : V → Res) : A.idxS (.str (a :: b :: c :: r)) (.int .i64 2) K = K (.int .u8 (c.toNat : Nat)) := rfl
theorem idx_3 (a b c d : UInt8) (r : List UInt8) (K : V → Res) : A.idxS (.str (a :: b :: c :: d :: r)) (.int .i64 3) K = K (.int .u8 (d.toNat : Nat)) := rfl
theorem of4_s {s : List UInt8} (h : 4 ≤ s.length) (st : St) : s22 [.str s] st = some (.ret (.int .i64 (of4 s : Nat)), st) := by
  obtain ⟨a, b, c, d, r, rfl⟩ := four_bytes h
  rw [s22_eq]
  unfold f22
  simp only [idx_0, idx_1, idx_2, idx_3, toInt_u8]
  rw [four_walk a b c d, of4_eq]; rfl
theorem rof4_s {s : List UInt8} (h : 4 ≤ s.length) (st : St) : s25 [.str s] st = some (.ret (.int .i64 (of4 s : Nat)), st) := by
  obtain ⟨a, b, c, d, r, rfl⟩ := four_bytes h
  rw [s25_eq]
  unfold f25
  simp only [idx_0, idx_1, idx_2, idx_3, toInt_u8]
  rw [four_walk a b c d, of4_eq]; rfl
def four (n : Nat) : List UInt8 := digsN n 4
theorem four_eq (n : Nat) : four n = [UInt8.ofNat (n / 2 ^ 24), UInt8.ofNat (n / 2 ^ 16), UInt8.ofNat (n / 2 ^ 8), UInt8.ofNat n] := by
  unfold four
  rw [digsN_succ, digsN_succ, digsN_succ, digsN_succ, ofNat_mod, ofNat_mod, ofNat_mod, ofNat_mod]
  show [_, _, _, _] = _
  simp
theorem of4_four (n : Nat) (h : n < 4294967296) (t : List UInt8) : of4 (four n ++ t) = n := by
  unfold of4
  rw [List.take_left' (by unfold four; rw [digsN_length])]
  unfold four
  rw [val_digs]
  exact Nat.mod_eq_of_lt h
theorem four_len (n : Nat) : (four n).length = 4 := digsN_length n 4
@[simp] theorem bslice_u84 (a b c d : Int) (K : V → Res) : A.bslice 1 (.int .u8 0) 4 [(0, .int .u8 a), (1, .int .u8 b), (2, .int .u8 c), (3, .int .u8 d)] K = K (.lst [.int .u8 a, .int .u8 b, .int .u8 c, .int .u8 d] 2) := by simp [A.bslice, setP, V.er, List.replicate]
theorem four_s (n : Nat) (st : St) : s31 [.int .i64 (n : Nat)] st = some (.ret (.str (four n)), st) := by
  rw [s31_eq]
  unfold f31
  have e1 : ∀ K, A.bin .shr (.int .i64 (n : Nat)) (.int .u64 24) K = K (.int .i64 ((n / 2 ^ 24 : Nat) : Int)) := fun K => bin_shrL n 24 .u64 K (by omega)
  have e2 : ∀ K, A.bin .shr (.int .i64 (n : Nat)) (.int .u64 16) K = K (.int .i64 ((n / 2 ^ 16 : Nat) : Int)) := fun K => bin_shrL n 16 .u64 K (by omega)
  have e3 : ∀ K, A.bin .shr (.int .i64 (n : Nat)) (.int .u64 8) K = K (.int .i64 ((n / 2 ^ 8 : Nat) : Int)) := fun K => bin_shrL n 8 .u64 K (by omega)
  simp only [e1, e2, e3, toInt_8, bslice_u84]
  rw [show [V.int .u8 ((UInt8.ofNat (n / 2 ^ 24)).toNat : Nat), .int .u8 ((UInt8.ofNat (n / 2 ^ 16)).toNat : Nat), .int .u8 ((UInt8.ofNat (n / 2 ^ 8)).toNat : Nat), .int .u8 ((UInt8.ofNat n).toNat : Nat)] = bytV (four n) by rw [four_eq]; rfl]
  rw [toStr_bytV]; rfl
theorem rfour_s (n : Nat) (st : St) : s33 [.int .i64 (n : Nat)] st = some (.ret (.str (four n)), st) := by
  rw [s33_eq]
  unfold f33
  have e1 : ∀ K, A.bin .shr (.int .i64 (n : Nat)) (.int .u64 24) K = K (.int .i64 ((n / 2 ^ 24 : Nat) : Int)) := fun K => bin_shrL n 24 .u64 K (by omega)
  have e2 : ∀ K, A.bin .shr (.int .i64 (n : Nat)) (.int .u64 16) K = K (.int .i64 ((n / 2 ^ 16 : Nat) : Int)) := fun K => bin_shrL n 16 .u64 K (by omega)
  have e3 : ∀ K, A.bin .shr (.int .i64 (n : Nat)) (.int .u64 8) K = K (.int .i64 ((n / 2 ^ 8 : Nat) : Int)) := fun K => bin_shrL n 8 .u64 K (by omega)
  have e4 : ∀ (m : Nat) K, A.bin .and (.int .i64 (m : Nat)) (.int .i64 255) K = K (.int .i64 ((m % 256 : Nat) : Int)) := fun m K => by
    have := bin_mask (x := (m : Int)) (m := 255) 8 rfl (by omega) K
    rw [show ((255 : Nat) : Int) = 255 from rfl] at this
    rw [this]; rfl
  simp only [e1, e2, e3, e4, toInt_8, bslice_u84, ofNat_mod]
  rw [show [V.int .u8 ((UInt8.ofNat (n / 2 ^ 24)).toNat : Nat), .int .u8 ((UInt8.ofNat (n / 2 ^ 16)).toNat : Nat), .int .u8 ((UInt8.ofNat (n / 2 ^ 8)).toNat : Nat), .int .u8 ((UInt8.ofNat n).toNat : Nat)] = bytV (four n) by rw [four_eq]; rfl]
  rw [toStr_bytV]; rfl
/-! ### fits -/
def oddN (k : Int) : Bool := decide (k < 0) || decide (4611686018427387903 < k)
def longT (s : List UInt8) : Bool := decide (65536 < s.length)
theorem odd_s (k : Int) (st : St) : s54 [.int .i64 k] st = some (.ret (.bool (oddN k)), st) := by
  rw [s54_eq]
  unfold f54
  by_cases h : k < 0 <;> simp [h, oddN]
theorem long_s (s : List UInt8) (st : St) : s55 [.str s] st = some (.ret (.bool (longT s)), st) := by
  rw [s55_eq]
  unfold f55
  simp only [lenS_str, bin_gtr, er1_bool, longT]
  congr 4
  simp; omega
theorem idxT_loop (l : List (List UInt8)) (t : Nat) (hl : l.length ≤ 9223372036854775807) (st : St) : ∀ (n i : Nat), i ≤ l.length → l.length < n + i →
    ∃ r : Int, g63b1010 n (.lst (strsV l) t) (.fn 55 [] []) (.int .i64 (l.length : Nat)) (.int .i64 (i : Nat)) st = some (.ret (.int .i64 r), st) ∧ decide (0 ≤ r) = (l.drop i).any longT := by
  intro n
  induction n with
  | zero => intro i hi hn; omega
  | succ n ih =>
    intro i hi hn
    unfold g63b1010
    by_cases h : i < l.length
    · have e4 : ∀ K, A.bin .add (.int .i64 (i : Nat)) (.int .i64 1) K = K (.int .i64 ((i + 1 : Nat) : Int)) := fun K => bin_inc (by omega) K
      have e5 : ∀ (x : List UInt8) K, A.call g63T (.fn 55 [] []) [.str x] st K = A.ret (s55 [.str x] st) K := fun x K => rfl
      simp only [bin_lss, show ((i : Int) < (l.length : Int)) from by omega, decide_true, cond_true, iaddr_strs t h, load_l1', e5, long_s, ret_ret]
      rw [List.drop_eq_getElem_cons h, List.any_cons]
      cases hx : longT l[i] with
      | true => exact ⟨i, by simp, by simp⟩
      | false =>
        simp only [cond_false, e4, Bool.false_or]
        exact ih (i + 1) (by omega) (by omega)
    · have : i = l.length := by omega
      subst this
      simp only [bin_lss, Int.lt_irrefl, decide_false, cond_false, er1_int, List.drop_length]
      exact ⟨-1, rfl, rfl⟩
theorem containsT_s (l : List (List UInt8)) (t : Nat) (hl : l.length ≤ 9223372036854775807) (st : St) : s56 [.lst (strsV l) t, .fn 55 [] []] st = some (.ret (.bool (l.any longT)), st) := by
  rw [s56_eq]
  unfold f56
  obtain ⟨r, h1, h2⟩ := idxT_loop l t hl st big 0 (by omega) (lt_big (by omega))
  rw [List.drop_zero] at h2
  have e : s63 [.lst (strsV l) t, .fn 55 [] []] st = some (.ret (.int .i64 r), st) := by
    rw [s63_eq]; unfold f63
    simp only [lenL_lst, strsV_len]
    exact h1
  simp only [er1_lst, er1_fn, e, ret_ret, bin_geq, er1_bool, h2]
theorem idxN_loop (l : List Int) (t : Nat) (hl : l.length ≤ 9223372036854775807) (st : St) : ∀ (n i : Nat), i ≤ l.length → l.length < n + i →
    ∃ r : Int, g64b1010 n (.lst (intsV l) t) (.fn 54 [] []) (.int .i64 (l.length : Nat)) (.int .i64 (i : Nat)) st = some (.ret (.int .i64 r), st) ∧ decide (0 ≤ r) = (l.drop i).any oddN := by
  intro n
  induction n with
  | zero => intro i hi hn; omega
  | succ n ih =>
    intro i hi hn
    unfold g64b1010
    by_cases h : i < l.length
    · have e4 : ∀ K, A.bin .add (.int .i64 (i : Nat)) (.int .i64 1) K = K (.int .i64 ((i + 1 : Nat) : Int)) := fun K => bin_inc (by omega) K
      have e5 : ∀ (x : Int) K, A.call g64T (.fn 54 [] []) [.int .i64 x] st K = A.ret (s54 [.int .i64 x] st) K := fun x K => rfl
      simp only [bin_lss, show ((i : Int) < (l.length : Int)) from by omega, decide_true, cond_true, iaddr_ints t h, load_l1', e5, odd_s, ret_ret]
      rw [List.drop_eq_getElem_cons h, List.any_cons]
      cases hx : oddN l[i] with
      | true => exact ⟨i, by simp, by simp⟩
      | false =>
        simp only [cond_false, e4, Bool.false_or]
        exact ih (i + 1) (by omega) (by omega)
    · have : i = l.length := by omega
      subst this
      simp only [bin_lss, Int.lt_irrefl, decide_false, cond_false, er1_int, List.drop_length]
      exact ⟨-1, rfl, rfl⟩
theorem containsN_s (l : List Int) (t : Nat) (hl : l.length ≤ 9223372036854775807) (st : St) : s57 [.lst (intsV l) t, .fn 54 [] []] st = some (.ret (.bool (l.any oddN)), st) := by
  rw [s57_eq]
  unfold f57
  obtain ⟨r, h1, h2⟩ := idxN_loop l t hl st big 0 (by omega) (lt_big (by omega))
  rw [List.drop_zero] at h2
  have e : s64 [.lst (intsV l) t, .fn 54 [] []] st = some (.ret (.int .i64 r), st) := by
    rw [s64_eq]; unfold f64
    simp only [lenL_lst, intsV_len]
    exact h1
  simp only [er1_lst, er1_fn, e, ret_ret, bin_geq, er1_bool, h2]
end Go.Ab
