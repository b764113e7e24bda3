import Derived.Below
/- Numbers, texts and lists as bytes: the plain law, over lists of bytes (our own text of seat 01, without its program). -/
namespace Go.Oct
set_option linter.unusedVariables false
set_option linter.unusedSimpArgs false
def low (n : Nat) : Nat → List Int
  | 0 => []
  | j + 1 => ((n / 256 ^ j % 256 : Nat) : Int) :: low n j
theorem low_length (n : Nat) : ∀ j, (low n j).length = j
  | 0 => rfl
  | j + 1 => by show (low n j).length + 1 = _; rw [low_length n j]
/-- How many digits. -/
def nl : Nat → Nat → Nat
  | 0, _ => 0
  | k + 1, n => if n = 0 then 0 else nl k (n / 256) + 1
theorem nl_le : ∀ k n, nl k n ≤ k
  | 0, _ => Nat.le_refl _
  | k + 1, n => by
    unfold nl
    split
    · omega
    · have := nl_le k (n / 256)
      omega
def nlen (n : Nat) : Nat := nl 8 n
/-- The value of digits, the highest first. -/
def val (l : List UInt8) : Nat := l.foldl (fun n b => n * 256 + b.toNat) 0
theorem val_snoc (l : List UInt8) (b : UInt8) : val (l ++ [b]) = val l * 256 + b.toNat := by simp [val]
theorem val_fold (l : List UInt8) : ∀ a, l.foldl (fun n b => n * 256 + b.toNat) a = a * 256 ^ l.length + val l := by
  induction l with
  | nil => intro a; simp [val]
  | cons b l ih =>
    intro a
    have h1 := ih (a * 256 + b.toNat)
    have h2 := ih b.toNat
    have h3 : val (b :: l) = l.foldl (fun n b => n * 256 + b.toNat) b.toNat := by simp [val]
    rw [h3, h2]
    simp only [List.foldl_cons, List.length_cons]
    rw [h1, Nat.pow_succ, Nat.add_mul, Nat.mul_assoc, Nat.mul_comm 256, Nat.add_assoc]
theorem val_cons (b : UInt8) (l : List UInt8) : val (b :: l) = b.toNat * 256 ^ l.length + val l := by
  have h := val_fold l b.toNat
  rw [← h]
  simp [val]
theorem val_lt (l : List UInt8) : val l < 256 ^ l.length := by
  induction l with
  | nil => simp [val]
  | cons b l ih =>
    rw [val_cons, List.length_cons, Nat.pow_succ]
    have hb : b.toNat ≤ 255 := by have := b.toNat_lt; omega
    have h1 : b.toNat * 256 ^ l.length ≤ 255 * 256 ^ l.length := Nat.mul_le_mul_right _ hb
    omega
/-- What may not be: a first digit that is 0, or more than a number holds. -/
def badN (b : Nat) (r : List UInt8) : Bool := (decide (0 < b) && (r.headD 1).toNat == 0) || (b == 8 && decide (128 ≤ (r.headD 0).toNat))
/-- The number that bytes begin with, how many bytes, or the error. -/
def numL : List UInt8 → Nat × Nat × Nat
  | [] => (0, 0, 11)
  | b :: r => if 8 < b.toNat then (0, 0, 10) else if r.length < b.toNat then (0, 0, 11) else if badN b.toNat r = true then (0, 0, 10) else (val (r.take b.toNat), b.toNat + 1, 0)
theorem numL_cons (b : UInt8) (r : List UInt8) : numL (b :: r) = if 8 < b.toNat then (0, 0, 10) else if r.length < b.toNat then (0, 0, 11) else if badN b.toNat r = true then (0, 0, 10) else (val (r.take b.toNat), b.toNat + 1, 0) := rfl
def strL (l : List UInt8) : List UInt8 × Nat × Nat :=
  if (numL l).2.2 = 0 then (if 65536 < (numL l).1 then ([], 0, 12) else if l.length - (numL l).2.1 < (numL l).1 then ([], 0, 11) else ((l.drop (numL l).2.1).take (numL l).1, (numL l).2.1 + (numL l).1, 0)) else ([], 0, (numL l).2.2)
def goL (l : List UInt8) : Nat → Nat → List (List UInt8) → List (List UInt8) × Nat × Nat
  | 0, at_, acc => (acc, at_, 0)
  | n + 1, at_, acc => if (strL (l.drop at_)).2.2 = 0 then goL l n (at_ + (strL (l.drop at_)).2.1) (acc ++ [(strL (l.drop at_)).1]) else ([], 0, (strL (l.drop at_)).2.2)
def listL (l : List UInt8) : List (List UInt8) × Nat × Nat :=
  if (numL l).2.2 = 0 then (if 4096 < (numL l).1 then ([], 0, 12) else goL l (numL l).1 (numL l).2.1 []) else ([], 0, (numL l).2.2)

/-! facts of what is read -/
theorem numL_ok {l : List UInt8} (h : (numL l).2.2 = 0) : ∃ b r, l = b :: r ∧ b.toNat ≤ 8 ∧ b.toNat ≤ r.length ∧ badN b.toNat r = false ∧ numL l = (val (r.take b.toNat), b.toNat + 1, 0) := by
  cases l with
  | nil => simp [numL] at h
  | cons b r =>
    rw [numL_cons] at h
    by_cases h1 : 8 < b.toNat
    · rw [if_pos h1] at h; simp at h
    · rw [if_neg h1] at h
      by_cases h2 : r.length < b.toNat
      · rw [if_pos h2] at h; simp at h
      · rw [if_neg h2] at h
        by_cases h3 : badN b.toNat r = true
        · rw [if_pos h3] at h; simp at h
        · exact ⟨b, r, rfl, by omega, by omega, by simpa using h3, by rw [numL_cons, if_neg h1, if_neg h2, if_neg h3]⟩
theorem numL_used {l : List UInt8} (h : (numL l).2.2 = 0) : 1 ≤ (numL l).2.1 ∧ (numL l).2.1 ≤ 9 ∧ (numL l).2.1 ≤ l.length := by
  obtain ⟨b, r, rfl, h1, h2, _, h3⟩ := numL_ok h
  rw [h3]
  simp only [List.length_cons]
  omega
theorem numL_lt {l : List UInt8} (h : (numL l).2.2 = 0) : (numL l).1 < 9223372036854775808 := by
  obtain ⟨b, r, rfl, h1, h2, hb, h3⟩ := numL_ok h
  rw [h3]
  show val (r.take b.toNat) < _
  have hl : (r.take b.toNat).length = b.toNat := by rw [List.length_take]; omega
  by_cases h8 : b.toNat = 8
  · rw [h8] at hl ⊢
    cases r with
    | nil => simp at h2; omega
    | cons c r =>
      unfold badN at hb
      simp [h8] at hb
      have e : (c :: r).take 8 = c :: r.take 7 := rfl
      rw [e, val_cons]
      have h7 : (r.take 7).length = 7 := by rw [e] at hl; simpa using hl
      have h5 := val_lt (r.take 7)
      rw [h7] at h5 ⊢
      have h6 : c.toNat ≤ 127 := by have := hb.2; omega
      have h9 : c.toNat * 256 ^ 7 ≤ 127 * 256 ^ 7 := Nat.mul_le_mul_right _ h6
      omega
  · have h5 := val_lt (r.take b.toNat)
    rw [hl] at h5
    have h6 : (256 : Nat) ^ b.toNat ≤ 256 ^ 7 := Nat.pow_le_pow_right (by decide) (by omega)
    omega
theorem numL_err (l : List UInt8) : (numL l).2.2 = 0 ∨ (numL l).2.2 = 10 ∧ numL l = (0, 0, 10) ∨ (numL l).2.2 = 11 ∧ numL l = (0, 0, 11) := by
  cases l with
  | nil => exact .inr (.inr ⟨rfl, rfl⟩)
  | cons b r =>
    rw [numL_cons]
    by_cases h1 : 8 < b.toNat
    · rw [if_pos h1]; exact .inr (.inl ⟨rfl, rfl⟩)
    · rw [if_neg h1]
      by_cases h2 : r.length < b.toNat
      · rw [if_pos h2]; exact .inr (.inr ⟨rfl, rfl⟩)
      · rw [if_neg h2]
        by_cases h3 : badN b.toNat r = true
        · rw [if_pos h3]; exact .inr (.inl ⟨rfl, rfl⟩)
        · rw [if_neg h3]; exact .inl rfl
theorem strL_used {l : List UInt8} (h : (strL l).2.2 = 0) : 1 ≤ (strL l).2.1 ∧ (strL l).2.1 ≤ l.length ∧ (strL l).1.length ≤ 65536 ∧ (strL l).2.1 ≤ 65545 := by
  unfold strL at h ⊢
  split at h
  · rename_i h0
    have hu := numL_used h0
    split at h
    · simp at h
    · split at h
      · simp at h
      · rename_i h1 h2
        rw [if_pos h0, if_neg h1, if_neg h2]
        simp only [List.length_take, List.length_drop]
        omega
  · simp at h
    contradiction

/-! what is written is read -/
def digsN (n j : Nat) : List UInt8 := (low n j).map fun x => UInt8.ofNat x.toNat
def putN (n : Nat) : List UInt8 := UInt8.ofNat (nlen n) :: digsN n (nlen n)
theorem putN_eq (n : Nat) : putN n = UInt8.ofNat (nlen n) :: digsN n (nlen n) := rfl
theorem digsN_length (n j : Nat) : (digsN n j).length = j := by unfold digsN; rw [List.length_map, low_length]
theorem digsN_succ (n j : Nat) : digsN n (j + 1) = UInt8.ofNat (n / 256 ^ j % 256) :: digsN n j := by
  show UInt8.ofNat (((n / 256 ^ j % 256 : Nat) : Int).toNat) :: digsN n j = _
  rw [Int.toNat_natCast]
theorem val_digs (n : Nat) : ∀ j, val (digsN n j) = n % 256 ^ j
  | 0 => by simp [digsN, low, val, Nat.mod_one]
  | j + 1 => by
    rw [digsN_succ, val_cons, digsN_length, val_digs n j]
    have h1 : (UInt8.ofNat (n / 256 ^ j % 256)).toNat = n / 256 ^ j % 256 := by simp
    rw [h1, Nat.pow_succ, Nat.mod_mul, Nat.mul_comm, Nat.add_comm]
theorem nl_spec : ∀ k n, n < 256 ^ k → n / 256 ^ (nl k n) = 0 ∧ ∀ j, j < nl k n → n / 256 ^ j ≠ 0
  | 0, n, h => by
    have : n = 0 := by simpa using h
    subst this
    exact ⟨by simp [nl], fun j hj => by simp [nl] at hj⟩
  | k + 1, n, h => by
    unfold nl
    by_cases h0 : n = 0
    · rw [if_pos h0]
      subst h0
      exact ⟨by simp, fun j hj => by omega⟩
    · rw [if_neg h0]
      have ih := nl_spec k (n / 256) (by rw [Nat.pow_succ] at h; exact Nat.div_lt_of_lt_mul (by rw [Nat.mul_comm]; exact h))
      refine ⟨?_, fun j hj => ?_⟩
      · rw [Nat.pow_succ, Nat.mul_comm, ← Nat.div_div_eq_div_mul]
        exact ih.1
      · cases j with
        | zero => simpa using h0
        | succ j =>
          rw [Nat.pow_succ, Nat.mul_comm, ← Nat.div_div_eq_div_mul]
          exact ih.2 j (by omega)
theorem nlen_spec (n : Nat) (h : n < 9223372036854775808) : n < 256 ^ nlen n ∧ ∀ j, j < nlen n → n / 256 ^ j ≠ 0 := by
  have := nl_spec 8 n (by omega)
  refine ⟨?_, this.2⟩
  have h1 := this.1
  rcases Nat.lt_or_ge n (256 ^ nl 8 n) with h2 | h2
  · exact h2
  · have := Nat.div_pos h2 (Nat.pow_pos (by decide))
    omega
theorem nlen_le (n : Nat) : nlen n ≤ 8 := nl_le 8 n
theorem putN_length (n : Nat) : (putN n).length = nlen n + 1 := by rw [putN_eq, List.length_cons, digsN_length]
theorem head_digs (n : Nat) (h : n < 9223372036854775808) (t : List UInt8) : badN (nlen n) (digsN n (nlen n) ++ t) = false := by
  have hs := nlen_spec n h
  have hl := nlen_le n
  cases hJ : nlen n with
  | zero => simp [badN]
  | succ j =>
    rw [hJ] at hs hl
    rw [digsN_succ]
    unfold badN
    have h1 := hs.2 j (by omega)
    have h2 : n / 256 ^ j < 256 := by
      have := hs.1
      rw [Nat.pow_succ] at this
      exact Nat.div_lt_of_lt_mul this
    have h3 : (UInt8.ofNat (n / 256 ^ j % 256)).toNat = n / 256 ^ j := by simp; omega
    simp only [List.cons_append, List.headD_cons, h3]
    have h4 : ¬ (j + 1 = 8 ∧ 128 ≤ n / 256 ^ j) := by
      rintro ⟨h5, h6⟩
      obtain rfl : j = 7 := by omega
      omega
    simp only [Bool.or_eq_false_iff, Bool.and_eq_false_iff]
    refine ⟨.inr (by simpa using h1), ?_⟩
    by_cases h5 : j + 1 = 8
    · exact .inr (by simp; omega)
    · exact .inl (by simpa using h5)
theorem numL_put (n : Nat) (h : n < 9223372036854775808) (t : List UInt8) : numL (putN n ++ t) = (n, (putN n).length, 0) := by
  have hl := nlen_le n
  rw [putN_length, putN_eq, List.cons_append]
  have hb : (UInt8.ofNat (nlen n)).toNat = nlen n := by simp; omega
  rw [numL_cons, hb, if_neg (by omega), if_neg (by rw [List.length_append, digsN_length]; omega), head_digs n h t, if_neg (by simp)]
  have ht : (digsN n (nlen n) ++ t).take (nlen n) = digsN n (nlen n) := by
    rw [List.take_append_of_le_length (by rw [digsN_length]; omega), List.take_of_length_le (by rw [digsN_length]; omega)]
  rw [ht, val_digs, Nat.mod_eq_of_lt (nlen_spec n h).1]
def putS (s : List UInt8) : List UInt8 := putN s.length ++ s
theorem strL_put (s : List UInt8) (h : s.length ≤ 65536) (t : List UInt8) : strL (putS s ++ t) = (s, (putS s).length, 0) := by
  unfold strL putS
  rw [List.append_assoc, numL_put s.length (by omega)]
  simp only [if_true]
  rw [if_neg (by omega), if_neg (by simp only [List.length_append]; omega)]
  rw [List.drop_left, List.take_left, List.length_append]
def catS : List (List UInt8) → List UInt8
  | [] => []
  | s :: l => putS s ++ catS l
def putL (l : List (List UInt8)) : List UInt8 := putN l.length ++ catS l
theorem goL_put (pre : List UInt8) : ∀ (l : List (List UInt8)) (pre : List UInt8) (t : List UInt8) (acc : List (List UInt8)), (∀ s ∈ l, s.length ≤ 65536) →
    goL (pre ++ (catS l ++ t)) l.length pre.length acc = (acc ++ l, pre.length + (catS l).length, 0)
  | [], pre, t, acc, _ => by simp [goL, catS]
  | s :: l, pre, t, acc, h => by
    have hs := h s List.mem_cons_self
    simp only [List.length_cons, goL, catS]
    have e : (pre ++ (putS s ++ catS l ++ t)).drop pre.length = putS s ++ (catS l ++ t) := by rw [List.drop_left, List.append_assoc]
    rw [e, strL_put s hs]
    simp only [if_true]
    have ih := goL_put pre l (pre ++ putS s) t (acc ++ [s]) (fun x hx => h x (List.mem_cons_of_mem _ hx))
    rw [List.length_append] at ih
    have e2 : pre ++ (putS s ++ catS l ++ t) = pre ++ putS s ++ (catS l ++ t) := by simp [List.append_assoc]
    rw [e2, ih]
    simp [List.append_assoc, Nat.add_assoc]
theorem listL_put (l : List (List UInt8)) (hl : l.length ≤ 4096) (h : ∀ s ∈ l, s.length ≤ 65536) (t : List UInt8) : listL (putL l ++ t) = (l, (putL l).length, 0) := by
  unfold listL putL
  rw [List.append_assoc, numL_put l.length (by omega)]
  simp only [if_true]
  rw [if_neg (by omega), goL_put [] l (putN l.length) t [] h]
  simp
theorem val_fits (b : UInt8) (r : List UInt8) (h8 : b.toNat ≤ 8) (hl : b.toNat ≤ r.length) (hb : badN b.toNat r = false) (j : Nat) (hj : j ≤ b.toNat) : val (r.take j) < 9223372036854775808 := by
  by_cases h : j = b.toNat
  · have hn : numL (b :: r) = (val (r.take b.toNat), b.toNat + 1, 0) := by
      rw [numL_cons, if_neg (by omega), if_neg (by omega), hb, if_neg (by simp)]
    have := numL_lt (l := b :: r) (by rw [hn])
    rw [hn] at this
    rw [h]
    exact this
  · have h1 := val_lt (r.take j)
    have h2 : (r.take j).length = j := by rw [List.length_take]; omega
    rw [h2] at h1
    have h3 : (256 : Nat) ^ j ≤ 256 ^ 7 := Nat.pow_le_pow_right (by decide) (by omega)
    omega
end Go.Oct
