import Derived.Test.YtiegejeleanfbaaAbSpec
/- The plain words of layer 13: products, loads, all shares. -/
namespace Go.Ab
open Go.RowKit
set_option linter.unusedVariables false
set_option linter.unusedSimpArgs false
namespace Sh13
def prodE : List Int → Int → Int
  | [], a => a
  | x :: l, a => if 64 < a * x then a * x else prodE l (a * x)
def pr : List Int → Int
  | [] => 1
  | x :: l => x * pr l
theorem pr_pos : ∀ {l : List Int}, (∀ x ∈ l, 1 ≤ x) → 1 ≤ pr l
  | [], _ => by simp [pr]
  | x :: l, h => by
    have h1 := h x (by simp)
    have h2 := pr_pos (l := l) fun y hy => h y (List.mem_cons_of_mem _ hy)
    have := Int.mul_le_mul h1 h2 (by omega) (by omega)
    simpa [pr] using this
theorem pr_app : ∀ (l m : List Int), pr (l ++ m) = pr l * pr m
  | [], m => by simp [pr]
  | x :: l, m => by simp [pr, pr_app l m, Int.mul_assoc]
theorem mul_ge {a b : Int} (ha : 1 ≤ a) (hb : 1 ≤ b) : a ≤ a * b ∧ b ≤ a * b := by
  have h1 := Int.mul_le_mul_of_nonneg_left hb (show 0 ≤ a by omega)
  have h2 := Int.mul_le_mul_of_nonneg_right ha (show 0 ≤ b by omega)
  omega
/-- Cut short where it is more than 64: it is the product, or both are more. -/
theorem prodE_pr : ∀ {l : List Int} {a : Int}, (∀ x ∈ l, 1 ≤ x) → 1 ≤ a → (prodE l a = a * pr l ∨ (64 < prodE l a ∧ 64 < a * pr l)) ∧ a ≤ prodE l a
  | [], a, _, _ => by simp [prodE, pr]
  | x :: l, a, h, ha => by
    have h1 := h x (by simp)
    have h2 := pr_pos (l := l) fun y hy => h y (List.mem_cons_of_mem _ hy)
    have h3 := mul_ge ha h1
    unfold prodE
    split
    · rename_i hg
      have h4 := mul_ge (show 1 ≤ a * x by omega) h2
      refine ⟨.inr ⟨hg, ?_⟩, by omega⟩
      simp only [pr]; rw [← Int.mul_assoc]; omega
    · obtain ⟨h5, h6⟩ := prodE_pr (l := l) (a := a * x) (fun y hy => h y (List.mem_cons_of_mem _ hy)) (by omega)
      refine ⟨?_, by omega⟩
      simp only [pr]; rw [← Int.mul_assoc]; exact h5
theorem prodE_le {l : List Int} (h : ∀ x ∈ l, 1 ≤ x) : (prodE l 1 ≤ 64 ↔ pr l ≤ 64) ∧ (pr l ≤ 64 → prodE l 1 = pr l) := by
  obtain ⟨h1, _⟩ := prodE_pr h (show (1 : Int) ≤ 1 by omega)
  rw [Int.one_mul] at h1
  omega
def odd (s : Int) : Bool := decide (s < 1) || decide (64 < s)
def mayB (xs : List Int) : Bool := decide (xs.length ≤ 16) && !xs.any odd && decide (prodE xs 1 ≤ 64)
theorem odd_not {xs : List Int} (h : xs.any odd = false) : ∀ x ∈ xs, 1 ≤ x ∧ x ≤ 64 := by
  intro x hx
  have := List.any_eq_false.1 h x hx
  simp [odd] at this; omega
/-- Shares that may be. -/
structure May (xs : List Int) : Prop where
  len : xs.length ≤ 16
  each : ∀ x ∈ xs, 1 ≤ x ∧ x ≤ 64
  prod : pr xs ≤ 64
theorem mayB_may {xs : List Int} : mayB xs = true ↔ May xs := by
  constructor
  · intro h
    simp only [mayB, Bool.and_eq_true, Bool.not_eq_true', decide_eq_true_eq] at h
    have h1 := odd_not h.1.2
    exact ⟨h.1.1, h1, ((prodE_le fun x hx => (h1 x hx).1).1).1 h.2⟩
  · intro h
    simp only [mayB, Bool.and_eq_true, Bool.not_eq_true', decide_eq_true_eq]
    refine ⟨⟨h.len, List.any_eq_false.2 fun x hx => ?_⟩, ((prodE_le fun x hx => (h.each x hx).1).1).2 h.prod⟩
    have := h.each x hx
    simp [odd]; omega
theorem May.prodE {xs : List Int} (h : May xs) : prodE xs 1 = pr xs := (prodE_le fun x hx => (h.each x hx).1).2 h.prod

/-! ### loads -/
def kF (sh : List Int) : List Int → List Int → Int → Int
  | _, [], k => k
  | seen, v :: r, k => kF sh (seen ++ [v]) r (if v ∈ seen then k else k * sh.getD v.toNat 1)
def ldF (sh : List Int) : List (List Int) → List Int → Int → Int
  | a :: as, s :: ss, n => ldF sh as ss (n + (s + kF sh [] a 1 - 1) / kF sh [] a 1)
  | _, _, n => n
def load (sh : List Int) (atoms : List (List Int)) (sizes : List Int) : Int := ldF sh atoms sizes 0
def restP : List Int → Int → List Int → Int
  | [], _, _ => 1
  | s :: l, i, seen => (if i ∈ seen then 1 else s) * restP l (i + 1) seen
theorem restP_pos : ∀ {l : List Int} {i : Int} {seen : List Int}, (∀ x ∈ l, 1 ≤ x) → 1 ≤ restP l i seen
  | [], _, _, _ => by simp [restP]
  | s :: l, i, seen, h => by
    have h1 := h s (by simp)
    have h2 := restP_pos (l := l) (i := i + 1) (seen := seen) fun y hy => h y (List.mem_cons_of_mem _ hy)
    unfold restP
    split
    · omega
    · have := mul_ge h1 h2; omega
theorem restP_nil : ∀ (l : List Int) (i : Int), restP l i [] = pr l
  | [], _ => rfl
  | s :: l, i => by simp [restP, pr, restP_nil l]
theorem restP_same : ∀ {l : List Int} {i v : Int} {seen : List Int}, (v ∈ seen ∨ v < i) → restP l i (seen ++ [v]) = restP l i seen
  | [], _, _, _, _ => rfl
  | s :: l, i, v, seen, h => by
    unfold restP
    rw [restP_same (l := l) (i := i + 1) (v := v) (seen := seen) (by rcases h with h | h; exact .inl h; exact .inr (by omega))]
    have : (i ∈ seen ++ [v]) ↔ i ∈ seen := by
      simp only [List.mem_append, List.mem_singleton]
      constructor
      · rintro (g | g)
        · exact g
        · subst g; rcases h with h | h
          · exact h
          · omega
      · exact .inl
    simp only [this]
theorem restP_add : ∀ {l : List Int} {i v : Int} {seen : List Int}, v ∉ seen → i ≤ v → v < i + l.length → restP l i seen = l.getD (v - i).toNat 1 * restP l i (seen ++ [v])
  | [], i, v, seen, _, h1, h2 => by simp at h2; omega
  | s :: l, i, v, seen, hv, h1, h2 => by
    unfold restP
    by_cases e : v = i
    · subst e
      rw [restP_same (l := l) (i := v + 1) (v := v) (seen := seen) (.inr (by omega))]
      simp [hv]
    · have e2 : (v - i).toNat = (v - (i + 1)).toNat + 1 := by omega
      rw [restP_add (l := l) (i := i + 1) (v := v) (seen := seen) hv (by omega) (by simp at h2; omega), e2, List.getD_cons_succ]
      have : (i ∈ seen ++ [v]) ↔ i ∈ seen := by
        simp only [List.mem_append, List.mem_singleton]
        constructor
        · rintro (g | g)
          · exact g
          · omega
        · exact .inl
      simp only [this]
      rw [Int.mul_left_comm]
theorem kF_le {sh : List Int} (hs : ∀ x ∈ sh, 1 ≤ x) : ∀ {r seen : List Int} {k : Int}, (∀ v ∈ r, 0 ≤ v ∧ v < sh.length) → 1 ≤ k → k * restP sh 0 seen = pr sh → 1 ≤ kF sh seen r k ∧ kF sh seen r k ≤ pr sh ∧ k ≤ kF sh seen r k
  | [], seen, k, _, hk, he => by
    have := mul_ge hk (restP_pos (l := sh) (i := 0) (seen := seen) hs)
    unfold kF; omega
  | v :: r, seen, k, h, hk, he => by
    have hv := h v (by simp)
    unfold kF
    by_cases hm : v ∈ seen
    · rw [if_pos hm]
      exact kF_le hs (fun w hw => h w (List.mem_cons_of_mem _ hw)) hk (by rw [restP_same (.inl hm)]; exact he)
    · rw [if_neg hm]
      have hg : 1 ≤ sh.getD v.toNat 1 := by
        have hlt : v.toNat < sh.length := by omega
        rw [List.getD_eq_getElem?_getD, List.getElem?_eq_getElem hlt]
        exact hs _ (List.getElem_mem hlt)
      have h1 := mul_ge hk hg
      have h2 := restP_add (l := sh) (i := 0) (v := v) (seen := seen) hm (by omega) (by omega)
      rw [Int.sub_zero] at h2
      have := kF_le hs (r := r) (seen := seen ++ [v]) (k := k * sh.getD v.toNat 1) (fun w hw => h w (List.mem_cons_of_mem _ hw)) (by omega) (by rw [Int.mul_assoc, ← h2]; exact he)
      omega
/-- An atom's share. -/
theorem k_range {sh a : List Int} (hs : ∀ x ∈ sh, 1 ≤ x) (hp : pr sh ≤ 64) (ha : ∀ v ∈ a, 0 ≤ v ∧ v < sh.length) : 1 ≤ kF sh [] a 1 ∧ kF sh [] a 1 ≤ 64 := by
  have := kF_le hs (r := a) (seen := []) (k := 1) ha (by omega) (by rw [restP_nil, Int.one_mul])
  omega
theorem ceil_range {s k : Int} (hs : 0 ≤ s) (hs2 : s ≤ 1048576) (hk : 1 ≤ k) : 0 ≤ (s + k - 1) / k ∧ (s + k - 1) / k ≤ 1048576 := by
  refine ⟨Int.ediv_nonneg (by omega) (by omega), ?_⟩
  apply Int.le_of_lt_add_one
  apply Int.ediv_lt_of_lt_mul (by omega)
  have h := mul_ge (show (1 : Int) ≤ 1048576 + 1 by omega) hk
  by_cases h0 : s = 0
  · subst h0; omega
  · have : (1048576 + 1 : Int) * k = 1048576 * k + k := by rw [Int.add_mul, Int.one_mul]
    have h3 := mul_ge (show (1 : Int) ≤ 1048576 by omega) hk
    omega

/-! ### all shares -/
def allF (f : Int → List (List Int)) (m : Int) : Nat → Int → List (List Int)
  | 0, _ => []
  | k + 1, s => (f (m / s)).map (s :: ·) ++ allF f m k (s + 1)
def allT : Nat → Int → List (List Int)
  | 0, _ => [[]]
  | v + 1, m => allF (allT v) m m.toNat 1
theorem allF_len {f : Int → List (List Int)} {m : Int} {B : Nat} : ∀ (k : Nat) (s : Int), 1 ≤ s → (∀ s, 1 ≤ s → (f (m / s)).length ≤ B) → (allF f m k s).length ≤ k * B
  | 0, _, _, _ => by simp [allF]
  | k + 1, s, hs, h => by
    have h1 := h s hs
    have h2 := allF_len k (s + 1) (by omega) h
    simp only [allF, List.length_append, List.length_map]
    rw [Nat.succ_mul]; omega
theorem div_range {m s : Int} (hm : 0 ≤ m) (hs : 1 ≤ s) : 0 ≤ m / s ∧ m / s ≤ m := ⟨Int.ediv_nonneg hm (by omega), Int.ediv_le_self _ hm⟩
theorem allT_len : ∀ (v : Nat) (m : Int), 0 ≤ m → (allT v m).length ≤ m.toNat ^ v
  | 0, m, _ => by simp [allT]
  | v + 1, m, hm => by
    have := allF_len (f := allT v) (m := m) (B := m.toNat ^ v) m.toNat 1 (by omega) (fun s hs => by
      have hd := div_range hm hs
      exact Nat.le_trans (allT_len v (m / s) hd.1) (Nat.pow_le_pow_left (by omega) v))
    simp only [allT]
    rw [Nat.pow_succ, Nat.mul_comm]; exact this
theorem allF_mem {f : Int → List (List Int)} {m : Int} {x : List Int} : ∀ (k : Nat) (s : Int), x ∈ allF f m k s ↔ ∃ j : Nat, j < k ∧ ∃ r ∈ f (m / (s + j)), x = (s + j) :: r
  | 0, s => by simp [allF]
  | k + 1, s => by
    simp only [allF, List.mem_append, List.mem_map, allF_mem k (s + 1)]
    constructor
    · rintro (⟨r, h1, rfl⟩ | ⟨j, hj, r, h1, rfl⟩)
      · exact ⟨0, by omega, r, by simpa using h1, by simp⟩
      · exact ⟨j + 1, by omega, r, by rw [show s + ((j + 1 : Nat) : Int) = s + 1 + j by push_cast; omega]; exact h1, by congr 1; push_cast; omega⟩
    · rintro ⟨j, hj, r, h1, rfl⟩
      cases j with
      | zero => exact .inl ⟨r, by simpa using h1, by simp⟩
      | succ j => exact .inr ⟨j, by omega, r, by rw [show s + 1 + (j : Int) = s + ((j + 1 : Nat) : Int) by push_cast; omega]; exact h1, by congr 1; push_cast; omega⟩
/-- All shares are those whose product is at most so much. -/
theorem allT_mem : ∀ (v : Nat) (m : Int) (x : List Int), 1 ≤ m → (x ∈ allT v m ↔ x.length = v ∧ (∀ y ∈ x, 1 ≤ y) ∧ pr x ≤ m)
  | 0, m, x, hm => by
    simp only [allT, List.mem_singleton]
    constructor
    · rintro rfl; exact ⟨rfl, by simp, by simpa [pr] using hm⟩
    · rintro ⟨h, _, _⟩; exact List.eq_nil_of_length_eq_zero h
  | v + 1, m, x, hm => by
    simp only [allT, allF_mem]
    constructor
    · rintro ⟨j, hj, r, h1, rfl⟩
      have hs : (1 : Int) ≤ 1 + j := by omega
      have hd : 1 ≤ m / (1 + j) := by rw [Int.le_ediv_iff_mul_le (by omega)]; omega
      obtain ⟨q1, q2, q3⟩ := (allT_mem v _ r hd).1 h1
      refine ⟨by simp [q1], ?_, ?_⟩
      · intro y hy; rcases List.mem_cons.1 hy with rfl | hy
        · exact hs
        · exact q2 y hy
      · rw [Int.le_ediv_iff_mul_le (by omega)] at q3
        simp only [pr]; rw [Int.mul_comm]; exact q3
    · rintro ⟨h1, h2, h3⟩
      cases x with
      | nil => simp at h1
      | cons y r =>
        have hy := h2 y (by simp)
        have hr : ∀ z ∈ r, 1 ≤ z := fun z hz => h2 z (List.mem_cons_of_mem _ hz)
        have hp := pr_pos hr
        simp only [pr] at h3
        have hm2 := mul_ge hy hp
        refine ⟨(y - 1).toNat, by omega, r, ?_, by congr 1; omega⟩
        rw [show (1 : Int) + ((y - 1).toNat : Int) = y by omega]
        have hd : pr r ≤ m / y := by rw [Int.le_ediv_iff_mul_le (by omega), Int.mul_comm]; exact h3
        exact (allT_mem v _ r (by omega)).2 ⟨by simpa using h1, hr, hd⟩
/-- The best, of some and one ahead. -/
def pickB (ld : List Int → Int) : List Int → List (List Int) → List Int
  | b, [] => b
  | b, x :: r => if ld x < ld b then pickB ld x r else pickB ld b r
theorem pickB_app (ld : List Int → Int) : ∀ (b : List Int) (l m : List (List Int)), pickB ld b (l ++ m) = pickB ld (pickB ld b l) m
  | b, [], m => rfl
  | b, x :: l, m => by simp only [List.cons_append, pickB]; split <;> exact pickB_app ld _ l m
theorem pickB_le (ld : List Int → Int) : ∀ (b : List Int) (l : List (List Int)), ld (pickB ld b l) ≤ ld b ∧ (∀ x ∈ l, ld (pickB ld b l) ≤ ld x) ∧ (pickB ld b l = b ∨ pickB ld b l ∈ l)
  | b, [] => by simp [pickB]
  | b, x :: l => by
    unfold pickB
    split
    · obtain ⟨h1, h2, h3⟩ := pickB_le ld x l
      refine ⟨by omega, fun y hy => ?_, .inr ?_⟩
      · rcases List.mem_cons.1 hy with rfl | hy
        · exact h1
        · exact h2 y hy
      · rcases h3 with h3 | h3
        · rw [h3]; simp
        · exact List.mem_cons_of_mem _ h3
    · obtain ⟨h1, h2, h3⟩ := pickB_le ld b l
      refine ⟨h1, fun y hy => ?_, ?_⟩
      · rcases List.mem_cons.1 hy with rfl | hy
        · omega
        · exact h2 y hy
      · rcases h3 with h3 | h3
        · exact .inl h3
        · exact .inr (List.mem_cons_of_mem _ h3)
/-- What the search knows: the best, and its load (less than 0: none). -/
def stepB (ld : List Int → Int) (bn : List Int × Int) (x : List Int) : List Int × Int := if bn.2 < 0 ∨ ld x < bn.2 then (x, ld x) else bn
theorem foldB (ld : List Int → Int) (h0 : ∀ x, 0 ≤ ld x ∨ True) : ∀ (l : List (List Int)) (b : List Int), (∀ x ∈ l, 0 ≤ ld x) → 0 ≤ ld b → l.foldl (stepB ld) (b, ld b) = (pickB ld b l, ld (pickB ld b l))
  | [], b, _, _ => rfl
  | x :: l, b, h, hb => by
    have hx := h x (by simp)
    have ih := fun c hc => foldB ld h0 l c (fun y hy => h y (List.mem_cons_of_mem _ hy)) hc
    simp only [List.foldl_cons, stepB, pickB]
    by_cases hlt : ld x < ld b
    · simp only [hlt, or_true, if_true]; exact ih x hx
    · simp only [hlt, or_false, show ¬ ld b < 0 from by omega, if_false]; exact ih b hb

/-! ### routes -/
def pt (w : List UInt8) (sum : List UInt8 → Nat) (k : Int) : Int := if k < 1 ∨ 64 < k then 0 else (sum (w ++ [35]) : Int) % k
theorem pt_range {w : List UInt8} {sum : List UInt8 → Nat} {k : Int} (h : 1 ≤ k ∧ k ≤ 64) : 0 ≤ pt w sum k ∧ pt w sum k < k := by
  unfold pt; rw [if_neg (by omega)]
  exact ⟨Int.emod_nonneg _ (by omega), Int.emod_lt_of_pos _ (by omega)⟩
/-- The parts that are fixed; none: two words of one variable have unlike parts. -/
def fixF (P : List UInt8 → Int → Int) (sh : List Int) : List Int → List (List UInt8) → List Int → Option (List Int)
  | v :: vs, w :: ws, fx => if 0 ≤ fx.getD v.toNat (-1) ∧ fx.getD v.toNat (-1) ≠ P w (sh.getD v.toNat 1) then none else fixF P sh vs ws (fx.set v.toNat (P w (sh.getD v.toNat 1)))
  | _, _, fx => some fx
def keepB (f k : Int) : Bool := decide (f < 0) || decide (f = k)
def inO (f s c : Int) : Nat → Int → List Int
  | 0, _ => []
  | m + 1, k => (if keepB f k then [c * s + k] else []) ++ inO f s c m (k + 1)
def stepO (s f : Int) (out : List Int) : List Int := out.flatMap fun c => inO f s c s.toNat 0
def outF : List Int → List Int → List Int → List Int
  | s :: ss, f :: fs, out => outF ss fs (stepO s f out)
  | _, _, out => out
theorem inO_len (f s c : Int) : ∀ (m : Nat) (k : Int), (inO f s c m k).length ≤ m
  | 0, _ => by simp [inO]
  | m + 1, k => by
    have := inO_len f s c m (k + 1)
    unfold inO
    rw [List.length_append]
    split <;> simp <;> omega
theorem inO_mem {f s c x : Int} : ∀ (m : Nat) (k : Int), x ∈ inO f s c m k ↔ ∃ j : Nat, j < m ∧ keepB f (k + j) = true ∧ x = c * s + (k + j)
  | 0, _ => by simp [inO]
  | m + 1, k => by
    simp only [inO, List.mem_append, inO_mem m (k + 1)]
    constructor
    · rintro (h | ⟨j, h1, h2, h3⟩)
      · split at h
        · rename_i hk
          exact ⟨0, by omega, by simpa using hk, by simpa using h⟩
        · simp at h
      · refine ⟨j + 1, by omega, ?_, ?_⟩
        · rw [show k + ((j + 1 : Nat) : Int) = k + 1 + j by push_cast; omega]; exact h2
        · rw [show k + ((j + 1 : Nat) : Int) = k + 1 + j by push_cast; omega]; exact h3
    · rintro ⟨j, h1, h2, h3⟩
      cases j with
      | zero =>
        left
        rw [show k + ((0 : Nat) : Int) = k by simp] at h2 h3
        rw [if_pos h2]; simp [h3]
      | succ j =>
        refine .inr ⟨j, by omega, ?_, ?_⟩
        · rw [show k + 1 + (j : Int) = k + ((j + 1 : Nat) : Int) by push_cast; omega]; exact h2
        · rw [show k + 1 + (j : Int) = k + ((j + 1 : Nat) : Int) by push_cast; omega]; exact h3
theorem stepO_len {s f : Int} : ∀ (out : List Int), (stepO s f out).length ≤ out.length * s.toNat
  | [] => by simp [stepO]
  | c :: out => by
    have h1 := inO_len f s c s.toNat 0
    have h2 := stepO_len (s := s) (f := f) out
    unfold stepO at h2 ⊢
    rw [List.flatMap_cons, List.length_append, List.length_cons, Nat.succ_mul]; omega
theorem digit_lt {c k s m : Int} (hc : 0 ≤ c ∧ c < m) (hk : 0 ≤ k ∧ k < s) : 0 ≤ c * s + k ∧ c * s + k < m * s := by
  have h1 := Int.mul_nonneg hc.1 (show 0 ≤ s by omega)
  have h2 : (c + 1) * s ≤ m * s := Int.mul_le_mul_of_nonneg_right (by omega) (by omega)
  rw [Int.add_mul, Int.one_mul] at h2
  omega
theorem stepO_range {s f m : Int} {out : List Int} (h : ∀ c ∈ out, 0 ≤ c ∧ c < m) : ∀ x ∈ stepO s f out, 0 ≤ x ∧ x < m * s := by
  intro x hx
  obtain ⟨c, hc, hx⟩ := List.mem_flatMap.1 hx
  obtain ⟨j, hj, _, rfl⟩ := (inO_mem _ _).1 hx
  exact digit_lt (h c hc) ⟨by omega, by omega⟩
theorem fixF_len {P : List UInt8 → Int → Int} {sh : List Int} : ∀ {vs : List Int} {ws : List (List UInt8)} {fx fy : List Int}, fixF P sh vs ws fx = some fy → fy.length = fx.length
  | [], ws, fx, fy, h => by simp [fixF] at h; rw [h]
  | v :: vs, [], fx, fy, h => by simp [fixF] at h; rw [h]
  | v :: vs, w :: ws, fx, fy, h => by
    unfold fixF at h
    split at h
    · cases h
    · have := fixF_len h; simpa using this
end Sh13
end Go.Ab
