import Derived.Test.YtiegejeleanfbaaAbSpec
/- The plain words of layer 13: products, loads, all shares. -/
namespace Go.Ab
open Go.RowKit
set_option linter.unusedVariables false
set_option linter.unusedSimpArgs false
namespace Sh13
def prodE : List Int → Int → Int
  | [], a => a
  | x :: l, a => if 64 < a * x then a * x else prodE l (a * x)
def pr : List Int → Int
  | [] => 1
  | x :: l => x * pr l
theorem pr_pos : ∀ {l : List Int}, (∀ x ∈ l, 1 ≤ x) → 1 ≤ pr l
  | [], _ => by simp [pr]
  | x :: l, h => by
    have h1 := h x (by simp)
    have h2 := pr_pos (l := l) fun y hy => h y (List.mem_cons_of_mem _ hy)
    have := Int.mul_le_mul h1 h2 (by omega) (by omega)
    simpa [pr] using this
theorem pr_app : ∀ (l m : List Int), pr (l ++ m) = pr l * pr m
  | [], m => by simp [pr]
  | x :: l, m => by simp [pr, pr_app l m, Int.mul_assoc]
theorem mul_ge {a b : Int} (ha : 1 ≤ a) (hb : 1 ≤ b) : a ≤ a * b ∧ b ≤ a * b := by
  have h1 := Int.mul_le_mul_of_nonneg_left hb (show 0 ≤ a by omega)
  have h2 := Int.mul_le_mul_of_nonneg_right ha (show 0 ≤ b by omega)
  omega
/-- Cut short where it is more than 64: it is the product, or both are more. -/
theorem prodE_pr : ∀ {l : List Int} {a : Int}, (∀ x ∈ l, 1 ≤ x) → 1 ≤ a → (prodE l a = a * pr l ∨ (64 < prodE l a ∧ 64 < a * pr l)) ∧ a ≤ prodE l a
  | [], a, _, _ => by simp [prodE, pr]
  | x :: l, a, h, ha => by
    have h1 := h x (by simp)
    have h2 := pr_pos (l := l) fun y hy => h y (List.mem_cons_of_mem _ hy)
    have h3 := mul_ge ha h1
    unfold prodE
    split
    · rename_i hg
      have h4 := mul_ge (show 1 ≤ a * x by omega) h2
      refine ⟨.inr ⟨hg, ?_⟩, by omega⟩
      simp only [pr]; rw [← Int.mul_assoc]; omega
    · obtain ⟨h5, h6⟩ := prodE_pr (l := l) (a := a * x) (fun y hy => h y (List.mem_cons_of_mem _ hy)) (by omega)
      refine ⟨?_, by omega⟩
      simp only [pr]; rw [← Int.mul_assoc]; exact h5
theorem prodE_le {l : List Int} (h : ∀ x ∈ l, 1 ≤ x) : (prodE l 1 ≤ 64 ↔ pr l ≤ 64) ∧ (pr l ≤ 64 → prodE l 1 = pr l) := by
  obtain ⟨h1, _⟩ := prodE_pr h (show (1 : Int) ≤ 1 by omega)
  rw [Int.one_mul] at h1
  omega
def odd (s : Int) : Bool := decide (s < 1) || decide (64 < s)
def mayB (xs : List Int) : Bool := decide (xs.length ≤ 16) && !xs.any odd && decide (prodE xs 1 ≤ 64)
theorem odd_not {xs : List Int} (h : xs.any odd = false) : ∀ x ∈ xs, 1 ≤ x ∧ x ≤ 64 := by
  intro x hx
  have := List.any_eq_false.1 h x hx
  simp [odd] at this; omega
/-- Shares that may be. -/
structure May (xs : List Int) : Prop where
  len : xs.length ≤ 16
  each : ∀ x ∈ xs, 1 ≤ x ∧ x ≤ 64
  prod : pr xs ≤ 64
theorem mayB_may {xs : List Int} : mayB xs = true ↔ May xs := by
  constructor
  · intro h
    simp only [mayB, Bool.and_eq_true, Bool.not_eq_true', decide_eq_true_eq] at h
    have h1 := odd_not h.1.2
    exact ⟨h.1.1, h1, ((prodE_le fun x hx => (h1 x hx).1).1).1 h.2⟩
  · intro h
    simp only [mayB, Bool.and_eq_true, Bool.not_eq_true', decide_eq_true_eq]
    refine ⟨⟨h.len, List.any_eq_false.2 fun x hx => ?_⟩, ((prodE_le fun x hx => (h.each x hx).1).1).2 h.prod⟩
    have := h.each x hx
    simp [odd]; omega
theorem May.prodE {xs : List Int} (h : May xs) : prodE xs 1 = pr xs := (prodE_le fun x hx => (h.each x hx).1).2 h.prod

/-! ### loads -/
def kF (sh : List Int) : List Int → List Int → Int → Int
  | _, [], k => k
  | seen, v :: r, k => kF sh (seen ++ [v]) r (if v ∈ seen then k else k * sh.getD v.toNat 1)
def ldF (sh : List Int) : List (List Int) → List Int → Int → Int
  | a :: as, s :: ss, n => ldF sh as ss (n + (s + kF sh [] a 1 - 1) / kF sh [] a 1)
  | _, _, n => n
def load (sh : List Int) (atoms : List (List Int)) (sizes : List Int) : Int := ldF sh atoms sizes 0
def restP : List Int → Int → List Int → Int
  | [], _, _ => 1
  | s :: l, i, seen => (if i ∈ seen then 1 else s) * restP l (i + 1) seen
theorem restP_pos : ∀ {l : List Int} {i : Int} {seen : List Int}, (∀ x ∈ l, 1 ≤ x) → 1 ≤ restP l i seen
  | [], _, _, _ => by simp [restP]
  | s :: l, i, seen, h => by
    have h1 := h s (by simp)
    have h2 := restP_pos (l := l) (i := i + 1) (seen := seen) fun y hy => h y (List.mem_cons_of_mem _ hy)
    unfold restP
    split
    · omega
    · have := mul_ge h1 h2; omega
theorem restP_nil : ∀ (l : List Int) (i : Int), restP l i [] = pr l
  | [], _ => rfl
  | s :: l, i => by simp [restP, pr, restP_nil l]
theorem restP_same : ∀ {l : List Int} {i v : Int} {seen : List Int}, (v ∈ seen ∨ v < i) → restP l i (seen ++ [v]) = restP l i seen
  | [], _, _, _, _ => rfl
  | s :: l, i, v, seen, h => by
    unfold restP
    rw [restP_same (l := l) (i := i + 1) (v := v) (seen := seen) (by rcases h with h | h; exact .inl h; exact .inr (by omega))]
    have : (i ∈ seen ++ [v]) ↔ i ∈ seen := by
      simp only [List.mem_append, List.mem_singleton]
      constructor
      · rintro (g | g)
        · exact g
        · subst g; rcases h with h | h
          · exact h
          · omega
      · exact .inl
    simp only [this]
theorem restP_add : ∀ {l : List Int} {i v : Int} {seen : List Int}, v ∉ seen → i ≤ v → v < i + l.length → restP l i seen = l.getD (v - i).toNat 1 * restP l i (seen ++ [v])
  | [], i, v, seen, _, h1, h2 => by simp at h2; omega
  | s :: l, i, v, seen, hv, h1, h2 => by
    unfold restP
    by_cases e : v = i
    · subst e
      rw [restP_same (l := l) (i := v + 1) (v := v) (seen := seen) (.inr (by omega))]
      simp [hv]
    · have e2 : (v - i).toNat = (v - (i + 1)).toNat + 1 := by omega
      rw [restP_add (l := l) (i := i + 1) (v := v) (seen := seen) hv (by omega) (by simp at h2; omega), e2, List.getD_cons_succ]
      have : (i ∈ seen ++ [v]) ↔ i ∈ seen := by
        simp only [List.mem_append, List.mem_singleton]
        constructor
        · rintro (g | g)
          · exact g
          · omega
        · exact .inl
      simp only [this]
      rw [Int.mul_left_comm]
theorem kF_le {sh : List Int} (hs : ∀ x ∈ sh, 1 ≤ x) : ∀ {r seen : List Int} {k : Int}, (∀ v ∈ r, 0 ≤ v ∧ v < sh.length) → 1 ≤ k → k * restP sh 0 seen = pr sh → 1 ≤ kF sh seen r k ∧ kF sh seen r k ≤ pr sh ∧ k ≤ kF sh seen r k
  | [], seen, k, _, hk, he => by
    have := mul_ge hk (restP_pos (l := sh) (i := 0) (seen := seen) hs)
    unfold kF; omega
  | v :: r, seen, k, h, hk, he => by
    have hv := h v (by simp)
    unfold kF
    by_cases hm : v ∈ seen
    · rw [if_pos hm]
      exact kF_le hs (fun w hw => h w (List.mem_cons_of_mem _ hw)) hk (by rw [restP_same (.inl hm)]; exact he)
    · rw [if_neg hm]
      have hg : 1 ≤ sh.getD v.toNat 1 := by
        have hlt : v.toNat < sh.length := by omega
        rw [List.getD_eq_getElem?_getD, List.getElem?_eq_getElem hlt]
        exact hs _ (List.getElem_mem hlt)
      have h1 := mul_ge hk hg
      have h2 := restP_add (l := sh) (i := 0) (v := v) (seen := seen) hm (by omega) (by omega)
      rw [Int.sub_zero] at h2
      have := kF_le hs (r := r) (seen := seen ++ [v]) (k := k * sh.getD v.toNat 1) (fun w hw => h w (List.mem_cons_of_mem _ hw)) (by omega) (by rw [Int.mul_assoc, ← h2]; exact he)
      omega
/-- An atom's share. -/
theorem k_range {sh a : List Int} (hs : ∀ x ∈ sh, 1 ≤ x) (hp : pr sh ≤ 64) (ha : ∀ v ∈ a, 0 ≤ v ∧ v < sh.length) : 1 ≤ kF sh [] a 1 ∧ kF sh [] a 1 ≤ 64 := by
  have := kF_le hs (r := a) (seen := []) (k := 1) ha (by omega) (by rw [restP_nil, Int.one_mul])
  omega
theorem ceil_range {s k : Int} (hs : 0 ≤ s) (hs2 : s ≤ 1048576) (hk : 1 ≤ k) : 0 ≤ (s + k - 1) / k ∧ (s + k - 1) / k ≤ 1048576 := by
  refine ⟨Int.ediv_nonneg (by omega) (by omega), ?_⟩
  apply Int.le_of_lt_add_one
  apply Int.ediv_lt_of_lt_mul (by omega)
  have h := mul_ge (show (1 : Int) ≤ 1048576 + 1 by omega) hk
  by_cases h0 : s = 0
  · subst h0; omega
  · have : (1048576 + 1 : Int) * k = 1048576 * k + k := by rw [Int.add_mul, Int.one_mul]
    have h3 := mul_ge (show (1 : Int) ≤ 1048576 by omega) hk
    omega
end Sh13
end Go.Ab
