import Derived.Test.YtiegejeleanfbaaAbS13f
import Derived.Test.YtiegejeleanfbaaAbIn
/- sinewlaw13: ShareShares, ShareLeast, ShareMore. -/
namespace Go.Ab
open Go.Proofs Go.RowKit Sh13
set_option linter.unusedVariables false
set_option linter.unusedSimpArgs false
theorem rshares_i {st : St} (w v : Int) (atoms : List (List Int)) (sizes : List Int) (t u : Nat) (hl : atoms.length ≤ 9223372036854775807) (hl2 : sizes.length ≤ 9223372036854775807) (hs : ∀ a ∈ atoms, a.length ≤ 9223372036854775806)
    (hcap : askB w v atoms sizes = true → w.toNat ^ v.toNat ≤ 1073741824) :
    s13 [.int .i64 w, .int .i64 v, .lst (intssV atoms) t, .lst (intsV sizes) u] st =
      some (.ret (if askB w v atoms sizes then .tup [.lst (intsV (bestS w v.toNat fun x => Sh13.load x atoms sizes)) 0, .int .i64 0] else .tup [.lst [] 0, .int .i64 1]), st) := by
  by_cases hv : 0 ≤ v ∧ v ≤ 100
  · obtain ⟨n, rfl⟩ : ∃ n : Nat, v = (n : Nat) := ⟨v.toNat, by omega⟩
    exact rshares_s w n hv.2 atoms sizes t u hl hl2 hs (by simpa using hcap)
  · have hb : askB w v atoms sizes = false := by
      unfold askB; rw [decide_eq_false (by omega), Bool.false_and]
    have ha := asks_s (st := st) w v atoms sizes t u hl hl2 (fun a h => by have := hs a h; omega)
    rw [s13_eq]
    rw [fg_of (v := .tup [.lst [] 1, .int .i64 1]) (st' := st) (by unfold f13; simp [ha, hb]) (Ks.refl st) (by simp), hb]
    simp
theorem cap_ok {w v : Int} (h : 1 ≤ w ∧ w ≤ 64 ∧ 0 ≤ v ∧ v ≤ 6) (h2 : w ≤ 16 ∨ v ≤ 4) : w.toNat ^ v.toNat ≤ 1073741824 := by
  rcases h2 with h2 | h2
  · refine Nat.le_trans (Nat.pow_le_pow_left (show w.toNat ≤ 16 by omega) _) ?_
    exact Nat.le_trans (Nat.pow_le_pow_right (by omega) (show v.toNat ≤ 6 by omega)) (by decide)
  · refine Nat.le_trans (Nat.pow_le_pow_left (show w.toNat ≤ 64 by omega) _) ?_
    exact Nat.le_trans (Nat.pow_le_pow_right (by omega) (show v.toNat ≤ 4 by omega)) (by decide)
theorem ask_range {w v : Int} {atoms : List (List Int)} {sizes : List Int} (h : askB w v atoms sizes = true) : 1 ≤ w ∧ w ≤ 64 ∧ 0 ≤ v ∧ v ≤ 6 := by
  simp only [askB, Bool.and_eq_true, decide_eq_true_eq] at h; omega
theorem bestS_len {w : Int} {v : Nat} (hw : 1 ≤ w) (ld : List Int → Int) : bestS w v ld ∈ allT v w := by
  have hp := allT_pos v hw
  rw [bestS, bestL_eq _ hp]
  rcases (pickB_le ld (allT v w)[0] ((allT v w).drop 1)).2.2 with h | h
  · rw [h]; exact List.getElem_mem hp
  · exact List.mem_of_mem_drop h
theorem bestS_le {w : Int} {v : Nat} (hw : 1 ≤ w) (ld : List Int → Int) {x : List Int} (hx : x ∈ allT v w) : ld (bestS w v ld) ≤ ld x := by
  have hp := allT_pos v hw
  rw [bestS, bestL_eq _ hp]
  have h := pickB_le ld (allT v w)[0] ((allT v w).drop 1)
  obtain ⟨i, hi, rfl⟩ := List.mem_iff_getElem.1 hx
  by_cases h0 : i = 0
  · subst h0; exact h.1
  · refine h.2.1 _ ?_
    have : (allT v w).drop 1 = (allT v w).drop 1 := rfl
    rw [List.mem_iff_getElem]
    exact ⟨i - 1, by simp; omega, by simp; congr 1; omega⟩
variable {st : St}
theorem shares_fin (a b : Int) (atoms : List (List Int)) (sizes : List Int) (t u p : Nat) (hp : st.ob p = some (.cells [.int .i64 a, .int .i64 b])) (hl : atoms.length ≤ 9223372036854775807) (hl2 : sizes.length ≤ 9223372036854775807) (hs : ∀ a ∈ atoms, a.length ≤ 9223372036854775806) (hc : a ≤ 16 ∨ 64 < a ∨ b ≤ 4 ∨ 6 < b) :
    g3b11 (.lst (intssV atoms) t) (.lst (intsV sizes) u) (.ptr p 0) st = some (.ret (.bool true), st) := by
  have h1 := shares_s (st := st) a b atoms sizes t u hl hl2 hs
  have h2 := rshares_i (st := st) a b atoms sizes t u hl hl2 hs (fun h => by have := ask_range h; exact cap_ok this (by omega))
  unfold g3b11 g3b111 g3b1111
  simp only [iaddrA_ptr, Int.le_refl, show (0 : Int) < ((2 : Nat) : Int) from by decide, and_self, if_true, Int.toNat_zero, Nat.zero_mul, Nat.add_zero, load_ob, hp, obo_some, List.getElem?_cons_zero, ob_some', show (0 : Int) ≤ 1 from by decide, show (1 : Int) < ((2 : Nat) : Int) from by decide, Int.toNat_one, Nat.one_mul, Nat.zero_add, List.getElem?_cons_succ, er1_int, er1_lst, h1, h2, ret_ret]
  cases hb : askB a b atoms sizes with
  | true =>
    have hlen : (bestS a b.toNat fun x => Sh13.load x atoms sizes).length ≤ 9223372036854775807 := by
      have := ask_range hb
      have := ((allT_mem b.toNat a _ this.1).1 (bestS_len this.1 fun x => Sh13.load x atoms sizes)).1
      rw [this]; omega
    simp [same_s (st := st) _ _ 0 0 hlen]
  | false =>
    have h0 := same_s (st := st) [] [] 0 0 (by simp)
    rw [intsV_nil] at h0
    simp [h0]
theorem shareShares_law (a b : Int) (atoms : List (List Int)) (sizes : List Int) (t u : Nat) (hl : atoms.length ≤ 9223372036854775807) (hl2 : sizes.length ≤ 9223372036854775807) (hs : ∀ a ∈ atoms, a.length ≤ 9223372036854775807) :
    ∃ st', s3 [.agg [.int .i64 a, .int .i64 b], .lst (intssV atoms) t, .lst (intsV sizes) u] st = some (.ret (.bool true), st') := by
  refine ⟨st.new (.cells [.int .i64 a, .int .i64 b]), ?_⟩
  have hp : (st.new (.cells [.int .i64 a, .int .i64 b])).ob st.n = some (.cells [.int .i64 a, .int .i64 b]) := new_at _ _
  rw [s3_eq]; unfold f3
  rw [box_agg _ _ _ rfl]
  generalize st.new (.cells [.int .i64 a, .int .i64 b]) = z at hp
  obtain ⟨lb, hlb, hlt⟩ := light_s (st := z) atoms t hl hs
  simp only [er1_lst, hlb, ret_ret, un_not]
  cases lb with
  | false => simp
  | true =>
    obtain ⟨k1, k2⟩ := hlt rfl
    have fin := fun hc => shares_fin (st := z) a b atoms sizes t u st.n hp hl hl2 (fun x hx => by have := k2 x hx; omega) hc
    simp only [Bool.not_true, guard_ff, iaddrA_ptr, Int.le_refl, show (0 : Int) < ((2 : Nat) : Int) from by decide, and_self, if_true, Int.toNat_zero, Nat.zero_mul, Nat.add_zero, load_ob, hp, obo_some, List.getElem?_cons_zero, ob_some', show (0 : Int) ≤ 1 from by decide, show (1 : Int) < ((2 : Nat) : Int) from by decide, Int.toNat_one, Nat.one_mul, Nat.zero_add, List.getElem?_cons_succ, bin_gtr, bin_leq]
    by_cases c1 : 16 < a
    · by_cases c2 : a ≤ 64
      · by_cases c3 : 4 < b
        · by_cases c4 : b ≤ 6
          · simp [c1, c2, c3, c4]
          · simp [c1, c2, c3, c4, fin (by omega)]
        · simp [c1, c2, c3, fin (by omega)]
      · simp [c1, c2, fin (by omega)]
    · simp [c1, fin (by omega)]
end Go.Ab
