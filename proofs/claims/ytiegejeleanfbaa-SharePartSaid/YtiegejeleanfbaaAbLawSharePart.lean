import Derived.Test.YtiegejeleanfbaaAbS13b
import Derived.Test.YtiegejeleanfbaaAbIn
/- sinewlaw13.SharePart. -/
namespace Go.Ab
open Go.Proofs Go.RowKit Sh13
set_option linter.unusedVariables false
set_option linter.unusedSimpArgs false
theorem mod_mod2 (a : Int) : a % 64 % 2 = a % 2 := by omega
theorem bin_and63 (x : Int) (K : V → Res) : A.bin .and (.int .i64 x) (.int .i64 63) K = K (.int .i64 (low 64 x : Nat)) := bin_andN 6 63 rfl (by decide) K
theorem sharePart_law (w : List UInt8) (p : Int) (st : St) (hw : w.length ≤ 9223372036854775807) : ∃ st', s7 [.str w, .int .i64 p] st = some (.ret (.bool true), st') := by
  refine ⟨st, ?_⟩
  rw [s7_eq]; unfold f7
  simp only [lenS_str, bin_gtr]
  by_cases hl : 4096 < w.length
  · have : ((4096 : Int) < w.length) := by omega
    simp [this]
  · have h0 : ¬ ((4096 : Int) < w.length) := by omega
    have ps := fun k => part_s (st := st) w (by omega) k
    have ea := bin_and63 p
    have hlow := low_lt 64 p (by decide)
    have hn := Crc.sum_lt (w ++ [35])
    generalize low 64 p = k at hlow ea
    generalize Crc.sum (w ++ [35]) = n at ps hn
    have e1 : ∀ K, A.bin .add (.int .i64 1) (.int .i64 (k : Nat)) K = K (.int .i64 (1 + k)) := fun K => bin_add K (by omega) (by omega)
    have hk : ¬ ((1 : Int) + k < 1 ∨ 64 < (1 : Int) + k) := by omega
    have m1 : 0 ≤ (n : Int) % (1 + k) := Int.emod_nonneg _ (by omega)
    have m2 : (n : Int) % (1 + k) < 1 + k := Int.emod_lt_of_pos _ (by omega)
    have r2 : ∀ K, A.bin .rem (.int .i64 ((n : Int) % 64)) (.int .i64 2) K = K (.int .i64 ((n : Int) % 64 % 2)) := fun K => by
      rw [bin_rem _ (by omega), Int.tmod_eq_emod_of_nonneg (by omega)]
    simp only [h0, decide_false, cond_false, ea, er1_str, er1_int, e1, ps, hk, if_false, ret_ret, g7b1111, bin_geq, bin_lss, m1, m2, decide_true, guard_tt, g7b11110_8, g7b11110_18, g7b11110_31]
    simp [r2, mod_mod2]
theorem sharePart_row {W : World} {v0 v1 : Value} {x0 x1 : V} {n0 n1 : Nat}
    (r0 : Rs (E0 W) [x0] [v0]) (s0 : Sh Try.prog n0 9 x0.cells) (f0 : fit Try.prog 9 x0)
    (r1 : Rs (E0 W) [x1] [v1]) (s1 : Sh Try.prog n1 3 x1.cells) (f1 : fit Try.prog 3 x1) :
    Calls Try.prog 7 #[v0, v1] W fun e w' => e = .returned (.bool true) ∧ Below W.heap.size W w' := by
  obtain ⟨w, hx, hw⟩ := s0.str Try.underlying9
  obtain ⟨p, hy, hp⟩ := s1.int Try.underlying3
  rw [fit_one f0 (by kernel_rfl)] at hx
  rw [fit_one f1 (by kernel_rfl)] at hy
  cases hx; cases hy
  obtain ⟨st', hs⟩ := sharePart_law w p St0 (by simpa [maxLen] using hw)
  exact bool_row sim7 W _ _ _ hs (Rs.cons r0 r1)
end Go.Ab
