import Derived.Test.YtiegejeleanfbaaAbLawShares
import Derived.Test.YtiegejeleanfbaaAbIn2
/- sinewlaw13.ShareMore: more workers, no more load; of one worker all shares are 1. -/
namespace Go.Ab
open Go.Proofs Go.RowKit Sh13
set_option linter.unusedVariables false
set_option linter.unusedSimpArgs false
theorem bslice_ones (K : V → Res) : A.bslice 1 (.int .i64 0) 4 [(0, (.int .i64 1)), (1, (.int .i64 1)), (2, (.int .i64 1)), (3, (.int .i64 1))] K = K (.lst (intsV [1, 1, 1, 1]) 2) := by simp [A.bslice, setP, intsV, V.er, List.replicate]
theorem ask_mono {w w' v : Int} {atoms : List (List Int)} {sizes : List Int} (h : 1 ≤ w ∧ w ≤ 64) (h' : 1 ≤ w' ∧ w' ≤ 64) : askB w v atoms sizes = askB w' v atoms sizes := by
  unfold askB; congr 1; rw [decide_eq_decide]; omega
theorem ones_of : ∀ {l : List Int}, (∀ x ∈ l, 1 ≤ x) → pr l ≤ 1 → l = List.replicate l.length 1
  | [], _, _ => rfl
  | x :: l, h, hp => by
    have h1 := h x (by simp)
    have h2 := pr_pos (l := l) fun y hy => h y (List.mem_cons_of_mem _ hy)
    simp only [pr] at hp
    have h3 := mul_ge h1 h2
    have hx : x = 1 := by omega
    subst hx
    rw [List.length_cons, List.replicate_succ, ← ones_of (l := l) (fun y hy => h y (List.mem_cons_of_mem _ hy)) (by omega)]
theorem shareMore_law {st : St} (a b : Int) (atoms : List (List Int)) (sizes : List Int) (t u : Nat) (hl : atoms.length ≤ 9223372036854775807) (hl2 : sizes.length ≤ 9223372036854775807) (hs : ∀ a ∈ atoms, a.length ≤ 9223372036854775807) :
    ∃ st', s9 [.agg [.int .i64 a, .int .i64 b], .lst (intssV atoms) t, .lst (intsV sizes) u] st = some (.ret (.bool true), st') := by
  refine ⟨st.new (.cells [.int .i64 a, .int .i64 b]), ?_⟩
  have hp : (st.new (.cells [.int .i64 a, .int .i64 b])).ob st.n = some (.cells [.int .i64 a, .int .i64 b]) := new_at _ _
  rw [s9_eq]; unfold f9
  rw [box_agg _ _ _ rfl]
  generalize st.new (.cells [.int .i64 a, .int .i64 b]) = z at hp
  obtain ⟨lb, hlb, hlt⟩ := light_s (st := z) atoms t hl hs
  simp only [er1_lst, hlb, ret_ret, un_not]
  cases lb with
  | false => simp
  | true =>
    obtain ⟨k1, k2⟩ := hlt rfl
    have hs' : ∀ x ∈ atoms, x.length ≤ 9223372036854775806 := fun x hx => by have := k2 x hx; omega
    have hw : ∀ (c : Int), ∃ w : Int, (1 ≤ w ∧ w ≤ 24) ∧ ∀ K : V → Res, (A.bin .and (.int .i64 c) (.int .i64 65535) fun a10 => A.bin .rem a10 (.int .i64 24) fun a11 => A.bin .add (.int .i64 1) a11 fun a12 => K a12) = K (.int .i64 w) := by
      intro c
      have hlow := low_lt 65536 c (by decide)
      refine ⟨1 + ((low 65536 c % 24 : Nat) : Int), by omega, fun K => ?_⟩
      rw [bin_and65535, show (24 : Int) = ((24 : Nat) : Int) from rfl, bin_remN _ _ _ (by decide), bin_add _ (by omega) (by omega)]
    obtain ⟨w1, hw1, e1⟩ := hw a
    obtain ⟨w2, hw2, e2⟩ := hw b
    simp only [Bool.not_true, cond_false, iaddrA_ptr, Int.le_refl, show (0 : Int) < ((2 : Nat) : Int) from by decide, and_self, if_true, Int.toNat_zero, Nat.zero_mul, Nat.add_zero, load_ob, hp, obo_some, List.getElem?_cons_zero, ob_some', show (0 : Int) ≤ 1 from by decide, show (1 : Int) < ((2 : Nat) : Int) from by decide, Int.toNat_one, Nat.one_mul, Nat.zero_add, List.getElem?_cons_succ]
    rw [e1, e2]
    have key : ∀ lo hi : Int, 1 ≤ lo → lo ≤ hi → hi ≤ 24 → (∀ K : V → Res, A.min (.int .i64 w1) (.int .i64 w2) K = K (.int .i64 lo)) → (∀ K : V → Res, A.max (.int .i64 w1) (.int .i64 w2) K = K (.int .i64 hi)) →
        g9b111 (.lst (intssV atoms) t) (.lst (intsV sizes) u) (.int .i64 w1) (.int .i64 w2) z = some (.ret (.bool true), z) := by
      intro lo hi h0 h1 h2 hmin hmax
      have s1 := shares_s (st := z) lo 4 atoms sizes t u hl hl2 hs'
      have s2 := shares_s (st := z) hi 4 atoms sizes t u hl hl2 hs'
      have s3 := shares_s (st := z) 1 4 atoms sizes t u hl hl2 hs'
      rw [ask_mono (w' := lo) ⟨by omega, by omega⟩ ⟨by omega, by omega⟩] at s2 s3
      unfold g9b111 g9b11111
      simp only [hmin, hmax, er1_int, er1_lst, s1, s2, s3, ret_ret]
      cases hb : askB lo 4 atoms sizes with
      | false =>
        simp [g9b1111111, g9b111111101, g9b11111110100_9, hb]
      | true =>
        have hb2 : askB hi 4 atoms sizes = true := by rw [← hb]; exact ask_mono ⟨by omega, by omega⟩ ⟨by omega, by omega⟩
        have hb1 : askB 1 4 atoms sizes = true := by rw [← hb]; exact ask_mono ⟨by omega, by omega⟩ ⟨by omega, by omega⟩
        have m0 := bestS_len (w := lo) (v := 4) (by omega) fun x => Sh13.load x atoms sizes
        have m1 := bestS_len (w := hi) (v := 4) (by omega) fun x => Sh13.load x atoms sizes
        have m2 := bestS_len (w := 1) (v := 4) (by omega) fun x => Sh13.load x atoms sizes
        have l01 : ∀ x, x ∈ allT 4 lo → x ∈ allT 4 hi := fun x hx => by
          have := (allT_mem 4 lo x h0).1 hx
          exact (allT_mem 4 hi x (by omega)).2 ⟨this.1, this.2.1, by omega⟩
        have l10 : ∀ x, x ∈ allT 4 1 → x ∈ allT 4 lo := fun x hx => by
          have := (allT_mem 4 1 x (by omega)).1 hx
          exact (allT_mem 4 lo x h0).2 ⟨this.1, this.2.1, by omega⟩
        have le1 := bestS_le (w := hi) (v := 4) (by omega) (fun x => Sh13.load x atoms sizes) (l01 _ m0)
        have le2 := bestS_le (w := lo) (v := 4) h0 (fun x => Sh13.load x atoms sizes) (l10 _ m2)
        have ld0 := rload_s (st := z) (ask_of hb hs' m0) 0 u t
        have ld1 := rload_s (st := z) (ask_of hb2 hs' m1) 0 u t
        have ld2 := rload_s (st := z) (ask_of hb1 hs' m2) 0 u t
        have len0 := ((allT_mem 4 lo _ h0).1 m0).1
        have len1 := ((allT_mem 4 hi _ (by omega)).1 m1).1
        have q2 := (allT_mem 4 1 _ (by omega)).1 m2
        have ez : (bestS 1 4 fun x => Sh13.load x atoms sizes) = [1, 1, 1, 1] := by
          have := ones_of q2.2.1 q2.2.2
          rw [q2.1] at this; exact this
        have same := same_s (st := z) (bestS 1 4 fun x => Sh13.load x atoms sizes) [1, 1, 1, 1] 0 2 (by rw [q2.1]; omega)
        rw [decide_eq_true ez] at same
        simp only [show (4 : Int).toNat = 4 from rfl]
        simp only [g9b1111111, g9b111111101, g9b11111111, g9b111111110_9, g9b111111110_25, g9b111111110_36, if_true, ext_0, ext_1, eql_int, bne_self_eq_false, guard_ff, cond_false, lenL_lst, intsV_len, len0, len1, Bool.false_eq_true, if_false,
          show (((4 : Nat) : Int) == 4) = true from rfl, guard_tt, bslice_ones, er1_lst, er1_bool, same, ret_ret, ld0, ld1, ld2, bin_leq, le1, le2, decide_true, s11_val]
    by_cases hlt : w2 < w1
    · have hmin : ∀ K : V → Res, A.min (.int .i64 w1) (.int .i64 w2) K = K (.int .i64 w2) := fun K => by simp [A.min, hlt]
      have hmax : ∀ K : V → Res, A.max (.int .i64 w1) (.int .i64 w2) K = K (.int .i64 w1) := fun K => by simp [A.max, show ¬ w1 < w2 by omega]
      exact key w2 w1 (by omega) (by omega) (by omega) hmin hmax
    · have hmin : ∀ K : V → Res, A.min (.int .i64 w1) (.int .i64 w2) K = K (.int .i64 w1) := fun K => by simp [A.min, hlt]
      have hmax : ∀ K : V → Res, A.max (.int .i64 w1) (.int .i64 w2) K = K (.int .i64 w2) := fun K => by
        by_cases h : w1 < w2
        · simp [A.max, h]
        · have : w1 = w2 := by omega
          subst this; simp [A.max]
      exact key w1 w2 (by omega) (by omega) (by omega) hmin hmax
theorem shareMore_row {W : World} {v0 v1 v2 : Value} {x0 x1 x2 : V} {n0 n1 n2 : Nat}
    (r0 : Rs (E0 W) [x0] [v0]) (s0 : Sh Try.prog n0 22 x0.cells) (f0 : fit Try.prog 22 x0)
    (r1 : Rs (E0 W) [x1] [v1]) (s1 : Sh Try.prog n1 23 x1.cells) (f1 : fit Try.prog 23 x1)
    (r2 : Rs (E0 W) [x2] [v2]) (s2 : Sh Try.prog n2 24 x2.cells) (f2 : fit Try.prog 24 x2) :
    Calls Try.prog 9 #[v0, v1, v2] W fun e w' => e = .returned (.bool true) ∧ Below W.heap.size W w' := by
  obtain ⟨a, b, rfl, _, _⟩ := in_arr2 s0 f0 Try.underlying22 Try.underlying3 (by kernel_rfl)
  obtain ⟨xs, rfl, h1, h2⟩ := in_intss s1 f1 Try.underlying23 Try.underlying24 Try.underlying3
  obtain ⟨ys, rfl, h3, _⟩ := in_ints s2 f2 Try.underlying24 Try.underlying3
  obtain ⟨st', hs⟩ := shareMore_law (st := St0) a b xs ys 0 0 h1 h3 h2
  exact bool_row sim9 W _ _ _ hs (Rs.cons r0 (Rs.cons r1 r2))
end Go.Ab
