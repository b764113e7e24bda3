-- PRINTED by print.py (a twelfth state) out of the translation. Not trusted: Lean checks it.
import Derived.Test.YtfmfgdlnkphoaaaPx0
import Derived.Test.YtfmfgdlnkphoaaaPx3
import Derived.Test.YtfmfgdlnkphoaaaPx5
namespace Go.Proofs.Ytfmfgdlnkphoaaa.Px
open Go.Proofs.Ytfmfgdlnkphoaaa.Hand
open Go.RowKit Go.Proofs.YtfmfgdlnkphoaaaW.PrintWords Go.Proofs.YtfmfgdlnkphoaaaW.PrintLast Go.Proofs.YtfmfgdlnkphoaaaW.PrintMore
attribute [local go_sem] max2_int min2_int max_two min_two max_three min_three max_four min_four   -- for this text's walks alone
set_option linter.unusedVariables false
set_option linter.unusedSimpArgs false

/-! ### sinewlaw08_TokenPlaces: function 4 -/
mutual
def sinewlaw08_TokenPlaces.l0 : Nat → ByteArray → List (S30) → Int → Int → Option (Bool)
  | 0, _, _, _, _ => none
  | k + 1, x0, x3, x6, x7 => if x7 < (x3.length : Int) then (sinewlaw08_TokenPlaces.l1 k x0 x3 x6 x7) else (sinewlaw08_TokenPlaces.l2 k x0 x6)
def sinewlaw08_TokenPlaces.l1 : Nat → ByteArray → List (S30) → Int → Int → Option (Bool)
  | 0, _, _, _, _ => none
  | k + 1, x0, x3, x6, x7 => if 0 ≤ x7 then (if x7 < (x3.length : Int) then (if x6 < ((rd_T30 x3 x7).f2) then (if x6 ≥ (x0.size : Int) then (some false) else (if 0 ≤ x6 then (if x6 < (x0.size : Int) then (if (bt x0 x6) = 32 then (sinewlaw08_TokenPlaces.l1 k x0 x3 (wrap64 (x6 + 1)) x7) else (if (bt x0 x6) = 9 then (sinewlaw08_TokenPlaces.l1 k x0 x3 (wrap64 (x6 + 1)) x7) else (if (bt x0 x6) = 10 then (sinewlaw08_TokenPlaces.l1 k x0 x3 (wrap64 (x6 + 1)) x7) else (some false)))) else (none)) else (none))) else (if ((rd_T30 x3 x7).f0) = 2 then (if 1 + ((rd_T30 x3 x7).f1).size ≤ 9223372036854775807 then (if ((rd_T30 x3 x7).f2) = x6 then (if (wrap64 ((x0.size : Int) - x6)) < (((⟨#[63]⟩ : ByteArray) ++ ((rd_T30 x3 x7).f1)).size : Int) then (some false) else (if 0 ≤ x6 then (if x6 ≤ (wrap64 (x6 + (((⟨#[63]⟩ : ByteArray) ++ ((rd_T30 x3 x7).f1)).size : Int))) then (if (wrap64 (x6 + (((⟨#[63]⟩ : ByteArray) ++ ((rd_T30 x3 x7).f1)).size : Int))) ≤ (x0.size : Int) then (if (x0.extract (x6 : Int).toNat ((wrap64 (x6 + (((⟨#[63]⟩ : ByteArray) ++ ((rd_T30 x3 x7).f1)).size : Int))) : Int).toNat).toList = ((⟨#[63]⟩ : ByteArray) ++ ((rd_T30 x3 x7).f1)).toList then (if ((⟨#[63]⟩ : ByteArray) ++ ((rd_T30 x3 x7).f1)).toList = ([] : List UInt8) then (some false) else (sinewlaw08_TokenPlaces.l0 k x0 x3 (wrap64 (x6 + (((⟨#[63]⟩ : ByteArray) ++ ((rd_T30 x3 x7).f1)).size : Int))) (wrap64 (x7 + 1)))) else (some false)) else (none)) else (none)) else (none))) else (some false)) else (none)) else (if ((rd_T30 x3 x7).f2) = x6 then (if (wrap64 ((x0.size : Int) - x6)) < (((rd_T30 x3 x7).f1).size : Int) then (some false) else (if 0 ≤ x6 then (if x6 ≤ (wrap64 (x6 + (((rd_T30 x3 x7).f1).size : Int))) then (if (wrap64 (x6 + (((rd_T30 x3 x7).f1).size : Int))) ≤ (x0.size : Int) then (if (x0.extract (x6 : Int).toNat ((wrap64 (x6 + (((rd_T30 x3 x7).f1).size : Int))) : Int).toNat).toList = ((rd_T30 x3 x7).f1).toList then (if ((rd_T30 x3 x7).f1).toList = ([] : List UInt8) then (some false) else (sinewlaw08_TokenPlaces.l0 k x0 x3 (wrap64 (x6 + (((rd_T30 x3 x7).f1).size : Int))) (wrap64 (x7 + 1)))) else (some false)) else (none)) else (none)) else (none))) else (some false)))) else (none)) else (none)
def sinewlaw08_TokenPlaces.l2 : Nat → ByteArray → Int → Option (Bool)
  | 0, _, _ => none
  | k + 1, x0, x6 => if x6 < (x0.size : Int) then (if 0 ≤ x6 then (if (bt x0 x6) = 32 then (sinewlaw08_TokenPlaces.l2 k x0 (wrap64 (x6 + 1))) else (if (bt x0 x6) = 9 then (sinewlaw08_TokenPlaces.l2 k x0 (wrap64 (x6 + 1))) else (if (bt x0 x6) = 10 then (sinewlaw08_TokenPlaces.l2 k x0 (wrap64 (x6 + 1))) else (some false)))) else (none)) else ((sinewlaw08_awake.f k).bind fun t164 => (some t164))
end
def sinewlaw08_TokenPlaces.f (k : Nat) (a0 : ByteArray) : Option (Bool) := (token_Signs.f k a0).bind fun bt153 => (if bt153.2.2 = 0 then (sinewlaw08_TokenPlaces.l0 k a0 bt153.1 0 0) else (if (bt153.1.length : Int) = 0 then ((sinewlaw08_awake.f k).bind fun t158 => (some t158)) else (some false)))
theorem sinewlaw08_TokenPlaces.mono_l : ∀ k, (∀ y0 y1 y2 y3, LeO (sinewlaw08_TokenPlaces.l0 k y0 y1 y2 y3) (sinewlaw08_TokenPlaces.l0 (k + 1) y0 y1 y2 y3)) ∧ (∀ y0 y1 y2 y3, LeO (sinewlaw08_TokenPlaces.l1 k y0 y1 y2 y3) (sinewlaw08_TokenPlaces.l1 (k + 1) y0 y1 y2 y3)) ∧ (∀ y0 y1, LeO (sinewlaw08_TokenPlaces.l2 k y0 y1) (sinewlaw08_TokenPlaces.l2 (k + 1) y0 y1))
  | 0 => ⟨fun _ _ _ _ r h => by simp [sinewlaw08_TokenPlaces.l0] at h, fun _ _ _ _ r h => by simp [sinewlaw08_TokenPlaces.l1] at h, fun _ _ r h => by simp [sinewlaw08_TokenPlaces.l2] at h⟩
  | k + 1 => by
    obtain ⟨ih0, ih1, ih2⟩ := sinewlaw08_TokenPlaces.mono_l k
    refine ⟨?_, ?_, ?_⟩
    · intro y0 y1 y2 y3
      unfold sinewlaw08_TokenPlaces.l0
      repeat' first
      | (with_reducible exact ih0 _ _ _ _)
      | (with_reducible exact ih1 _ _ _ _)
      | (with_reducible exact ih2 _ _)
      | (with_reducible exact sinewlaw08_awake.mono _)
      | (with_reducible exact token_Signs.mono _ _)
      | (with_reducible exact LeO.refl _)
      | (with_reducible exact LeO.none _)
      | (with_reducible refine LeO.ite ?_ ?_)
      | (with_reducible refine LeO.bind ?_ (fun _ => ?_))
      | exact ih0 _ _ _ _
      | exact ih1 _ _ _ _
      | exact ih2 _ _
      | exact sinewlaw08_awake.mono _
      | exact token_Signs.mono _ _
      | exact LeO.none _
      | refine LeO.ite ?_ ?_
      | refine LeO.bind ?_ (fun _ => ?_)
    · intro y0 y1 y2 y3
      unfold sinewlaw08_TokenPlaces.l1
      repeat' first
      | (with_reducible exact ih0 _ _ _ _)
      | (with_reducible exact ih1 _ _ _ _)
      | (with_reducible exact ih2 _ _)
      | (with_reducible exact sinewlaw08_awake.mono _)
      | (with_reducible exact token_Signs.mono _ _)
      | (with_reducible exact LeO.refl _)
      | (with_reducible exact LeO.none _)
      | (with_reducible refine LeO.ite ?_ ?_)
      | (with_reducible refine LeO.bind ?_ (fun _ => ?_))
      | exact ih0 _ _ _ _
      | exact ih1 _ _ _ _
      | exact ih2 _ _
      | exact sinewlaw08_awake.mono _
      | exact token_Signs.mono _ _
      | exact LeO.none _
      | refine LeO.ite ?_ ?_
      | refine LeO.bind ?_ (fun _ => ?_)
    · intro y0 y1
      unfold sinewlaw08_TokenPlaces.l2
      repeat' first
      | (with_reducible exact ih0 _ _ _ _)
      | (with_reducible exact ih1 _ _ _ _)
      | (with_reducible exact ih2 _ _)
      | (with_reducible exact sinewlaw08_awake.mono _)
      | (with_reducible exact token_Signs.mono _ _)
      | (with_reducible exact LeO.refl _)
      | (with_reducible exact LeO.none _)
      | (with_reducible refine LeO.ite ?_ ?_)
      | (with_reducible refine LeO.bind ?_ (fun _ => ?_))
      | exact ih0 _ _ _ _
      | exact ih1 _ _ _ _
      | exact ih2 _ _
      | exact sinewlaw08_awake.mono _
      | exact token_Signs.mono _ _
      | exact LeO.none _
      | refine LeO.ite ?_ ?_
      | refine LeO.bind ?_ (fun _ => ?_)
theorem sinewlaw08_TokenPlaces.mono : ∀ a0 k, LeO (sinewlaw08_TokenPlaces.f k a0) (sinewlaw08_TokenPlaces.f (k + 1) a0) := by
  intro a0 k
  obtain ⟨ih0, ih1, ih2⟩ := sinewlaw08_TokenPlaces.mono_l k
  unfold sinewlaw08_TokenPlaces.f
  repeat' first
      | (with_reducible exact ih0 _ _ _ _)
      | (with_reducible exact ih1 _ _ _ _)
      | (with_reducible exact ih2 _ _)
      | (with_reducible exact sinewlaw08_awake.mono _)
      | (with_reducible exact token_Signs.mono _ _)
      | (with_reducible exact LeO.refl _)
      | (with_reducible exact LeO.none _)
      | (with_reducible refine LeO.ite ?_ ?_)
      | (with_reducible refine LeO.bind ?_ (fun _ => ?_))
      | exact ih0 _ _ _ _
      | exact ih1 _ _ _ _
      | exact ih2 _ _
      | exact sinewlaw08_awake.mono _
      | exact token_Signs.mono _ _
      | exact LeO.none _
      | refine LeO.ite ?_ ?_
      | refine LeO.bind ?_ (fun _ => ?_)
set_option maxHeartbeats 8000000 in
set_option maxRecDepth 100000 in
theorem sinewlaw08_TokenPlaces.calls (k : Nat) (a0 : ByteArray) (r : Bool) (w : World) (h : sinewlaw08_TokenPlaces.f k a0 = some r) :
    Calls Try.prog 4 #[.string a0] w fun e w' => e = .returned (.bool r) ∧ Below w.heap.size w w' := by
  have HB := Aside0.mk (Below.refl w.heap.size w)
  have H : ((token_Signs.f k a0).bind fun bt153 => (if bt153.2.2 = 0 then (sinewlaw08_TokenPlaces.l0 k a0 bt153.1 0 0) else (if (bt153.1.length : Int) = 0 then ((sinewlaw08_awake.f k).bind fun t158 => (some t158)) else (some false)))) = some r := h
  clear h
  replace H := Option.bind_eq_some_iff.mp H
  obtain ⟨⟨t153, t154, t155⟩, A20, H⟩ := H
  replace H : (if t155 = 0 then (sinewlaw08_TokenPlaces.l0 k a0 t153 0 0) else (if (t153.length : Int) = 0 then ((sinewlaw08_awake.f k).bind fun t158 => (some t158)) else (some false))) = some r := H
  have A2 := Aside0.mk A20
  clear A20
  by_cases c3 : t155 = 0
  · rw [if_pos c3] at H
    have c3b0 : (t155 == 0) = true := beq_iff_eq.mpr c3
    try (have c3b5 := c3b0; simp only [ByteArray.size_extract, ByteArray.size_append, Int.natCast_add] at c3b5; (try rw [show ((⟨#[63]⟩ : ByteArray).size : Nat) = 1 from rfl] at c3b5); (try simp only [Int.natCast_one, Int.cast_ofNat_Int] at c3b5))
    have c3b1 : (t155 != 0) = false := bne_eq_false_iff_eq.mpr c3
    try (have c3b6 := c3b1; simp only [ByteArray.size_extract, ByteArray.size_append, Int.natCast_add] at c3b6; (try rw [show ((⟨#[63]⟩ : ByteArray).size : Nat) = 1 from rfl] at c3b6); (try simp only [Int.natCast_one, Int.cast_ofNat_Int] at c3b6))
    clear c3
    have H' := Aside0.mk H
    clear H
    go_enter Try.func4, Try.ntmps4
    go_wp2_with (first | ((with_reducible refine gate_callee (f := 8) rfl ?_); refine goesL_ (some 11) rfl rfl Try.func8 (by kernel_rfl) rfl #[.string a0] rfl (by (try simp only [List.map_toArray, List.map_cons, List.map_nil]); first | done | rfl | (simp only [List.length_drop, List.length_take]; rfl)) ?_; (with_reducible refine (token_Signs.calls k a0 t153 t154 t155 _ A2.out).mono ?_); rintro e w4 ⟨v156, rfl, ho0, hb⟩; refine ⟨_, rfl, ?_⟩; have n0_ := Aside0.mk (Kd.R_lower ho0 (below_size (by repeat (first | (with_reducible first | exact HB.out | apply below_alloc | apply pw_below_drewN | apply below_drew1) | exact HB.out)))); have n1_ := Aside0.mk (below_step (by repeat (first | (with_reducible first | exact HB.out | apply below_alloc | apply pw_below_drewN | apply below_drew1) | exact HB.out)) hb); clear HB; have HO157 := n0_; have HB := n1_; clear n0_ n1_; (try clear hb); (try clear hb2); (try clear hk); (try clear hi); (try clear ho0)))
    go_loopg [6, 7] k (fun kq v6 v7 w' => ∃ (x6_1 : Int) (x7_1 : Int), v6 = .int .i64 x6_1 ∧ v7 = .int .i64 x7_1 ∧ Aside0 (sinewlaw08_TokenPlaces.l0 kq a0 t153 x6_1 x7_1 = some r) ∧ Aside0 (kq ≤ k) ∧ Aside0 (Kd.R k30 30 w' w.heap.size (fun _ => True) v156 t153) ∧ Aside0 (Below w.heap.size w w'))
    case atStart => exact ⟨(0), (0), (by first | rfl | (simp; done) | (simp [*]; done) | (simp only [ByteArray.size_append, Int.natCast_add]; rfl) | (simp only [List.beq_nil_eq, bne]; done) | (congr 1; simp only [bne]; done) | (simp [bne]; done) | (congr 1; simp only [bne_iff_ne]; done)), (by first | rfl | (simp; done) | (simp [*]; done) | (simp only [ByteArray.size_append, Int.natCast_add]; rfl) | (simp only [List.beq_nil_eq, bne]; done) | (congr 1; simp only [bne]; done) | (simp [bne]; done) | (congr 1; simp only [bne_iff_ne]; done)), H', ⟨Nat.le_refl _⟩, ⟨by (with_reducible repeat (first | apply Kd.R_alloc | apply Kd.R_drewN | apply Kd.R_drew)); exact HO157.out⟩, ⟨by repeat (first | (with_reducible first | exact HB.out | apply below_alloc | apply pw_below_drewN | apply below_drew1) | exact HB.out)⟩⟩
    case round =>
      clear H'
      try clear p2
      try clear c3
      try clear c3b0
      try clear c3b1
      try clear c4
      obtain ⟨x6_1, x7_1, rfl, rfl, HA, HK1, HO_3, HB⟩ := hrel
      cases gk with
      | zero => exact absurd HA.out (by simp [sinewlaw08_TokenPlaces.l0])
      | succ k1 =>
        have H := HA.out
        clear HA
        simp only [sinewlaw08_TokenPlaces.l0] at H
        by_cases c5 : x7_1 < (t153.length : Int)
        · rw [if_pos c5] at H
          have c5b0 : decide (x7_1 < (t153.length : Int)) = true := decide_eq_true c5
          try (have c5b5 := c5b0; simp only [ByteArray.size_extract, ByteArray.size_append, Int.natCast_add] at c5b5; (try rw [show ((⟨#[63]⟩ : ByteArray).size : Nat) = 1 from rfl] at c5b5); (try simp only [Int.natCast_one, Int.cast_ofNat_Int] at c5b5))
          clear c5
          have H' := Aside0.mk H
          clear H
          obtain ⟨Ao6, co6, eo6⟩ := Kd.R_slice HO_3.out
          subst eo6
          go_wp2
          go_loopg [6] k1 (fun kq v6 w' => ∃ (x6_2 : Int), v6 = .int .i64 x6_2 ∧ Aside0 (sinewlaw08_TokenPlaces.l1 kq a0 t153 x6_2 x7_1 = some r) ∧ Aside0 (kq ≤ k1) ∧ Aside0 (Kd.R k30 30 w' w.heap.size (fun _ => True) (.slice Ao6 t153.length co6) t153) ∧ Aside0 (Below w.heap.size w w'))
          case atStart => exact ⟨(x6_1), (by first | rfl | (simp; done) | (simp [*]; done) | (simp only [ByteArray.size_append, Int.natCast_add]; rfl) | (simp only [List.beq_nil_eq, bne]; done) | (congr 1; simp only [bne]; done) | (simp [bne]; done) | (congr 1; simp only [bne_iff_ne]; done)), H', ⟨Nat.le_refl _⟩, ⟨by (with_reducible repeat (first | apply Kd.R_alloc | apply Kd.R_drewN | apply Kd.R_drew)); exact HO_3.out⟩, ⟨by repeat (first | (with_reducible first | exact HB.out | apply below_alloc | apply pw_below_drewN | apply below_drew1) | exact HB.out)⟩⟩
          case round =>
            clear H'
            try clear p2
            try clear c3
            try clear c3b0
            try clear c3b1
            try clear c4
            try clear c5
            try clear c5b0
            try clear p2
            obtain ⟨x6_2, rfl, HA, HK2, HO_3, HB⟩ := hrel
            cases gk with
            | zero => exact absurd HA.out (by simp [sinewlaw08_TokenPlaces.l1])
            | succ k2 =>
              have H := HA.out
              clear HA
              simp only [sinewlaw08_TokenPlaces.l1] at H
              by_cases c7 : 0 ≤ x7_1
              · rw [if_pos c7] at H
                have c7b0 : decide (0 ≤ x7_1) = true := decide_eq_true c7
                try (have c7b5 := c7b0; simp only [ByteArray.size_extract, ByteArray.size_append, Int.natCast_add] at c7b5; (try rw [show ((⟨#[63]⟩ : ByteArray).size : Nat) = 1 from rfl] at c7b5); (try simp only [Int.natCast_one, Int.cast_ofNat_Int] at c7b5))
                clear c7
                by_cases c8 : x7_1 < (t153.length : Int)
                · rw [if_pos c8] at H
                  have c8b0 : decide (x7_1 < (t153.length : Int)) = true := decide_eq_true c8
                  try (have c8b5 := c8b0; simp only [ByteArray.size_extract, ByteArray.size_append, Int.natCast_add] at c8b5; (try rw [show ((⟨#[63]⟩ : ByteArray).size : Nat) = 1 from rfl] at c8b5); (try simp only [Int.natCast_one, Int.cast_ofNat_Int] at c8b5))
                  clear c8
                  by_cases c9 : x6_2 < ((rd_T30 t153 x7_1).f2)
                  · rw [if_pos c9] at H
                    have c9b0 : decide (x6_2 < ((rd_T30 t153 x7_1).f2)) = true := decide_eq_true c9
                    try (have c9b5 := c9b0; simp only [ByteArray.size_extract, ByteArray.size_append, Int.natCast_add] at c9b5; (try rw [show ((⟨#[63]⟩ : ByteArray).size : Nat) = 1 from rfl] at c9b5); (try simp only [Int.natCast_one, Int.cast_ofNat_Int] at c9b5))
                    clear c9
                    by_cases c10 : x6_2 ≥ (a0.size : Int)
                    · rw [if_pos c10] at H
                      have c10b0 : decide ((a0.size : Int) ≤ x6_2) = true := decide_eq_true c10
                      try (have c10b5 := c10b0; simp only [ByteArray.size_extract, ByteArray.size_append, Int.natCast_add] at c10b5; (try rw [show ((⟨#[63]⟩ : ByteArray).size : Nat) = 1 from rfl] at c10b5); (try simp only [Int.natCast_one, Int.cast_ofNat_Int] at c10b5))
                      clear c10
                      obtain rfl := Option.some.inj H
                      have p159 : 0 ≤ (x7_1 : Int) := of_decide_eq_true (by first | (with_reducible assumption) | assumption)
                      have q159 : x7_1 < (t153.length : Int) := of_decide_eq_true (by first | (with_reducible assumption) | assumption)
                      obtain ⟨ad159, e159, hx159_0, hx159_1, hx159_2⟩ := at_T30 (Kd.R_reads' HO_3.out).2.2 x7_1 p159 q159
                      cases e159
                      replace p159 := eq_true p159
                      replace q159 := eq_true q159
                      go_wp2
                      go_ret
                      exact ⟨by first | rfl | (simp [errW_none, errW_some] <;> rfl) | (simp [*, errW_none, errW_some] <;> rfl), by repeat (first | (with_reducible first | exact HB.out | apply below_alloc | apply pw_below_drewN | apply below_drew1) | exact HB.out)⟩
                    · rw [if_neg c10] at H
                      have c10b0 : decide ((a0.size : Int) ≤ x6_2) = false := decide_eq_false c10
                      try (have c10b5 := c10b0; simp only [ByteArray.size_extract, ByteArray.size_append, Int.natCast_add] at c10b5; (try rw [show ((⟨#[63]⟩ : ByteArray).size : Nat) = 1 from rfl] at c10b5); (try simp only [Int.natCast_one, Int.cast_ofNat_Int] at c10b5))
                      clear c10
                      by_cases c11 : 0 ≤ x6_2
                      · rw [if_pos c11] at H
                        have c11b0 : decide (0 ≤ x6_2) = true := decide_eq_true c11
                        try (have c11b5 := c11b0; simp only [ByteArray.size_extract, ByteArray.size_append, Int.natCast_add] at c11b5; (try rw [show ((⟨#[63]⟩ : ByteArray).size : Nat) = 1 from rfl] at c11b5); (try simp only [Int.natCast_one, Int.cast_ofNat_Int] at c11b5))
                        clear c11
                        by_cases c12 : x6_2 < (a0.size : Int)
                        · rw [if_pos c12] at H
                          have c12b0 : decide (x6_2 < (a0.size : Int)) = true := decide_eq_true c12
                          try (have c12b5 := c12b0; simp only [ByteArray.size_extract, ByteArray.size_append, Int.natCast_add] at c12b5; (try rw [show ((⟨#[63]⟩ : ByteArray).size : Nat) = 1 from rfl] at c12b5); (try simp only [Int.natCast_one, Int.cast_ofNat_Int] at c12b5))
                          clear c12
                          by_cases c14 : (bt a0 x6_2) = 32
                          · rw [if_pos c14] at H
                            have c14b0 : ((bt a0 x6_2) == 32) = true := beq_iff_eq.mpr c14
                            try (have c14b5 := c14b0; simp only [ByteArray.size_extract, ByteArray.size_append, Int.natCast_add] at c14b5; (try rw [show ((⟨#[63]⟩ : ByteArray).size : Nat) = 1 from rfl] at c14b5); (try simp only [Int.natCast_one, Int.cast_ofNat_Int] at c14b5))
                            have c14b1 : ((bt a0 x6_2) != 32) = false := bne_eq_false_iff_eq.mpr c14
                            try (have c14b6 := c14b1; simp only [ByteArray.size_extract, ByteArray.size_append, Int.natCast_add] at c14b6; (try rw [show ((⟨#[63]⟩ : ByteArray).size : Nat) = 1 from rfl] at c14b6); (try simp only [Int.natCast_one, Int.cast_ofNat_Int] at c14b6))
                            clear c14
                            have H' := Aside0.mk H
                            clear H
                            have p159 : 0 ≤ (x7_1 : Int) := of_decide_eq_true (by first | (with_reducible assumption) | assumption)
                            have q159 : x7_1 < (t153.length : Int) := of_decide_eq_true (by first | (with_reducible assumption) | assumption)
                            obtain ⟨ad159, e159, hx159_0, hx159_1, hx159_2⟩ := at_T30 (Kd.R_reads' HO_3.out).2.2 x7_1 p159 q159
                            cases e159
                            replace p159 := eq_true p159
                            replace q159 := eq_true q159
                            have p13 : 0 ≤ (x6_2 : Int) := of_decide_eq_true (by first | (with_reducible assumption) | assumption)
                            have q13 : x6_2 < (a0.size : Int) := of_decide_eq_true (by first | (with_reducible assumption) | assumption)
                            have hx13 := bt_at a0 x6_2
                            replace p13 := eq_true p13
                            replace q13 := eq_true q13
                            go_wp2
                            go_roundg k2
                            case measure => have := HK1.out; have := HK2.out; omega
                            case rel => exact ⟨(wrap64 (x6_2 + 1)), (by first | rfl | (simp; done) | (simp [*]; done) | (simp only [ByteArray.size_append, Int.natCast_add]; rfl) | (simp only [List.beq_nil_eq, bne]; done) | (congr 1; simp only [bne]; done) | (simp [bne]; done) | (congr 1; simp only [bne_iff_ne]; done)), H', ⟨by have := HK1.out; have := HK2.out; omega⟩, ⟨by (with_reducible repeat (first | apply Kd.R_alloc | apply Kd.R_drewN | apply Kd.R_drew)); exact HO_3.out⟩, ⟨by repeat (first | (with_reducible first | exact HB.out | apply below_alloc | apply pw_below_drewN | apply below_drew1) | exact HB.out)⟩⟩
                          · rw [if_neg c14] at H
                            have c14b0 : ((bt a0 x6_2) == 32) = false := beq_eq_false_iff_ne.mpr c14
                            try (have c14b5 := c14b0; simp only [ByteArray.size_extract, ByteArray.size_append, Int.natCast_add] at c14b5; (try rw [show ((⟨#[63]⟩ : ByteArray).size : Nat) = 1 from rfl] at c14b5); (try simp only [Int.natCast_one, Int.cast_ofNat_Int] at c14b5))
                            have c14b1 : ((bt a0 x6_2) != 32) = true := bne_iff_ne.mpr c14
                            try (have c14b6 := c14b1; simp only [ByteArray.size_extract, ByteArray.size_append, Int.natCast_add] at c14b6; (try rw [show ((⟨#[63]⟩ : ByteArray).size : Nat) = 1 from rfl] at c14b6); (try simp only [Int.natCast_one, Int.cast_ofNat_Int] at c14b6))
                            by_cases c16 : (bt a0 x6_2) = 9
                            · rw [if_pos c16] at H
                              have c16b0 : ((bt a0 x6_2) == 9) = true := beq_iff_eq.mpr c16
                              try (have c16b5 := c16b0; simp only [ByteArray.size_extract, ByteArray.size_append, Int.natCast_add] at c16b5; (try rw [show ((⟨#[63]⟩ : ByteArray).size : Nat) = 1 from rfl] at c16b5); (try simp only [Int.natCast_one, Int.cast_ofNat_Int] at c16b5))
                              have c16b1 : ((bt a0 x6_2) != 9) = false := bne_eq_false_iff_eq.mpr c16
                              try (have c16b6 := c16b1; simp only [ByteArray.size_extract, ByteArray.size_append, Int.natCast_add] at c16b6; (try rw [show ((⟨#[63]⟩ : ByteArray).size : Nat) = 1 from rfl] at c16b6); (try simp only [Int.natCast_one, Int.cast_ofNat_Int] at c16b6))
                              clear c16
                              have H' := Aside0.mk H
                              clear H
                              have p159 : 0 ≤ (x7_1 : Int) := of_decide_eq_true (by first | (with_reducible assumption) | assumption)
                              have q159 : x7_1 < (t153.length : Int) := of_decide_eq_true (by first | (with_reducible assumption) | assumption)
                              obtain ⟨ad159, e159, hx159_0, hx159_1, hx159_2⟩ := at_T30 (Kd.R_reads' HO_3.out).2.2 x7_1 p159 q159
                              cases e159
                              replace p159 := eq_true p159
                              replace q159 := eq_true q159
                              have p13 : 0 ≤ (x6_2 : Int) := of_decide_eq_true (by first | (with_reducible assumption) | assumption)
                              have q13 : x6_2 < (a0.size : Int) := of_decide_eq_true (by first | (with_reducible assumption) | assumption)
                              have hx13 := bt_at a0 x6_2
                              replace p13 := eq_true p13
                              replace q13 := eq_true q13
                              have p15 : 0 ≤ (x6_2 : Int) := of_decide_eq_true (by first | (with_reducible assumption) | assumption)
                              have q15 : x6_2 < (a0.size : Int) := of_decide_eq_true (by first | (with_reducible assumption) | assumption)
                              have hx15 := bt_at a0 x6_2
                              replace p15 := eq_true p15
                              replace q15 := eq_true q15
                              go_wp2
                              go_roundg k2
                              case measure => have := HK1.out; have := HK2.out; omega
                              case rel => exact ⟨(wrap64 (x6_2 + 1)), (by first | rfl | (simp; done) | (simp [*]; done) | (simp only [ByteArray.size_append, Int.natCast_add]; rfl) | (simp only [List.beq_nil_eq, bne]; done) | (congr 1; simp only [bne]; done) | (simp [bne]; done) | (congr 1; simp only [bne_iff_ne]; done)), H', ⟨by have := HK1.out; have := HK2.out; omega⟩, ⟨by (with_reducible repeat (first | apply Kd.R_alloc | apply Kd.R_drewN | apply Kd.R_drew)); exact HO_3.out⟩, ⟨by repeat (first | (with_reducible first | exact HB.out | apply below_alloc | apply pw_below_drewN | apply below_drew1) | exact HB.out)⟩⟩
                            · rw [if_neg c16] at H
                              have c16b0 : ((bt a0 x6_2) == 9) = false := beq_eq_false_iff_ne.mpr c16
                              try (have c16b5 := c16b0; simp only [ByteArray.size_extract, ByteArray.size_append, Int.natCast_add] at c16b5; (try rw [show ((⟨#[63]⟩ : ByteArray).size : Nat) = 1 from rfl] at c16b5); (try simp only [Int.natCast_one, Int.cast_ofNat_Int] at c16b5))
                              have c16b1 : ((bt a0 x6_2) != 9) = true := bne_iff_ne.mpr c16
                              try (have c16b6 := c16b1; simp only [ByteArray.size_extract, ByteArray.size_append, Int.natCast_add] at c16b6; (try rw [show ((⟨#[63]⟩ : ByteArray).size : Nat) = 1 from rfl] at c16b6); (try simp only [Int.natCast_one, Int.cast_ofNat_Int] at c16b6))
                              by_cases c18 : (bt a0 x6_2) = 10
                              · rw [if_pos c18] at H
                                have c18b0 : ((bt a0 x6_2) == 10) = true := beq_iff_eq.mpr c18
                                try (have c18b5 := c18b0; simp only [ByteArray.size_extract, ByteArray.size_append, Int.natCast_add] at c18b5; (try rw [show ((⟨#[63]⟩ : ByteArray).size : Nat) = 1 from rfl] at c18b5); (try simp only [Int.natCast_one, Int.cast_ofNat_Int] at c18b5))
                                have c18b1 : ((bt a0 x6_2) != 10) = false := bne_eq_false_iff_eq.mpr c18
                                try (have c18b6 := c18b1; simp only [ByteArray.size_extract, ByteArray.size_append, Int.natCast_add] at c18b6; (try rw [show ((⟨#[63]⟩ : ByteArray).size : Nat) = 1 from rfl] at c18b6); (try simp only [Int.natCast_one, Int.cast_ofNat_Int] at c18b6))
                                clear c18
                                have H' := Aside0.mk H
                                clear H
                                have p159 : 0 ≤ (x7_1 : Int) := of_decide_eq_true (by first | (with_reducible assumption) | assumption)
                                have q159 : x7_1 < (t153.length : Int) := of_decide_eq_true (by first | (with_reducible assumption) | assumption)
                                obtain ⟨ad159, e159, hx159_0, hx159_1, hx159_2⟩ := at_T30 (Kd.R_reads' HO_3.out).2.2 x7_1 p159 q159
                                cases e159
                                replace p159 := eq_true p159
                                replace q159 := eq_true q159
                                have p13 : 0 ≤ (x6_2 : Int) := of_decide_eq_true (by first | (with_reducible assumption) | assumption)
                                have q13 : x6_2 < (a0.size : Int) := of_decide_eq_true (by first | (with_reducible assumption) | assumption)
                                have hx13 := bt_at a0 x6_2
                                replace p13 := eq_true p13
                                replace q13 := eq_true q13
                                have p15 : 0 ≤ (x6_2 : Int) := of_decide_eq_true (by first | (with_reducible assumption) | assumption)
                                have q15 : x6_2 < (a0.size : Int) := of_decide_eq_true (by first | (with_reducible assumption) | assumption)
                                have hx15 := bt_at a0 x6_2
                                replace p15 := eq_true p15
                                replace q15 := eq_true q15
                                have p17 : 0 ≤ (x6_2 : Int) := of_decide_eq_true (by first | (with_reducible assumption) | assumption)
                                have q17 : x6_2 < (a0.size : Int) := of_decide_eq_true (by first | (with_reducible assumption) | assumption)
                                have hx17 := bt_at a0 x6_2
                                replace p17 := eq_true p17
                                replace q17 := eq_true q17
                                go_wp2
                                go_roundg k2
                                case measure => have := HK1.out; have := HK2.out; omega
                                case rel => exact ⟨(wrap64 (x6_2 + 1)), (by first | rfl | (simp; done) | (simp [*]; done) | (simp only [ByteArray.size_append, Int.natCast_add]; rfl) | (simp only [List.beq_nil_eq, bne]; done) | (congr 1; simp only [bne]; done) | (simp [bne]; done) | (congr 1; simp only [bne_iff_ne]; done)), H', ⟨by have := HK1.out; have := HK2.out; omega⟩, ⟨by (with_reducible repeat (first | apply Kd.R_alloc | apply Kd.R_drewN | apply Kd.R_drew)); exact HO_3.out⟩, ⟨by repeat (first | (with_reducible first | exact HB.out | apply below_alloc | apply pw_below_drewN | apply below_drew1) | exact HB.out)⟩⟩
                              · rw [if_neg c18] at H
                                have c18b0 : ((bt a0 x6_2) == 10) = false := beq_eq_false_iff_ne.mpr c18
                                try (have c18b5 := c18b0; simp only [ByteArray.size_extract, ByteArray.size_append, Int.natCast_add] at c18b5; (try rw [show ((⟨#[63]⟩ : ByteArray).size : Nat) = 1 from rfl] at c18b5); (try simp only [Int.natCast_one, Int.cast_ofNat_Int] at c18b5))
                                have c18b1 : ((bt a0 x6_2) != 10) = true := bne_iff_ne.mpr c18
                                try (have c18b6 := c18b1; simp only [ByteArray.size_extract, ByteArray.size_append, Int.natCast_add] at c18b6; (try rw [show ((⟨#[63]⟩ : ByteArray).size : Nat) = 1 from rfl] at c18b6); (try simp only [Int.natCast_one, Int.cast_ofNat_Int] at c18b6))
                                obtain rfl := Option.some.inj H
                                have p159 : 0 ≤ (x7_1 : Int) := of_decide_eq_true (by first | (with_reducible assumption) | assumption)
                                have q159 : x7_1 < (t153.length : Int) := of_decide_eq_true (by first | (with_reducible assumption) | assumption)
                                obtain ⟨ad159, e159, hx159_0, hx159_1, hx159_2⟩ := at_T30 (Kd.R_reads' HO_3.out).2.2 x7_1 p159 q159
                                cases e159
                                replace p159 := eq_true p159
                                replace q159 := eq_true q159
                                have p13 : 0 ≤ (x6_2 : Int) := of_decide_eq_true (by first | (with_reducible assumption) | assumption)
                                have q13 : x6_2 < (a0.size : Int) := of_decide_eq_true (by first | (with_reducible assumption) | assumption)
                                have hx13 := bt_at a0 x6_2
                                replace p13 := eq_true p13
                                replace q13 := eq_true q13
                                have p15 : 0 ≤ (x6_2 : Int) := of_decide_eq_true (by first | (with_reducible assumption) | assumption)
                                have q15 : x6_2 < (a0.size : Int) := of_decide_eq_true (by first | (with_reducible assumption) | assumption)
                                have hx15 := bt_at a0 x6_2
                                replace p15 := eq_true p15
                                replace q15 := eq_true q15
                                have p17 : 0 ≤ (x6_2 : Int) := of_decide_eq_true (by first | (with_reducible assumption) | assumption)
                                have q17 : x6_2 < (a0.size : Int) := of_decide_eq_true (by first | (with_reducible assumption) | assumption)
                                have hx17 := bt_at a0 x6_2
                                replace p17 := eq_true p17
                                replace q17 := eq_true q17
                                go_wp2
                                go_ret
                                exact ⟨by first | rfl | (simp [errW_none, errW_some] <;> rfl) | (simp [*, errW_none, errW_some] <;> rfl), by repeat (first | (with_reducible first | exact HB.out | apply below_alloc | apply pw_below_drewN | apply below_drew1) | exact HB.out)⟩
                        · rw [if_neg c12] at H
                          exact absurd H (by simp)
                      · rw [if_neg c11] at H
                        exact absurd H (by simp)
                  · rw [if_neg c9] at H
                    have c9b0 : decide (x6_2 < ((rd_T30 t153 x7_1).f2)) = false := decide_eq_false c9
                    try (have c9b5 := c9b0; simp only [ByteArray.size_extract, ByteArray.size_append, Int.natCast_add] at c9b5; (try rw [show ((⟨#[63]⟩ : ByteArray).size : Nat) = 1 from rfl] at c9b5); (try simp only [Int.natCast_one, Int.cast_ofNat_Int] at c9b5))
                    clear c9
                    by_cases c19 : ((rd_T30 t153 x7_1).f0) = 2
                    · rw [if_pos c19] at H
                      have c19b0 : (((rd_T30 t153 x7_1).f0) == 2) = true := beq_iff_eq.mpr c19
                      try (have c19b5 := c19b0; simp only [ByteArray.size_extract, ByteArray.size_append, Int.natCast_add] at c19b5; (try rw [show ((⟨#[63]⟩ : ByteArray).size : Nat) = 1 from rfl] at c19b5); (try simp only [Int.natCast_one, Int.cast_ofNat_Int] at c19b5))
                      have c19b1 : (((rd_T30 t153 x7_1).f0) != 2) = false := bne_eq_false_iff_eq.mpr c19
                      try (have c19b6 := c19b1; simp only [ByteArray.size_extract, ByteArray.size_append, Int.natCast_add] at c19b6; (try rw [show ((⟨#[63]⟩ : ByteArray).size : Nat) = 1 from rfl] at c19b6); (try simp only [Int.natCast_one, Int.cast_ofNat_Int] at c19b6))
                      clear c19
                      by_cases c20 : 1 + ((rd_T30 t153 x7_1).f1).size ≤ 9223372036854775807
                      · rw [if_pos c20] at H
                        have c20b0 := eq_true c20
                        try (have c20b5 := c20b0; simp only [ByteArray.size_extract, ByteArray.size_append, Int.natCast_add] at c20b5; (try rw [show ((⟨#[63]⟩ : ByteArray).size : Nat) = 1 from rfl] at c20b5); (try simp only [Int.natCast_one, Int.cast_ofNat_Int] at c20b5))
                        have c20b1 : decide (1 + ((rd_T30 t153 x7_1).f1).size ≤ 9223372036854775807) = true := decide_eq_true c20
                        try (have c20b6 := c20b1; simp only [ByteArray.size_extract, ByteArray.size_append, Int.natCast_add] at c20b6; (try rw [show ((⟨#[63]⟩ : ByteArray).size : Nat) = 1 from rfl] at c20b6); (try simp only [Int.natCast_one, Int.cast_ofNat_Int] at c20b6))
                        try have c20b2 : (9223372036854775807 < 1 + ((rd_T30 t153 x7_1).f1).size) = False := eq_false (Nat.not_lt.2 c20)
                        by_cases c21 : ((rd_T30 t153 x7_1).f2) = x6_2
                        · rw [if_pos c21] at H
                          have c21b0 : (((rd_T30 t153 x7_1).f2) == x6_2) = true := beq_iff_eq.mpr c21
                          try (have c21b5 := c21b0; simp only [ByteArray.size_extract, ByteArray.size_append, Int.natCast_add] at c21b5; (try rw [show ((⟨#[63]⟩ : ByteArray).size : Nat) = 1 from rfl] at c21b5); (try simp only [Int.natCast_one, Int.cast_ofNat_Int] at c21b5))
                          have c21b1 : (((rd_T30 t153 x7_1).f2) != x6_2) = false := bne_eq_false_iff_eq.mpr c21
                          try (have c21b6 := c21b1; simp only [ByteArray.size_extract, ByteArray.size_append, Int.natCast_add] at c21b6; (try rw [show ((⟨#[63]⟩ : ByteArray).size : Nat) = 1 from rfl] at c21b6); (try simp only [Int.natCast_one, Int.cast_ofNat_Int] at c21b6))
                          clear c21
                          by_cases c22 : (wrap64 ((a0.size : Int) - x6_2)) < (((⟨#[63]⟩ : ByteArray) ++ ((rd_T30 t153 x7_1).f1)).size : Int)
                          · rw [if_pos c22] at H
                            have c22b0 : decide ((wrap64 ((a0.size : Int) - x6_2)) < (((⟨#[63]⟩ : ByteArray) ++ ((rd_T30 t153 x7_1).f1)).size : Int)) = true := decide_eq_true c22
                            try (have c22b5 := c22b0; simp only [ByteArray.size_extract, ByteArray.size_append, Int.natCast_add] at c22b5; (try rw [show ((⟨#[63]⟩ : ByteArray).size : Nat) = 1 from rfl] at c22b5); (try simp only [Int.natCast_one, Int.cast_ofNat_Int] at c22b5))
                            clear c22
                            obtain rfl := Option.some.inj H
                            have p159 : 0 ≤ (x7_1 : Int) := of_decide_eq_true (by first | (with_reducible assumption) | assumption)
                            have q159 : x7_1 < (t153.length : Int) := of_decide_eq_true (by first | (with_reducible assumption) | assumption)
                            obtain ⟨ad159, e159, hx159_0, hx159_1, hx159_2⟩ := at_T30 (Kd.R_reads' HO_3.out).2.2 x7_1 p159 q159
                            cases e159
                            replace p159 := eq_true p159
                            replace q159 := eq_true q159
                            have p160 : 0 ≤ (x7_1 : Int) := of_decide_eq_true (by first | (with_reducible assumption) | assumption)
                            have q160 : x7_1 < (t153.length : Int) := of_decide_eq_true (by first | (with_reducible assumption) | assumption)
                            obtain ⟨ad160, e160, hx160_0, hx160_1, hx160_2⟩ := at_T30 (Kd.R_reads' HO_3.out).2.2 x7_1 p160 q160
                            obtain rfl : ad159 = ad160 := (by injection e160)
                            replace p160 := eq_true p160
                            replace q160 := eq_true q160
                            have p161 : 0 ≤ (x7_1 : Int) := of_decide_eq_true (by first | (with_reducible assumption) | assumption)
                            have q161 : x7_1 < (t153.length : Int) := of_decide_eq_true (by first | (with_reducible assumption) | assumption)
                            obtain ⟨ad161, e161, hx161_0, hx161_1, hx161_2⟩ := at_T30 (Kd.R_reads' HO_3.out).2.2 x7_1 p161 q161
                            obtain rfl : ad159 = ad161 := (by injection e161)
                            replace p161 := eq_true p161
                            replace q161 := eq_true q161
                            have p162 : 0 ≤ (x7_1 : Int) := of_decide_eq_true (by first | (with_reducible assumption) | assumption)
                            have q162 : x7_1 < (t153.length : Int) := of_decide_eq_true (by first | (with_reducible assumption) | assumption)
                            obtain ⟨ad162, e162, hx162_0, hx162_1, hx162_2⟩ := at_T30 (Kd.R_reads' HO_3.out).2.2 x7_1 p162 q162
                            obtain rfl : ad159 = ad162 := (by injection e162)
                            replace p162 := eq_true p162
                            replace q162 := eq_true q162
                            go_wp2
                            go_ret
                            exact ⟨by first | rfl | (simp [errW_none, errW_some] <;> rfl) | (simp [*, errW_none, errW_some] <;> rfl), by repeat (first | (with_reducible first | exact HB.out | apply below_alloc | apply pw_below_drewN | apply below_drew1) | exact HB.out)⟩
                          · rw [if_neg c22] at H
                            have c22b0 : decide ((wrap64 ((a0.size : Int) - x6_2)) < (((⟨#[63]⟩ : ByteArray) ++ ((rd_T30 t153 x7_1).f1)).size : Int)) = false := decide_eq_false c22
                            try (have c22b5 := c22b0; simp only [ByteArray.size_extract, ByteArray.size_append, Int.natCast_add] at c22b5; (try rw [show ((⟨#[63]⟩ : ByteArray).size : Nat) = 1 from rfl] at c22b5); (try simp only [Int.natCast_one, Int.cast_ofNat_Int] at c22b5))
                            clear c22
                            by_cases c23 : 0 ≤ x6_2
                            · rw [if_pos c23] at H
                              have c23b0 := eq_true c23
                              try (have c23b5 := c23b0; simp only [ByteArray.size_extract, ByteArray.size_append, Int.natCast_add] at c23b5; (try rw [show ((⟨#[63]⟩ : ByteArray).size : Nat) = 1 from rfl] at c23b5); (try simp only [Int.natCast_one, Int.cast_ofNat_Int] at c23b5))
                              have c23b1 : decide (0 ≤ x6_2) = true := decide_eq_true c23
                              try (have c23b6 := c23b1; simp only [ByteArray.size_extract, ByteArray.size_append, Int.natCast_add] at c23b6; (try rw [show ((⟨#[63]⟩ : ByteArray).size : Nat) = 1 from rfl] at c23b6); (try simp only [Int.natCast_one, Int.cast_ofNat_Int] at c23b6))
                              clear c23
                              by_cases c24 : x6_2 ≤ (wrap64 (x6_2 + (((⟨#[63]⟩ : ByteArray) ++ ((rd_T30 t153 x7_1).f1)).size : Int)))
                              · rw [if_pos c24] at H
                                have c24b0 := eq_true c24
                                try (have c24b5 := c24b0; simp only [ByteArray.size_extract, ByteArray.size_append, Int.natCast_add] at c24b5; (try rw [show ((⟨#[63]⟩ : ByteArray).size : Nat) = 1 from rfl] at c24b5); (try simp only [Int.natCast_one, Int.cast_ofNat_Int] at c24b5))
                                have c24b1 : decide (x6_2 ≤ (wrap64 (x6_2 + (((⟨#[63]⟩ : ByteArray) ++ ((rd_T30 t153 x7_1).f1)).size : Int)))) = true := decide_eq_true c24
                                try (have c24b6 := c24b1; simp only [ByteArray.size_extract, ByteArray.size_append, Int.natCast_add] at c24b6; (try rw [show ((⟨#[63]⟩ : ByteArray).size : Nat) = 1 from rfl] at c24b6); (try simp only [Int.natCast_one, Int.cast_ofNat_Int] at c24b6))
                                by_cases c25 : (wrap64 (x6_2 + (((⟨#[63]⟩ : ByteArray) ++ ((rd_T30 t153 x7_1).f1)).size : Int))) ≤ (a0.size : Int)
                                · rw [if_pos c25] at H
                                  have c25b0 := eq_true c25
                                  try (have c25b5 := c25b0; simp only [ByteArray.size_extract, ByteArray.size_append, Int.natCast_add] at c25b5; (try rw [show ((⟨#[63]⟩ : ByteArray).size : Nat) = 1 from rfl] at c25b5); (try simp only [Int.natCast_one, Int.cast_ofNat_Int] at c25b5))
                                  have c25b1 : decide ((wrap64 (x6_2 + (((⟨#[63]⟩ : ByteArray) ++ ((rd_T30 t153 x7_1).f1)).size : Int))) ≤ (a0.size : Int)) = true := decide_eq_true c25
                                  try (have c25b6 := c25b1; simp only [ByteArray.size_extract, ByteArray.size_append, Int.natCast_add] at c25b6; (try rw [show ((⟨#[63]⟩ : ByteArray).size : Nat) = 1 from rfl] at c25b6); (try simp only [Int.natCast_one, Int.cast_ofNat_Int] at c25b6))
                                  by_cases c26 : (a0.extract (x6_2 : Int).toNat ((wrap64 (x6_2 + (((⟨#[63]⟩ : ByteArray) ++ ((rd_T30 t153 x7_1).f1)).size : Int))) : Int).toNat).toList = ((⟨#[63]⟩ : ByteArray) ++ ((rd_T30 t153 x7_1).f1)).toList
                                  · rw [if_pos c26] at H
                                    have c26b0 : ((a0.extract (x6_2 : Int).toNat ((wrap64 (x6_2 + (((⟨#[63]⟩ : ByteArray) ++ ((rd_T30 t153 x7_1).f1)).size : Int))) : Int).toNat).toList == ((⟨#[63]⟩ : ByteArray) ++ ((rd_T30 t153 x7_1).f1)).toList) = true := beq_iff_eq.mpr c26
                                    try (have c26b5 := c26b0; simp only [ByteArray.size_extract, ByteArray.size_append, Int.natCast_add] at c26b5; (try rw [show ((⟨#[63]⟩ : ByteArray).size : Nat) = 1 from rfl] at c26b5); (try simp only [Int.natCast_one, Int.cast_ofNat_Int] at c26b5))
                                    have c26b1 : ((a0.extract (x6_2 : Int).toNat ((wrap64 (x6_2 + (((⟨#[63]⟩ : ByteArray) ++ ((rd_T30 t153 x7_1).f1)).size : Int))) : Int).toNat).toList != ((⟨#[63]⟩ : ByteArray) ++ ((rd_T30 t153 x7_1).f1)).toList) = false := bne_eq_false_iff_eq.mpr c26
                                    try (have c26b6 := c26b1; simp only [ByteArray.size_extract, ByteArray.size_append, Int.natCast_add] at c26b6; (try rw [show ((⟨#[63]⟩ : ByteArray).size : Nat) = 1 from rfl] at c26b6); (try simp only [Int.natCast_one, Int.cast_ofNat_Int] at c26b6))
                                    clear c26
                                    by_cases c27 : ((⟨#[63]⟩ : ByteArray) ++ ((rd_T30 t153 x7_1).f1)).toList = ([] : List UInt8)
                                    · rw [if_pos c27] at H
                                      have c27b0 : (((⟨#[63]⟩ : ByteArray) ++ ((rd_T30 t153 x7_1).f1)).toList == ([] : List UInt8)) = true := beq_iff_eq.mpr c27
                                      try (have c27b5 := c27b0; simp only [ByteArray.size_extract, ByteArray.size_append, Int.natCast_add] at c27b5; (try rw [show ((⟨#[63]⟩ : ByteArray).size : Nat) = 1 from rfl] at c27b5); (try simp only [Int.natCast_one, Int.cast_ofNat_Int] at c27b5))
                                      have c27b1 : (((⟨#[63]⟩ : ByteArray) ++ ((rd_T30 t153 x7_1).f1)).toList != ([] : List UInt8)) = false := bne_eq_false_iff_eq.mpr c27
                                      try (have c27b6 := c27b1; simp only [ByteArray.size_extract, ByteArray.size_append, Int.natCast_add] at c27b6; (try rw [show ((⟨#[63]⟩ : ByteArray).size : Nat) = 1 from rfl] at c27b6); (try simp only [Int.natCast_one, Int.cast_ofNat_Int] at c27b6))
                                      clear c27
                                      obtain rfl := Option.some.inj H
                                      have p159 : 0 ≤ (x7_1 : Int) := of_decide_eq_true (by first | (with_reducible assumption) | assumption)
                                      have q159 : x7_1 < (t153.length : Int) := of_decide_eq_true (by first | (with_reducible assumption) | assumption)
                                      obtain ⟨ad159, e159, hx159_0, hx159_1, hx159_2⟩ := at_T30 (Kd.R_reads' HO_3.out).2.2 x7_1 p159 q159
                                      cases e159
                                      replace p159 := eq_true p159
                                      replace q159 := eq_true q159
                                      have p160 : 0 ≤ (x7_1 : Int) := of_decide_eq_true (by first | (with_reducible assumption) | assumption)
                                      have q160 : x7_1 < (t153.length : Int) := of_decide_eq_true (by first | (with_reducible assumption) | assumption)
                                      obtain ⟨ad160, e160, hx160_0, hx160_1, hx160_2⟩ := at_T30 (Kd.R_reads' HO_3.out).2.2 x7_1 p160 q160
                                      obtain rfl : ad159 = ad160 := (by injection e160)
                                      replace p160 := eq_true p160
                                      replace q160 := eq_true q160
                                      have p161 : 0 ≤ (x7_1 : Int) := of_decide_eq_true (by first | (with_reducible assumption) | assumption)
                                      have q161 : x7_1 < (t153.length : Int) := of_decide_eq_true (by first | (with_reducible assumption) | assumption)
                                      obtain ⟨ad161, e161, hx161_0, hx161_1, hx161_2⟩ := at_T30 (Kd.R_reads' HO_3.out).2.2 x7_1 p161 q161
                                      obtain rfl : ad159 = ad161 := (by injection e161)
                                      replace p161 := eq_true p161
                                      replace q161 := eq_true q161
                                      have p162 : 0 ≤ (x7_1 : Int) := of_decide_eq_true (by first | (with_reducible assumption) | assumption)
                                      have q162 : x7_1 < (t153.length : Int) := of_decide_eq_true (by first | (with_reducible assumption) | assumption)
                                      obtain ⟨ad162, e162, hx162_0, hx162_1, hx162_2⟩ := at_T30 (Kd.R_reads' HO_3.out).2.2 x7_1 p162 q162
                                      obtain rfl : ad159 = ad162 := (by injection e162)
                                      replace p162 := eq_true p162
                                      replace q162 := eq_true q162
                                      go_wp2
                                      go_ret
                                      exact ⟨by first | rfl | (simp [errW_none, errW_some] <;> rfl) | (simp [*, errW_none, errW_some] <;> rfl), by repeat (first | (with_reducible first | exact HB.out | apply below_alloc | apply pw_below_drewN | apply below_drew1) | exact HB.out)⟩
                                    · rw [if_neg c27] at H
                                      have c27b0 : (((⟨#[63]⟩ : ByteArray) ++ ((rd_T30 t153 x7_1).f1)).toList == ([] : List UInt8)) = false := beq_eq_false_iff_ne.mpr c27
                                      try (have c27b5 := c27b0; simp only [ByteArray.size_extract, ByteArray.size_append, Int.natCast_add] at c27b5; (try rw [show ((⟨#[63]⟩ : ByteArray).size : Nat) = 1 from rfl] at c27b5); (try simp only [Int.natCast_one, Int.cast_ofNat_Int] at c27b5))
                                      have c27b1 : (((⟨#[63]⟩ : ByteArray) ++ ((rd_T30 t153 x7_1).f1)).toList != ([] : List UInt8)) = true := bne_iff_ne.mpr c27
                                      try (have c27b6 := c27b1; simp only [ByteArray.size_extract, ByteArray.size_append, Int.natCast_add] at c27b6; (try rw [show ((⟨#[63]⟩ : ByteArray).size : Nat) = 1 from rfl] at c27b6); (try simp only [Int.natCast_one, Int.cast_ofNat_Int] at c27b6))
                                      have H' := Aside0.mk H
                                      clear H
                                      have p159 : 0 ≤ (x7_1 : Int) := of_decide_eq_true (by first | (with_reducible assumption) | assumption)
                                      have q159 : x7_1 < (t153.length : Int) := of_decide_eq_true (by first | (with_reducible assumption) | assumption)
                                      obtain ⟨ad159, e159, hx159_0, hx159_1, hx159_2⟩ := at_T30 (Kd.R_reads' HO_3.out).2.2 x7_1 p159 q159
                                      cases e159
                                      replace p159 := eq_true p159
                                      replace q159 := eq_true q159
                                      have p160 : 0 ≤ (x7_1 : Int) := of_decide_eq_true (by first | (with_reducible assumption) | assumption)
                                      have q160 : x7_1 < (t153.length : Int) := of_decide_eq_true (by first | (with_reducible assumption) | assumption)
                                      obtain ⟨ad160, e160, hx160_0, hx160_1, hx160_2⟩ := at_T30 (Kd.R_reads' HO_3.out).2.2 x7_1 p160 q160
                                      obtain rfl : ad159 = ad160 := (by injection e160)
                                      replace p160 := eq_true p160
                                      replace q160 := eq_true q160
                                      have p161 : 0 ≤ (x7_1 : Int) := of_decide_eq_true (by first | (with_reducible assumption) | assumption)
                                      have q161 : x7_1 < (t153.length : Int) := of_decide_eq_true (by first | (with_reducible assumption) | assumption)
                                      obtain ⟨ad161, e161, hx161_0, hx161_1, hx161_2⟩ := at_T30 (Kd.R_reads' HO_3.out).2.2 x7_1 p161 q161
                                      obtain rfl : ad159 = ad161 := (by injection e161)
                                      replace p161 := eq_true p161
                                      replace q161 := eq_true q161
                                      have p162 : 0 ≤ (x7_1 : Int) := of_decide_eq_true (by first | (with_reducible assumption) | assumption)
                                      have q162 : x7_1 < (t153.length : Int) := of_decide_eq_true (by first | (with_reducible assumption) | assumption)
                                      obtain ⟨ad162, e162, hx162_0, hx162_1, hx162_2⟩ := at_T30 (Kd.R_reads' HO_3.out).2.2 x7_1 p162 q162
                                      obtain rfl : ad159 = ad162 := (by injection e162)
                                      replace p162 := eq_true p162
                                      replace q162 := eq_true q162
                                      go_wp2
                                      go_roundg k2
                                      case measure => have := HK1.out; have := HK2.out; omega
                                      case rel => exact ⟨(wrap64 (x6_2 + (((⟨#[63]⟩ : ByteArray) ++ ((rd_T30 t153 x7_1).f1)).size : Int))), (wrap64 (x7_1 + 1)), (by first | rfl | (simp; done) | (simp [*]; done) | (simp only [ByteArray.size_append, Int.natCast_add]; rfl) | (simp only [List.beq_nil_eq, bne]; done) | (congr 1; simp only [bne]; done) | (simp [bne]; done) | (congr 1; simp only [bne_iff_ne]; done)), (by first | rfl | (simp; done) | (simp [*]; done) | (simp only [ByteArray.size_append, Int.natCast_add]; rfl) | (simp only [List.beq_nil_eq, bne]; done) | (congr 1; simp only [bne]; done) | (simp [bne]; done) | (congr 1; simp only [bne_iff_ne]; done)), H', ⟨by have := HK1.out; have := HK2.out; omega⟩, ⟨by (with_reducible repeat (first | apply Kd.R_alloc | apply Kd.R_drewN | apply Kd.R_drew)); exact HO_3.out⟩, ⟨by repeat (first | (with_reducible first | exact HB.out | apply below_alloc | apply pw_below_drewN | apply below_drew1) | exact HB.out)⟩⟩
                                  · rw [if_neg c26] at H
                                    have c26b0 : ((a0.extract (x6_2 : Int).toNat ((wrap64 (x6_2 + (((⟨#[63]⟩ : ByteArray) ++ ((rd_T30 t153 x7_1).f1)).size : Int))) : Int).toNat).toList == ((⟨#[63]⟩ : ByteArray) ++ ((rd_T30 t153 x7_1).f1)).toList) = false := beq_eq_false_iff_ne.mpr c26
                                    try (have c26b5 := c26b0; simp only [ByteArray.size_extract, ByteArray.size_append, Int.natCast_add] at c26b5; (try rw [show ((⟨#[63]⟩ : ByteArray).size : Nat) = 1 from rfl] at c26b5); (try simp only [Int.natCast_one, Int.cast_ofNat_Int] at c26b5))
                                    have c26b1 : ((a0.extract (x6_2 : Int).toNat ((wrap64 (x6_2 + (((⟨#[63]⟩ : ByteArray) ++ ((rd_T30 t153 x7_1).f1)).size : Int))) : Int).toNat).toList != ((⟨#[63]⟩ : ByteArray) ++ ((rd_T30 t153 x7_1).f1)).toList) = true := bne_iff_ne.mpr c26
                                    try (have c26b6 := c26b1; simp only [ByteArray.size_extract, ByteArray.size_append, Int.natCast_add] at c26b6; (try rw [show ((⟨#[63]⟩ : ByteArray).size : Nat) = 1 from rfl] at c26b6); (try simp only [Int.natCast_one, Int.cast_ofNat_Int] at c26b6))
                                    obtain rfl := Option.some.inj H
                                    have p159 : 0 ≤ (x7_1 : Int) := of_decide_eq_true (by first | (with_reducible assumption) | assumption)
                                    have q159 : x7_1 < (t153.length : Int) := of_decide_eq_true (by first | (with_reducible assumption) | assumption)
                                    obtain ⟨ad159, e159, hx159_0, hx159_1, hx159_2⟩ := at_T30 (Kd.R_reads' HO_3.out).2.2 x7_1 p159 q159
                                    cases e159
                                    replace p159 := eq_true p159
                                    replace q159 := eq_true q159
                                    have p160 : 0 ≤ (x7_1 : Int) := of_decide_eq_true (by first | (with_reducible assumption) | assumption)
                                    have q160 : x7_1 < (t153.length : Int) := of_decide_eq_true (by first | (with_reducible assumption) | assumption)
                                    obtain ⟨ad160, e160, hx160_0, hx160_1, hx160_2⟩ := at_T30 (Kd.R_reads' HO_3.out).2.2 x7_1 p160 q160
                                    obtain rfl : ad159 = ad160 := (by injection e160)
                                    replace p160 := eq_true p160
                                    replace q160 := eq_true q160
                                    have p161 : 0 ≤ (x7_1 : Int) := of_decide_eq_true (by first | (with_reducible assumption) | assumption)
                                    have q161 : x7_1 < (t153.length : Int) := of_decide_eq_true (by first | (with_reducible assumption) | assumption)
                                    obtain ⟨ad161, e161, hx161_0, hx161_1, hx161_2⟩ := at_T30 (Kd.R_reads' HO_3.out).2.2 x7_1 p161 q161
                                    obtain rfl : ad159 = ad161 := (by injection e161)
                                    replace p161 := eq_true p161
                                    replace q161 := eq_true q161
                                    have p162 : 0 ≤ (x7_1 : Int) := of_decide_eq_true (by first | (with_reducible assumption) | assumption)
                                    have q162 : x7_1 < (t153.length : Int) := of_decide_eq_true (by first | (with_reducible assumption) | assumption)
                                    obtain ⟨ad162, e162, hx162_0, hx162_1, hx162_2⟩ := at_T30 (Kd.R_reads' HO_3.out).2.2 x7_1 p162 q162
                                    obtain rfl : ad159 = ad162 := (by injection e162)
                                    replace p162 := eq_true p162
                                    replace q162 := eq_true q162
                                    go_wp2
                                    go_ret
                                    exact ⟨by first | rfl | (simp [errW_none, errW_some] <;> rfl) | (simp [*, errW_none, errW_some] <;> rfl), by repeat (first | (with_reducible first | exact HB.out | apply below_alloc | apply pw_below_drewN | apply below_drew1) | exact HB.out)⟩
                                · rw [if_neg c25] at H
                                  exact absurd H (by simp)
                              · rw [if_neg c24] at H
                                exact absurd H (by simp)
                            · rw [if_neg c23] at H
                              exact absurd H (by simp)
                        · rw [if_neg c21] at H
                          have c21b0 : (((rd_T30 t153 x7_1).f2) == x6_2) = false := beq_eq_false_iff_ne.mpr c21
                          try (have c21b5 := c21b0; simp only [ByteArray.size_extract, ByteArray.size_append, Int.natCast_add] at c21b5; (try rw [show ((⟨#[63]⟩ : ByteArray).size : Nat) = 1 from rfl] at c21b5); (try simp only [Int.natCast_one, Int.cast_ofNat_Int] at c21b5))
                          have c21b1 : (((rd_T30 t153 x7_1).f2) != x6_2) = true := bne_iff_ne.mpr c21
                          try (have c21b6 := c21b1; simp only [ByteArray.size_extract, ByteArray.size_append, Int.natCast_add] at c21b6; (try rw [show ((⟨#[63]⟩ : ByteArray).size : Nat) = 1 from rfl] at c21b6); (try simp only [Int.natCast_one, Int.cast_ofNat_Int] at c21b6))
                          obtain rfl := Option.some.inj H
                          have p159 : 0 ≤ (x7_1 : Int) := of_decide_eq_true (by first | (with_reducible assumption) | assumption)
                          have q159 : x7_1 < (t153.length : Int) := of_decide_eq_true (by first | (with_reducible assumption) | assumption)
                          obtain ⟨ad159, e159, hx159_0, hx159_1, hx159_2⟩ := at_T30 (Kd.R_reads' HO_3.out).2.2 x7_1 p159 q159
                          cases e159
                          replace p159 := eq_true p159
                          replace q159 := eq_true q159
                          have p160 : 0 ≤ (x7_1 : Int) := of_decide_eq_true (by first | (with_reducible assumption) | assumption)
                          have q160 : x7_1 < (t153.length : Int) := of_decide_eq_true (by first | (with_reducible assumption) | assumption)
                          obtain ⟨ad160, e160, hx160_0, hx160_1, hx160_2⟩ := at_T30 (Kd.R_reads' HO_3.out).2.2 x7_1 p160 q160
                          obtain rfl : ad159 = ad160 := (by injection e160)
                          replace p160 := eq_true p160
                          replace q160 := eq_true q160
                          have p161 : 0 ≤ (x7_1 : Int) := of_decide_eq_true (by first | (with_reducible assumption) | assumption)
                          have q161 : x7_1 < (t153.length : Int) := of_decide_eq_true (by first | (with_reducible assumption) | assumption)
                          obtain ⟨ad161, e161, hx161_0, hx161_1, hx161_2⟩ := at_T30 (Kd.R_reads' HO_3.out).2.2 x7_1 p161 q161
                          obtain rfl : ad159 = ad161 := (by injection e161)
                          replace p161 := eq_true p161
                          replace q161 := eq_true q161
                          have p162 : 0 ≤ (x7_1 : Int) := of_decide_eq_true (by first | (with_reducible assumption) | assumption)
                          have q162 : x7_1 < (t153.length : Int) := of_decide_eq_true (by first | (with_reducible assumption) | assumption)
                          obtain ⟨ad162, e162, hx162_0, hx162_1, hx162_2⟩ := at_T30 (Kd.R_reads' HO_3.out).2.2 x7_1 p162 q162
                          obtain rfl : ad159 = ad162 := (by injection e162)
                          replace p162 := eq_true p162
                          replace q162 := eq_true q162
                          go_wp2
                          go_ret
                          exact ⟨by first | rfl | (simp [errW_none, errW_some] <;> rfl) | (simp [*, errW_none, errW_some] <;> rfl), by repeat (first | (with_reducible first | exact HB.out | apply below_alloc | apply pw_below_drewN | apply below_drew1) | exact HB.out)⟩
                      · rw [if_neg c20] at H
                        exact absurd H (by simp)
                    · rw [if_neg c19] at H
                      have c19b0 : (((rd_T30 t153 x7_1).f0) == 2) = false := beq_eq_false_iff_ne.mpr c19
                      try (have c19b5 := c19b0; simp only [ByteArray.size_extract, ByteArray.size_append, Int.natCast_add] at c19b5; (try rw [show ((⟨#[63]⟩ : ByteArray).size : Nat) = 1 from rfl] at c19b5); (try simp only [Int.natCast_one, Int.cast_ofNat_Int] at c19b5))
                      have c19b1 : (((rd_T30 t153 x7_1).f0) != 2) = true := bne_iff_ne.mpr c19
                      try (have c19b6 := c19b1; simp only [ByteArray.size_extract, ByteArray.size_append, Int.natCast_add] at c19b6; (try rw [show ((⟨#[63]⟩ : ByteArray).size : Nat) = 1 from rfl] at c19b6); (try simp only [Int.natCast_one, Int.cast_ofNat_Int] at c19b6))
                      by_cases c28 : ((rd_T30 t153 x7_1).f2) = x6_2
                      · rw [if_pos c28] at H
                        have c28b0 : (((rd_T30 t153 x7_1).f2) == x6_2) = true := beq_iff_eq.mpr c28
                        try (have c28b5 := c28b0; simp only [ByteArray.size_extract, ByteArray.size_append, Int.natCast_add] at c28b5; (try rw [show ((⟨#[63]⟩ : ByteArray).size : Nat) = 1 from rfl] at c28b5); (try simp only [Int.natCast_one, Int.cast_ofNat_Int] at c28b5))
                        have c28b1 : (((rd_T30 t153 x7_1).f2) != x6_2) = false := bne_eq_false_iff_eq.mpr c28
                        try (have c28b6 := c28b1; simp only [ByteArray.size_extract, ByteArray.size_append, Int.natCast_add] at c28b6; (try rw [show ((⟨#[63]⟩ : ByteArray).size : Nat) = 1 from rfl] at c28b6); (try simp only [Int.natCast_one, Int.cast_ofNat_Int] at c28b6))
                        clear c28
                        by_cases c29 : (wrap64 ((a0.size : Int) - x6_2)) < (((rd_T30 t153 x7_1).f1).size : Int)
                        · rw [if_pos c29] at H
                          have c29b0 : decide ((wrap64 ((a0.size : Int) - x6_2)) < (((rd_T30 t153 x7_1).f1).size : Int)) = true := decide_eq_true c29
                          try (have c29b5 := c29b0; simp only [ByteArray.size_extract, ByteArray.size_append, Int.natCast_add] at c29b5; (try rw [show ((⟨#[63]⟩ : ByteArray).size : Nat) = 1 from rfl] at c29b5); (try simp only [Int.natCast_one, Int.cast_ofNat_Int] at c29b5))
                          clear c29
                          obtain rfl := Option.some.inj H
                          have p159 : 0 ≤ (x7_1 : Int) := of_decide_eq_true (by first | (with_reducible assumption) | assumption)
                          have q159 : x7_1 < (t153.length : Int) := of_decide_eq_true (by first | (with_reducible assumption) | assumption)
                          obtain ⟨ad159, e159, hx159_0, hx159_1, hx159_2⟩ := at_T30 (Kd.R_reads' HO_3.out).2.2 x7_1 p159 q159
                          cases e159
                          replace p159 := eq_true p159
                          replace q159 := eq_true q159
                          have p160 : 0 ≤ (x7_1 : Int) := of_decide_eq_true (by first | (with_reducible assumption) | assumption)
                          have q160 : x7_1 < (t153.length : Int) := of_decide_eq_true (by first | (with_reducible assumption) | assumption)
                          obtain ⟨ad160, e160, hx160_0, hx160_1, hx160_2⟩ := at_T30 (Kd.R_reads' HO_3.out).2.2 x7_1 p160 q160
                          obtain rfl : ad159 = ad160 := (by injection e160)
                          replace p160 := eq_true p160
                          replace q160 := eq_true q160
                          have p161 : 0 ≤ (x7_1 : Int) := of_decide_eq_true (by first | (with_reducible assumption) | assumption)
                          have q161 : x7_1 < (t153.length : Int) := of_decide_eq_true (by first | (with_reducible assumption) | assumption)
                          obtain ⟨ad161, e161, hx161_0, hx161_1, hx161_2⟩ := at_T30 (Kd.R_reads' HO_3.out).2.2 x7_1 p161 q161
                          obtain rfl : ad159 = ad161 := (by injection e161)
                          replace p161 := eq_true p161
                          replace q161 := eq_true q161
                          have p163 : 0 ≤ (x7_1 : Int) := of_decide_eq_true (by first | (with_reducible assumption) | assumption)
                          have q163 : x7_1 < (t153.length : Int) := of_decide_eq_true (by first | (with_reducible assumption) | assumption)
                          obtain ⟨ad163, e163, hx163_0, hx163_1, hx163_2⟩ := at_T30 (Kd.R_reads' HO_3.out).2.2 x7_1 p163 q163
                          obtain rfl : ad159 = ad163 := (by injection e163)
                          replace p163 := eq_true p163
                          replace q163 := eq_true q163
                          go_wp2
                          go_ret
                          exact ⟨by first | rfl | (simp [errW_none, errW_some] <;> rfl) | (simp [*, errW_none, errW_some] <;> rfl), by repeat (first | (with_reducible first | exact HB.out | apply below_alloc | apply pw_below_drewN | apply below_drew1) | exact HB.out)⟩
                        · rw [if_neg c29] at H
                          have c29b0 : decide ((wrap64 ((a0.size : Int) - x6_2)) < (((rd_T30 t153 x7_1).f1).size : Int)) = false := decide_eq_false c29
                          try (have c29b5 := c29b0; simp only [ByteArray.size_extract, ByteArray.size_append, Int.natCast_add] at c29b5; (try rw [show ((⟨#[63]⟩ : ByteArray).size : Nat) = 1 from rfl] at c29b5); (try simp only [Int.natCast_one, Int.cast_ofNat_Int] at c29b5))
                          clear c29
                          by_cases c30 : 0 ≤ x6_2
                          · rw [if_pos c30] at H
                            have c30b0 := eq_true c30
                            try (have c30b5 := c30b0; simp only [ByteArray.size_extract, ByteArray.size_append, Int.natCast_add] at c30b5; (try rw [show ((⟨#[63]⟩ : ByteArray).size : Nat) = 1 from rfl] at c30b5); (try simp only [Int.natCast_one, Int.cast_ofNat_Int] at c30b5))
                            have c30b1 : decide (0 ≤ x6_2) = true := decide_eq_true c30
                            try (have c30b6 := c30b1; simp only [ByteArray.size_extract, ByteArray.size_append, Int.natCast_add] at c30b6; (try rw [show ((⟨#[63]⟩ : ByteArray).size : Nat) = 1 from rfl] at c30b6); (try simp only [Int.natCast_one, Int.cast_ofNat_Int] at c30b6))
                            clear c30
                            by_cases c31 : x6_2 ≤ (wrap64 (x6_2 + (((rd_T30 t153 x7_1).f1).size : Int)))
                            · rw [if_pos c31] at H
                              have c31b0 := eq_true c31
                              try (have c31b5 := c31b0; simp only [ByteArray.size_extract, ByteArray.size_append, Int.natCast_add] at c31b5; (try rw [show ((⟨#[63]⟩ : ByteArray).size : Nat) = 1 from rfl] at c31b5); (try simp only [Int.natCast_one, Int.cast_ofNat_Int] at c31b5))
                              have c31b1 : decide (x6_2 ≤ (wrap64 (x6_2 + (((rd_T30 t153 x7_1).f1).size : Int)))) = true := decide_eq_true c31
                              try (have c31b6 := c31b1; simp only [ByteArray.size_extract, ByteArray.size_append, Int.natCast_add] at c31b6; (try rw [show ((⟨#[63]⟩ : ByteArray).size : Nat) = 1 from rfl] at c31b6); (try simp only [Int.natCast_one, Int.cast_ofNat_Int] at c31b6))
                              by_cases c32 : (wrap64 (x6_2 + (((rd_T30 t153 x7_1).f1).size : Int))) ≤ (a0.size : Int)
                              · rw [if_pos c32] at H
                                have c32b0 := eq_true c32
                                try (have c32b5 := c32b0; simp only [ByteArray.size_extract, ByteArray.size_append, Int.natCast_add] at c32b5; (try rw [show ((⟨#[63]⟩ : ByteArray).size : Nat) = 1 from rfl] at c32b5); (try simp only [Int.natCast_one, Int.cast_ofNat_Int] at c32b5))
                                have c32b1 : decide ((wrap64 (x6_2 + (((rd_T30 t153 x7_1).f1).size : Int))) ≤ (a0.size : Int)) = true := decide_eq_true c32
                                try (have c32b6 := c32b1; simp only [ByteArray.size_extract, ByteArray.size_append, Int.natCast_add] at c32b6; (try rw [show ((⟨#[63]⟩ : ByteArray).size : Nat) = 1 from rfl] at c32b6); (try simp only [Int.natCast_one, Int.cast_ofNat_Int] at c32b6))
                                by_cases c33 : (a0.extract (x6_2 : Int).toNat ((wrap64 (x6_2 + (((rd_T30 t153 x7_1).f1).size : Int))) : Int).toNat).toList = ((rd_T30 t153 x7_1).f1).toList
                                · rw [if_pos c33] at H
                                  have c33b0 : ((a0.extract (x6_2 : Int).toNat ((wrap64 (x6_2 + (((rd_T30 t153 x7_1).f1).size : Int))) : Int).toNat).toList == ((rd_T30 t153 x7_1).f1).toList) = true := beq_iff_eq.mpr c33
                                  try (have c33b5 := c33b0; simp only [ByteArray.size_extract, ByteArray.size_append, Int.natCast_add] at c33b5; (try rw [show ((⟨#[63]⟩ : ByteArray).size : Nat) = 1 from rfl] at c33b5); (try simp only [Int.natCast_one, Int.cast_ofNat_Int] at c33b5))
                                  have c33b1 : ((a0.extract (x6_2 : Int).toNat ((wrap64 (x6_2 + (((rd_T30 t153 x7_1).f1).size : Int))) : Int).toNat).toList != ((rd_T30 t153 x7_1).f1).toList) = false := bne_eq_false_iff_eq.mpr c33
                                  try (have c33b6 := c33b1; simp only [ByteArray.size_extract, ByteArray.size_append, Int.natCast_add] at c33b6; (try rw [show ((⟨#[63]⟩ : ByteArray).size : Nat) = 1 from rfl] at c33b6); (try simp only [Int.natCast_one, Int.cast_ofNat_Int] at c33b6))
                                  clear c33
                                  by_cases c34 : ((rd_T30 t153 x7_1).f1).toList = ([] : List UInt8)
                                  · rw [if_pos c34] at H
                                    have c34b0 : (((rd_T30 t153 x7_1).f1).toList == ([] : List UInt8)) = true := beq_iff_eq.mpr c34
                                    try (have c34b5 := c34b0; simp only [ByteArray.size_extract, ByteArray.size_append, Int.natCast_add] at c34b5; (try rw [show ((⟨#[63]⟩ : ByteArray).size : Nat) = 1 from rfl] at c34b5); (try simp only [Int.natCast_one, Int.cast_ofNat_Int] at c34b5))
                                    have c34b1 : (((rd_T30 t153 x7_1).f1).toList != ([] : List UInt8)) = false := bne_eq_false_iff_eq.mpr c34
                                    try (have c34b6 := c34b1; simp only [ByteArray.size_extract, ByteArray.size_append, Int.natCast_add] at c34b6; (try rw [show ((⟨#[63]⟩ : ByteArray).size : Nat) = 1 from rfl] at c34b6); (try simp only [Int.natCast_one, Int.cast_ofNat_Int] at c34b6))
                                    clear c34
                                    obtain rfl := Option.some.inj H
                                    have p159 : 0 ≤ (x7_1 : Int) := of_decide_eq_true (by first | (with_reducible assumption) | assumption)
                                    have q159 : x7_1 < (t153.length : Int) := of_decide_eq_true (by first | (with_reducible assumption) | assumption)
                                    obtain ⟨ad159, e159, hx159_0, hx159_1, hx159_2⟩ := at_T30 (Kd.R_reads' HO_3.out).2.2 x7_1 p159 q159
                                    cases e159
                                    replace p159 := eq_true p159
                                    replace q159 := eq_true q159
                                    have p160 : 0 ≤ (x7_1 : Int) := of_decide_eq_true (by first | (with_reducible assumption) | assumption)
                                    have q160 : x7_1 < (t153.length : Int) := of_decide_eq_true (by first | (with_reducible assumption) | assumption)
                                    obtain ⟨ad160, e160, hx160_0, hx160_1, hx160_2⟩ := at_T30 (Kd.R_reads' HO_3.out).2.2 x7_1 p160 q160
                                    obtain rfl : ad159 = ad160 := (by injection e160)
                                    replace p160 := eq_true p160
                                    replace q160 := eq_true q160
                                    have p161 : 0 ≤ (x7_1 : Int) := of_decide_eq_true (by first | (with_reducible assumption) | assumption)
                                    have q161 : x7_1 < (t153.length : Int) := of_decide_eq_true (by first | (with_reducible assumption) | assumption)
                                    obtain ⟨ad161, e161, hx161_0, hx161_1, hx161_2⟩ := at_T30 (Kd.R_reads' HO_3.out).2.2 x7_1 p161 q161
                                    obtain rfl : ad159 = ad161 := (by injection e161)
                                    replace p161 := eq_true p161
                                    replace q161 := eq_true q161
                                    have p163 : 0 ≤ (x7_1 : Int) := of_decide_eq_true (by first | (with_reducible assumption) | assumption)
                                    have q163 : x7_1 < (t153.length : Int) := of_decide_eq_true (by first | (with_reducible assumption) | assumption)
                                    obtain ⟨ad163, e163, hx163_0, hx163_1, hx163_2⟩ := at_T30 (Kd.R_reads' HO_3.out).2.2 x7_1 p163 q163
                                    obtain rfl : ad159 = ad163 := (by injection e163)
                                    replace p163 := eq_true p163
                                    replace q163 := eq_true q163
                                    go_wp2
                                    go_ret
                                    exact ⟨by first | rfl | (simp [errW_none, errW_some] <;> rfl) | (simp [*, errW_none, errW_some] <;> rfl), by repeat (first | (with_reducible first | exact HB.out | apply below_alloc | apply pw_below_drewN | apply below_drew1) | exact HB.out)⟩
                                  · rw [if_neg c34] at H
                                    have c34b0 : (((rd_T30 t153 x7_1).f1).toList == ([] : List UInt8)) = false := beq_eq_false_iff_ne.mpr c34
                                    try (have c34b5 := c34b0; simp only [ByteArray.size_extract, ByteArray.size_append, Int.natCast_add] at c34b5; (try rw [show ((⟨#[63]⟩ : ByteArray).size : Nat) = 1 from rfl] at c34b5); (try simp only [Int.natCast_one, Int.cast_ofNat_Int] at c34b5))
                                    have c34b1 : (((rd_T30 t153 x7_1).f1).toList != ([] : List UInt8)) = true := bne_iff_ne.mpr c34
                                    try (have c34b6 := c34b1; simp only [ByteArray.size_extract, ByteArray.size_append, Int.natCast_add] at c34b6; (try rw [show ((⟨#[63]⟩ : ByteArray).size : Nat) = 1 from rfl] at c34b6); (try simp only [Int.natCast_one, Int.cast_ofNat_Int] at c34b6))
                                    have H' := Aside0.mk H
                                    clear H
                                    have p159 : 0 ≤ (x7_1 : Int) := of_decide_eq_true (by first | (with_reducible assumption) | assumption)
                                    have q159 : x7_1 < (t153.length : Int) := of_decide_eq_true (by first | (with_reducible assumption) | assumption)
                                    obtain ⟨ad159, e159, hx159_0, hx159_1, hx159_2⟩ := at_T30 (Kd.R_reads' HO_3.out).2.2 x7_1 p159 q159
                                    cases e159
                                    replace p159 := eq_true p159
                                    replace q159 := eq_true q159
                                    have p160 : 0 ≤ (x7_1 : Int) := of_decide_eq_true (by first | (with_reducible assumption) | assumption)
                                    have q160 : x7_1 < (t153.length : Int) := of_decide_eq_true (by first | (with_reducible assumption) | assumption)
                                    obtain ⟨ad160, e160, hx160_0, hx160_1, hx160_2⟩ := at_T30 (Kd.R_reads' HO_3.out).2.2 x7_1 p160 q160
                                    obtain rfl : ad159 = ad160 := (by injection e160)
                                    replace p160 := eq_true p160
                                    replace q160 := eq_true q160
                                    have p161 : 0 ≤ (x7_1 : Int) := of_decide_eq_true (by first | (with_reducible assumption) | assumption)
                                    have q161 : x7_1 < (t153.length : Int) := of_decide_eq_true (by first | (with_reducible assumption) | assumption)
                                    obtain ⟨ad161, e161, hx161_0, hx161_1, hx161_2⟩ := at_T30 (Kd.R_reads' HO_3.out).2.2 x7_1 p161 q161
                                    obtain rfl : ad159 = ad161 := (by injection e161)
                                    replace p161 := eq_true p161
                                    replace q161 := eq_true q161
                                    have p163 : 0 ≤ (x7_1 : Int) := of_decide_eq_true (by first | (with_reducible assumption) | assumption)
                                    have q163 : x7_1 < (t153.length : Int) := of_decide_eq_true (by first | (with_reducible assumption) | assumption)
                                    obtain ⟨ad163, e163, hx163_0, hx163_1, hx163_2⟩ := at_T30 (Kd.R_reads' HO_3.out).2.2 x7_1 p163 q163
                                    obtain rfl : ad159 = ad163 := (by injection e163)
                                    replace p163 := eq_true p163
                                    replace q163 := eq_true q163
                                    go_wp2
                                    go_roundg k2
                                    case measure => have := HK1.out; have := HK2.out; omega
                                    case rel => exact ⟨(wrap64 (x6_2 + (((rd_T30 t153 x7_1).f1).size : Int))), (wrap64 (x7_1 + 1)), (by first | rfl | (simp; done) | (simp [*]; done) | (simp only [ByteArray.size_append, Int.natCast_add]; rfl) | (simp only [List.beq_nil_eq, bne]; done) | (congr 1; simp only [bne]; done) | (simp [bne]; done) | (congr 1; simp only [bne_iff_ne]; done)), (by first | rfl | (simp; done) | (simp [*]; done) | (simp only [ByteArray.size_append, Int.natCast_add]; rfl) | (simp only [List.beq_nil_eq, bne]; done) | (congr 1; simp only [bne]; done) | (simp [bne]; done) | (congr 1; simp only [bne_iff_ne]; done)), H', ⟨by have := HK1.out; have := HK2.out; omega⟩, ⟨by (with_reducible repeat (first | apply Kd.R_alloc | apply Kd.R_drewN | apply Kd.R_drew)); exact HO_3.out⟩, ⟨by repeat (first | (with_reducible first | exact HB.out | apply below_alloc | apply pw_below_drewN | apply below_drew1) | exact HB.out)⟩⟩
                                · rw [if_neg c33] at H
                                  have c33b0 : ((a0.extract (x6_2 : Int).toNat ((wrap64 (x6_2 + (((rd_T30 t153 x7_1).f1).size : Int))) : Int).toNat).toList == ((rd_T30 t153 x7_1).f1).toList) = false := beq_eq_false_iff_ne.mpr c33
                                  try (have c33b5 := c33b0; simp only [ByteArray.size_extract, ByteArray.size_append, Int.natCast_add] at c33b5; (try rw [show ((⟨#[63]⟩ : ByteArray).size : Nat) = 1 from rfl] at c33b5); (try simp only [Int.natCast_one, Int.cast_ofNat_Int] at c33b5))
                                  have c33b1 : ((a0.extract (x6_2 : Int).toNat ((wrap64 (x6_2 + (((rd_T30 t153 x7_1).f1).size : Int))) : Int).toNat).toList != ((rd_T30 t153 x7_1).f1).toList) = true := bne_iff_ne.mpr c33
                                  try (have c33b6 := c33b1; simp only [ByteArray.size_extract, ByteArray.size_append, Int.natCast_add] at c33b6; (try rw [show ((⟨#[63]⟩ : ByteArray).size : Nat) = 1 from rfl] at c33b6); (try simp only [Int.natCast_one, Int.cast_ofNat_Int] at c33b6))
                                  obtain rfl := Option.some.inj H
                                  have p159 : 0 ≤ (x7_1 : Int) := of_decide_eq_true (by first | (with_reducible assumption) | assumption)
                                  have q159 : x7_1 < (t153.length : Int) := of_decide_eq_true (by first | (with_reducible assumption) | assumption)
                                  obtain ⟨ad159, e159, hx159_0, hx159_1, hx159_2⟩ := at_T30 (Kd.R_reads' HO_3.out).2.2 x7_1 p159 q159
                                  cases e159
                                  replace p159 := eq_true p159
                                  replace q159 := eq_true q159
                                  have p160 : 0 ≤ (x7_1 : Int) := of_decide_eq_true (by first | (with_reducible assumption) | assumption)
                                  have q160 : x7_1 < (t153.length : Int) := of_decide_eq_true (by first | (with_reducible assumption) | assumption)
                                  obtain ⟨ad160, e160, hx160_0, hx160_1, hx160_2⟩ := at_T30 (Kd.R_reads' HO_3.out).2.2 x7_1 p160 q160
                                  obtain rfl : ad159 = ad160 := (by injection e160)
                                  replace p160 := eq_true p160
                                  replace q160 := eq_true q160
                                  have p161 : 0 ≤ (x7_1 : Int) := of_decide_eq_true (by first | (with_reducible assumption) | assumption)
                                  have q161 : x7_1 < (t153.length : Int) := of_decide_eq_true (by first | (with_reducible assumption) | assumption)
                                  obtain ⟨ad161, e161, hx161_0, hx161_1, hx161_2⟩ := at_T30 (Kd.R_reads' HO_3.out).2.2 x7_1 p161 q161
                                  obtain rfl : ad159 = ad161 := (by injection e161)
                                  replace p161 := eq_true p161
                                  replace q161 := eq_true q161
                                  have p163 : 0 ≤ (x7_1 : Int) := of_decide_eq_true (by first | (with_reducible assumption) | assumption)
                                  have q163 : x7_1 < (t153.length : Int) := of_decide_eq_true (by first | (with_reducible assumption) | assumption)
                                  obtain ⟨ad163, e163, hx163_0, hx163_1, hx163_2⟩ := at_T30 (Kd.R_reads' HO_3.out).2.2 x7_1 p163 q163
                                  obtain rfl : ad159 = ad163 := (by injection e163)
                                  replace p163 := eq_true p163
                                  replace q163 := eq_true q163
                                  go_wp2
                                  go_ret
                                  exact ⟨by first | rfl | (simp [errW_none, errW_some] <;> rfl) | (simp [*, errW_none, errW_some] <;> rfl), by repeat (first | (with_reducible first | exact HB.out | apply below_alloc | apply pw_below_drewN | apply below_drew1) | exact HB.out)⟩
                              · rw [if_neg c32] at H
                                exact absurd H (by simp)
                            · rw [if_neg c31] at H
                              exact absurd H (by simp)
                          · rw [if_neg c30] at H
                            exact absurd H (by simp)
                      · rw [if_neg c28] at H
                        have c28b0 : (((rd_T30 t153 x7_1).f2) == x6_2) = false := beq_eq_false_iff_ne.mpr c28
                        try (have c28b5 := c28b0; simp only [ByteArray.size_extract, ByteArray.size_append, Int.natCast_add] at c28b5; (try rw [show ((⟨#[63]⟩ : ByteArray).size : Nat) = 1 from rfl] at c28b5); (try simp only [Int.natCast_one, Int.cast_ofNat_Int] at c28b5))
                        have c28b1 : (((rd_T30 t153 x7_1).f2) != x6_2) = true := bne_iff_ne.mpr c28
                        try (have c28b6 := c28b1; simp only [ByteArray.size_extract, ByteArray.size_append, Int.natCast_add] at c28b6; (try rw [show ((⟨#[63]⟩ : ByteArray).size : Nat) = 1 from rfl] at c28b6); (try simp only [Int.natCast_one, Int.cast_ofNat_Int] at c28b6))
                        obtain rfl := Option.some.inj H
                        have p159 : 0 ≤ (x7_1 : Int) := of_decide_eq_true (by first | (with_reducible assumption) | assumption)
                        have q159 : x7_1 < (t153.length : Int) := of_decide_eq_true (by first | (with_reducible assumption) | assumption)
                        obtain ⟨ad159, e159, hx159_0, hx159_1, hx159_2⟩ := at_T30 (Kd.R_reads' HO_3.out).2.2 x7_1 p159 q159
                        cases e159
                        replace p159 := eq_true p159
                        replace q159 := eq_true q159
                        have p160 : 0 ≤ (x7_1 : Int) := of_decide_eq_true (by first | (with_reducible assumption) | assumption)
                        have q160 : x7_1 < (t153.length : Int) := of_decide_eq_true (by first | (with_reducible assumption) | assumption)
                        obtain ⟨ad160, e160, hx160_0, hx160_1, hx160_2⟩ := at_T30 (Kd.R_reads' HO_3.out).2.2 x7_1 p160 q160
                        obtain rfl : ad159 = ad160 := (by injection e160)
                        replace p160 := eq_true p160
                        replace q160 := eq_true q160
                        have p161 : 0 ≤ (x7_1 : Int) := of_decide_eq_true (by first | (with_reducible assumption) | assumption)
                        have q161 : x7_1 < (t153.length : Int) := of_decide_eq_true (by first | (with_reducible assumption) | assumption)
                        obtain ⟨ad161, e161, hx161_0, hx161_1, hx161_2⟩ := at_T30 (Kd.R_reads' HO_3.out).2.2 x7_1 p161 q161
                        obtain rfl : ad159 = ad161 := (by injection e161)
                        replace p161 := eq_true p161
                        replace q161 := eq_true q161
                        have p163 : 0 ≤ (x7_1 : Int) := of_decide_eq_true (by first | (with_reducible assumption) | assumption)
                        have q163 : x7_1 < (t153.length : Int) := of_decide_eq_true (by first | (with_reducible assumption) | assumption)
                        obtain ⟨ad163, e163, hx163_0, hx163_1, hx163_2⟩ := at_T30 (Kd.R_reads' HO_3.out).2.2 x7_1 p163 q163
                        obtain rfl : ad159 = ad163 := (by injection e163)
                        replace p163 := eq_true p163
                        replace q163 := eq_true q163
                        go_wp2
                        go_ret
                        exact ⟨by first | rfl | (simp [errW_none, errW_some] <;> rfl) | (simp [*, errW_none, errW_some] <;> rfl), by repeat (first | (with_reducible first | exact HB.out | apply below_alloc | apply pw_below_drewN | apply below_drew1) | exact HB.out)⟩
                · rw [if_neg c8] at H
                  exact absurd H (by simp)
              · rw [if_neg c7] at H
                exact absurd H (by simp)
        · rw [if_neg c5] at H
          have c5b0 : decide (x7_1 < (t153.length : Int)) = false := decide_eq_false c5
          try (have c5b5 := c5b0; simp only [ByteArray.size_extract, ByteArray.size_append, Int.natCast_add] at c5b5; (try rw [show ((⟨#[63]⟩ : ByteArray).size : Nat) = 1 from rfl] at c5b5); (try simp only [Int.natCast_one, Int.cast_ofNat_Int] at c5b5))
          clear c5
          have H' := Aside0.mk H
          clear H
          obtain ⟨Ao35, co35, eo35⟩ := Kd.R_slice HO_3.out
          subst eo35
          go_wp2
          go_loopg [6] k1 (fun kq v6 w' => ∃ (x6_2 : Int), v6 = .int .i64 x6_2 ∧ Aside0 (sinewlaw08_TokenPlaces.l2 kq a0 x6_2 = some r) ∧ Aside0 (kq ≤ k1) ∧ Aside0 (Below w.heap.size w w'))
          case atStart => exact ⟨(x6_1), (by first | rfl | (simp; done) | (simp [*]; done) | (simp only [ByteArray.size_append, Int.natCast_add]; rfl) | (simp only [List.beq_nil_eq, bne]; done) | (congr 1; simp only [bne]; done) | (simp [bne]; done) | (congr 1; simp only [bne_iff_ne]; done)), H', ⟨Nat.le_refl _⟩, ⟨by repeat (first | (with_reducible first | exact HB.out | apply below_alloc | apply pw_below_drewN | apply below_drew1) | exact HB.out)⟩⟩
          case round =>
            clear H'
            try clear c1
            try clear p1
            try clear q1
            try clear hx1
            try clear c2
            try clear p2
            try clear c3
            try clear c3b0
            try clear c3b1
            try clear c4
            try clear c5
            try clear c5b0
            try clear p6
            try clear c7
            try clear c7b0
            try clear c8
            try clear c8b0
            try clear c9
            try clear c9b0
            try clear c10
            try clear c10b0
            try clear c11
            try clear c11b0
            try clear c12
            try clear c12b0
            try clear p13
            try clear q13
            try clear hx13
            try clear c14
            try clear c14b0
            try clear c14b1
            try clear p15
            try clear q15
            try clear hx15
            try clear c16
            try clear c16b0
            try clear c16b1
            try clear p16
            try clear q16
            try clear hx16
            try clear p17
            try clear q17
            try clear hx17
            try clear c18
            try clear c18b0
            try clear c18b1
            try clear c19
            try clear c19b0
            try clear c19b1
            try clear c20
            try clear c20b0
            try clear c20b1
            try clear c20b2
            try clear c21
            try clear c21b0
            try clear c21b1
            try clear c22
            try clear c22b0
            try clear c23
            try clear c23b0
            try clear c23b1
            try clear c24
            try clear c24b0
            try clear c24b1
            try clear c25
            try clear c25b0
            try clear c25b1
            try clear c26
            try clear c26b0
            try clear c26b1
            try clear c27
            try clear c27b0
            try clear c27b1
            try clear c28
            try clear c28b0
            try clear c28b1
            try clear c29
            try clear c29b0
            try clear c30
            try clear c30b0
            try clear c30b1
            try clear c31
            try clear c31b0
            try clear c31b1
            try clear c32
            try clear c32b0
            try clear c32b1
            try clear c33
            try clear c33b0
            try clear c33b1
            try clear c34
            try clear c34b0
            try clear c34b1
            try clear hx159_0
            try clear hx159_1
            try clear hx159_2
            try clear hx160_0
            try clear hx160_1
            try clear hx160_2
            try clear hx161_0
            try clear hx161_1
            try clear hx161_2
            try clear hx162_0
            try clear hx162_1
            try clear hx162_2
            try clear hx163_0
            try clear hx163_1
            try clear hx163_2
            try clear p13
            try clear p15
            try clear p159
            try clear p160
            try clear p161
            try clear p162
            try clear p163
            try clear p17
            try clear p2
            try clear q13
            try clear q15
            try clear q159
            try clear q160
            try clear q161
            try clear q162
            try clear q163
            try clear q17
            obtain ⟨x6_2, rfl, HA, HK2, HB⟩ := hrel
            cases gk with
            | zero => exact absurd HA.out (by simp [sinewlaw08_TokenPlaces.l2])
            | succ k2 =>
              have H := HA.out
              clear HA
              simp only [sinewlaw08_TokenPlaces.l2] at H
              by_cases c36 : x6_2 < (a0.size : Int)
              · rw [if_pos c36] at H
                have c36b0 : decide (x6_2 < (a0.size : Int)) = true := decide_eq_true c36
                try (have c36b5 := c36b0; simp only [ByteArray.size_extract, ByteArray.size_append, Int.natCast_add] at c36b5; (try rw [show ((⟨#[63]⟩ : ByteArray).size : Nat) = 1 from rfl] at c36b5); (try simp only [Int.natCast_one, Int.cast_ofNat_Int] at c36b5))
                clear c36
                by_cases c37 : 0 ≤ x6_2
                · rw [if_pos c37] at H
                  have c37b0 : decide (0 ≤ x6_2) = true := decide_eq_true c37
                  try (have c37b5 := c37b0; simp only [ByteArray.size_extract, ByteArray.size_append, Int.natCast_add] at c37b5; (try rw [show ((⟨#[63]⟩ : ByteArray).size : Nat) = 1 from rfl] at c37b5); (try simp only [Int.natCast_one, Int.cast_ofNat_Int] at c37b5))
                  clear c37
                  by_cases c39 : (bt a0 x6_2) = 32
                  · rw [if_pos c39] at H
                    have c39b0 : ((bt a0 x6_2) == 32) = true := beq_iff_eq.mpr c39
                    try (have c39b5 := c39b0; simp only [ByteArray.size_extract, ByteArray.size_append, Int.natCast_add] at c39b5; (try rw [show ((⟨#[63]⟩ : ByteArray).size : Nat) = 1 from rfl] at c39b5); (try simp only [Int.natCast_one, Int.cast_ofNat_Int] at c39b5))
                    have c39b1 : ((bt a0 x6_2) != 32) = false := bne_eq_false_iff_eq.mpr c39
                    try (have c39b6 := c39b1; simp only [ByteArray.size_extract, ByteArray.size_append, Int.natCast_add] at c39b6; (try rw [show ((⟨#[63]⟩ : ByteArray).size : Nat) = 1 from rfl] at c39b6); (try simp only [Int.natCast_one, Int.cast_ofNat_Int] at c39b6))
                    clear c39
                    have H' := Aside0.mk H
                    clear H
                    have p38 : 0 ≤ (x6_2 : Int) := of_decide_eq_true (by first | (with_reducible assumption) | assumption)
                    have q38 : x6_2 < (a0.size : Int) := of_decide_eq_true (by first | (with_reducible assumption) | assumption)
                    have hx38 := bt_at a0 x6_2
                    replace p38 := eq_true p38
                    replace q38 := eq_true q38
                    go_wp2
                    go_roundg k2
                    case measure => have := HK1.out; have := HK2.out; omega
                    case rel => exact ⟨(wrap64 (x6_2 + 1)), (by first | rfl | (simp; done) | (simp [*]; done) | (simp only [ByteArray.size_append, Int.natCast_add]; rfl) | (simp only [List.beq_nil_eq, bne]; done) | (congr 1; simp only [bne]; done) | (simp [bne]; done) | (congr 1; simp only [bne_iff_ne]; done)), H', ⟨by have := HK1.out; have := HK2.out; omega⟩, ⟨by repeat (first | (with_reducible first | exact HB.out | apply below_alloc | apply pw_below_drewN | apply below_drew1) | exact HB.out)⟩⟩
                  · rw [if_neg c39] at H
                    have c39b0 : ((bt a0 x6_2) == 32) = false := beq_eq_false_iff_ne.mpr c39
                    try (have c39b5 := c39b0; simp only [ByteArray.size_extract, ByteArray.size_append, Int.natCast_add] at c39b5; (try rw [show ((⟨#[63]⟩ : ByteArray).size : Nat) = 1 from rfl] at c39b5); (try simp only [Int.natCast_one, Int.cast_ofNat_Int] at c39b5))
                    have c39b1 : ((bt a0 x6_2) != 32) = true := bne_iff_ne.mpr c39
                    try (have c39b6 := c39b1; simp only [ByteArray.size_extract, ByteArray.size_append, Int.natCast_add] at c39b6; (try rw [show ((⟨#[63]⟩ : ByteArray).size : Nat) = 1 from rfl] at c39b6); (try simp only [Int.natCast_one, Int.cast_ofNat_Int] at c39b6))
                    by_cases c41 : (bt a0 x6_2) = 9
                    · rw [if_pos c41] at H
                      have c41b0 : ((bt a0 x6_2) == 9) = true := beq_iff_eq.mpr c41
                      try (have c41b5 := c41b0; simp only [ByteArray.size_extract, ByteArray.size_append, Int.natCast_add] at c41b5; (try rw [show ((⟨#[63]⟩ : ByteArray).size : Nat) = 1 from rfl] at c41b5); (try simp only [Int.natCast_one, Int.cast_ofNat_Int] at c41b5))
                      have c41b1 : ((bt a0 x6_2) != 9) = false := bne_eq_false_iff_eq.mpr c41
                      try (have c41b6 := c41b1; simp only [ByteArray.size_extract, ByteArray.size_append, Int.natCast_add] at c41b6; (try rw [show ((⟨#[63]⟩ : ByteArray).size : Nat) = 1 from rfl] at c41b6); (try simp only [Int.natCast_one, Int.cast_ofNat_Int] at c41b6))
                      clear c41
                      have H' := Aside0.mk H
                      clear H
                      have p38 : 0 ≤ (x6_2 : Int) := of_decide_eq_true (by first | (with_reducible assumption) | assumption)
                      have q38 : x6_2 < (a0.size : Int) := of_decide_eq_true (by first | (with_reducible assumption) | assumption)
                      have hx38 := bt_at a0 x6_2
                      replace p38 := eq_true p38
                      replace q38 := eq_true q38
                      have p40 : 0 ≤ (x6_2 : Int) := of_decide_eq_true (by first | (with_reducible assumption) | assumption)
                      have q40 : x6_2 < (a0.size : Int) := of_decide_eq_true (by first | (with_reducible assumption) | assumption)
                      have hx40 := bt_at a0 x6_2
                      replace p40 := eq_true p40
                      replace q40 := eq_true q40
                      go_wp2
                      go_roundg k2
                      case measure => have := HK1.out; have := HK2.out; omega
                      case rel => exact ⟨(wrap64 (x6_2 + 1)), (by first | rfl | (simp; done) | (simp [*]; done) | (simp only [ByteArray.size_append, Int.natCast_add]; rfl) | (simp only [List.beq_nil_eq, bne]; done) | (congr 1; simp only [bne]; done) | (simp [bne]; done) | (congr 1; simp only [bne_iff_ne]; done)), H', ⟨by have := HK1.out; have := HK2.out; omega⟩, ⟨by repeat (first | (with_reducible first | exact HB.out | apply below_alloc | apply pw_below_drewN | apply below_drew1) | exact HB.out)⟩⟩
                    · rw [if_neg c41] at H
                      have c41b0 : ((bt a0 x6_2) == 9) = false := beq_eq_false_iff_ne.mpr c41
                      try (have c41b5 := c41b0; simp only [ByteArray.size_extract, ByteArray.size_append, Int.natCast_add] at c41b5; (try rw [show ((⟨#[63]⟩ : ByteArray).size : Nat) = 1 from rfl] at c41b5); (try simp only [Int.natCast_one, Int.cast_ofNat_Int] at c41b5))
                      have c41b1 : ((bt a0 x6_2) != 9) = true := bne_iff_ne.mpr c41
                      try (have c41b6 := c41b1; simp only [ByteArray.size_extract, ByteArray.size_append, Int.natCast_add] at c41b6; (try rw [show ((⟨#[63]⟩ : ByteArray).size : Nat) = 1 from rfl] at c41b6); (try simp only [Int.natCast_one, Int.cast_ofNat_Int] at c41b6))
                      by_cases c43 : (bt a0 x6_2) = 10
                      · rw [if_pos c43] at H
                        have c43b0 : ((bt a0 x6_2) == 10) = true := beq_iff_eq.mpr c43
                        try (have c43b5 := c43b0; simp only [ByteArray.size_extract, ByteArray.size_append, Int.natCast_add] at c43b5; (try rw [show ((⟨#[63]⟩ : ByteArray).size : Nat) = 1 from rfl] at c43b5); (try simp only [Int.natCast_one, Int.cast_ofNat_Int] at c43b5))
                        have c43b1 : ((bt a0 x6_2) != 10) = false := bne_eq_false_iff_eq.mpr c43
                        try (have c43b6 := c43b1; simp only [ByteArray.size_extract, ByteArray.size_append, Int.natCast_add] at c43b6; (try rw [show ((⟨#[63]⟩ : ByteArray).size : Nat) = 1 from rfl] at c43b6); (try simp only [Int.natCast_one, Int.cast_ofNat_Int] at c43b6))
                        clear c43
                        have H' := Aside0.mk H
                        clear H
                        have p38 : 0 ≤ (x6_2 : Int) := of_decide_eq_true (by first | (with_reducible assumption) | assumption)
                        have q38 : x6_2 < (a0.size : Int) := of_decide_eq_true (by first | (with_reducible assumption) | assumption)
                        have hx38 := bt_at a0 x6_2
                        replace p38 := eq_true p38
                        replace q38 := eq_true q38
                        have p40 : 0 ≤ (x6_2 : Int) := of_decide_eq_true (by first | (with_reducible assumption) | assumption)
                        have q40 : x6_2 < (a0.size : Int) := of_decide_eq_true (by first | (with_reducible assumption) | assumption)
                        have hx40 := bt_at a0 x6_2
                        replace p40 := eq_true p40
                        replace q40 := eq_true q40
                        have p42 : 0 ≤ (x6_2 : Int) := of_decide_eq_true (by first | (with_reducible assumption) | assumption)
                        have q42 : x6_2 < (a0.size : Int) := of_decide_eq_true (by first | (with_reducible assumption) | assumption)
                        have hx42 := bt_at a0 x6_2
                        replace p42 := eq_true p42
                        replace q42 := eq_true q42
                        go_wp2
                        go_roundg k2
                        case measure => have := HK1.out; have := HK2.out; omega
                        case rel => exact ⟨(wrap64 (x6_2 + 1)), (by first | rfl | (simp; done) | (simp [*]; done) | (simp only [ByteArray.size_append, Int.natCast_add]; rfl) | (simp only [List.beq_nil_eq, bne]; done) | (congr 1; simp only [bne]; done) | (simp [bne]; done) | (congr 1; simp only [bne_iff_ne]; done)), H', ⟨by have := HK1.out; have := HK2.out; omega⟩, ⟨by repeat (first | (with_reducible first | exact HB.out | apply below_alloc | apply pw_below_drewN | apply below_drew1) | exact HB.out)⟩⟩
                      · rw [if_neg c43] at H
                        have c43b0 : ((bt a0 x6_2) == 10) = false := beq_eq_false_iff_ne.mpr c43
                        try (have c43b5 := c43b0; simp only [ByteArray.size_extract, ByteArray.size_append, Int.natCast_add] at c43b5; (try rw [show ((⟨#[63]⟩ : ByteArray).size : Nat) = 1 from rfl] at c43b5); (try simp only [Int.natCast_one, Int.cast_ofNat_Int] at c43b5))
                        have c43b1 : ((bt a0 x6_2) != 10) = true := bne_iff_ne.mpr c43
                        try (have c43b6 := c43b1; simp only [ByteArray.size_extract, ByteArray.size_append, Int.natCast_add] at c43b6; (try rw [show ((⟨#[63]⟩ : ByteArray).size : Nat) = 1 from rfl] at c43b6); (try simp only [Int.natCast_one, Int.cast_ofNat_Int] at c43b6))
                        obtain rfl := Option.some.inj H
                        have p38 : 0 ≤ (x6_2 : Int) := of_decide_eq_true (by first | (with_reducible assumption) | assumption)
                        have q38 : x6_2 < (a0.size : Int) := of_decide_eq_true (by first | (with_reducible assumption) | assumption)
                        have hx38 := bt_at a0 x6_2
                        replace p38 := eq_true p38
                        replace q38 := eq_true q38
                        have p40 : 0 ≤ (x6_2 : Int) := of_decide_eq_true (by first | (with_reducible assumption) | assumption)
                        have q40 : x6_2 < (a0.size : Int) := of_decide_eq_true (by first | (with_reducible assumption) | assumption)
                        have hx40 := bt_at a0 x6_2
                        replace p40 := eq_true p40
                        replace q40 := eq_true q40
                        have p42 : 0 ≤ (x6_2 : Int) := of_decide_eq_true (by first | (with_reducible assumption) | assumption)
                        have q42 : x6_2 < (a0.size : Int) := of_decide_eq_true (by first | (with_reducible assumption) | assumption)
                        have hx42 := bt_at a0 x6_2
                        replace p42 := eq_true p42
                        replace q42 := eq_true q42
                        go_wp2
                        go_ret
                        exact ⟨by first | rfl | (simp [errW_none, errW_some] <;> rfl) | (simp [*, errW_none, errW_some] <;> rfl), by repeat (first | (with_reducible first | exact HB.out | apply below_alloc | apply pw_below_drewN | apply below_drew1) | exact HB.out)⟩
                · rw [if_neg c37] at H
                  exact absurd H (by simp)
              · rw [if_neg c36] at H
                have c36b0 : decide (x6_2 < (a0.size : Int)) = false := decide_eq_false c36
                try (have c36b5 := c36b0; simp only [ByteArray.size_extract, ByteArray.size_append, Int.natCast_add] at c36b5; (try rw [show ((⟨#[63]⟩ : ByteArray).size : Nat) = 1 from rfl] at c36b5); (try simp only [Int.natCast_one, Int.cast_ofNat_Int] at c36b5))
                clear c36
                replace H := Option.bind_eq_some_iff.mp H
                obtain ⟨t164, A440, H⟩ := H
                replace H : (some t164) = some r := H
                have A44 := Aside0.mk A440
                clear A440
                obtain rfl := Option.some.inj H
                go_wp2_with (first | ((with_reducible refine gate_callee (f := 11) rfl ?_); refine goesL_ (some 130) rfl rfl Try.func11 (by kernel_rfl) rfl #[] rfl (by (try simp only [List.map_toArray, List.map_cons, List.map_nil]); first | done | rfl | (simp only [List.length_drop, List.length_take]; rfl)) ?_; (with_reducible refine (sinewlaw08_awake.calls k2  t164 _ A44.out).mono ?_); rintro e w45 ⟨rfl, hb⟩; refine ⟨_, rfl, ?_⟩; have n0_ := Aside0.mk (below_step (by repeat (first | (with_reducible first | exact HB.out | apply below_alloc | apply pw_below_drewN | apply below_drew1) | exact HB.out)) hb); clear HB; have HB := n0_; clear n0_; (try clear hb); (try clear hb2); (try clear hk); (try clear hi)))
                go_ret
                exact ⟨by first | rfl | (simp [errW_none, errW_some] <;> rfl) | (simp [*, errW_none, errW_some] <;> rfl), by repeat (first | (with_reducible first | exact HB.out | apply below_alloc | apply pw_below_drewN | apply below_drew1) | exact HB.out)⟩
  · rw [if_neg c3] at H
    have c3b0 : (t155 == 0) = false := beq_eq_false_iff_ne.mpr c3
    try (have c3b5 := c3b0; simp only [ByteArray.size_extract, ByteArray.size_append, Int.natCast_add] at c3b5; (try rw [show ((⟨#[63]⟩ : ByteArray).size : Nat) = 1 from rfl] at c3b5); (try simp only [Int.natCast_one, Int.cast_ofNat_Int] at c3b5))
    have c3b1 : (t155 != 0) = true := bne_iff_ne.mpr c3
    try (have c3b6 := c3b1; simp only [ByteArray.size_extract, ByteArray.size_append, Int.natCast_add] at c3b6; (try rw [show ((⟨#[63]⟩ : ByteArray).size : Nat) = 1 from rfl] at c3b6); (try simp only [Int.natCast_one, Int.cast_ofNat_Int] at c3b6))
    by_cases c46 : (t153.length : Int) = 0
    · rw [if_pos c46] at H
      have c46b0 : ((t153.length : Int) == 0) = true := beq_iff_eq.mpr c46
      try (have c46b5 := c46b0; simp only [ByteArray.size_extract, ByteArray.size_append, Int.natCast_add] at c46b5; (try rw [show ((⟨#[63]⟩ : ByteArray).size : Nat) = 1 from rfl] at c46b5); (try simp only [Int.natCast_one, Int.cast_ofNat_Int] at c46b5))
      have c46b1 : ((t153.length : Int) != 0) = false := bne_eq_false_iff_eq.mpr c46
      try (have c46b6 := c46b1; simp only [ByteArray.size_extract, ByteArray.size_append, Int.natCast_add] at c46b6; (try rw [show ((⟨#[63]⟩ : ByteArray).size : Nat) = 1 from rfl] at c46b6); (try simp only [Int.natCast_one, Int.cast_ofNat_Int] at c46b6))
      clear c46
      replace H := Option.bind_eq_some_iff.mp H
      obtain ⟨t158, A470, H⟩ := H
      replace H : (some t158) = some r := H
      have A47 := Aside0.mk A470
      clear A470
      obtain rfl := Option.some.inj H
      go_enter Try.func4, Try.ntmps4
      go_wp2_with (first | ((with_reducible refine gate_callee (f := 8) rfl ?_); refine goesL_ (some 11) rfl rfl Try.func8 (by kernel_rfl) rfl #[.string a0] rfl (by (try simp only [List.map_toArray, List.map_cons, List.map_nil]); first | done | rfl | (simp only [List.length_drop, List.length_take]; rfl)) ?_; (with_reducible refine (token_Signs.calls k a0 t153 t154 t155 _ A2.out).mono ?_); rintro e w48 ⟨v156, rfl, ho0, hb⟩; refine ⟨_, rfl, ?_⟩; have n0_ := Aside0.mk (Kd.R_lower ho0 (below_size (by repeat (first | (with_reducible first | exact HB.out | apply below_alloc | apply pw_below_drewN | apply below_drew1) | exact HB.out)))); have n1_ := Aside0.mk (below_step (by repeat (first | (with_reducible first | exact HB.out | apply below_alloc | apply pw_below_drewN | apply below_drew1) | exact HB.out)) hb); clear HB; have HO157 := n0_; have HB := n1_; clear n0_ n1_; (try clear hb); (try clear hb2); (try clear hk); (try clear hi); (try clear ho0); obtain ⟨Ao49, co49, eo49⟩ := Kd.R_slice HO157.out; subst eo49) | (go_at_call 11; (with_reducible refine (sinewlaw08_awake.calls k  t158 _ A47.out).mono ?_); rintro e w50 ⟨rfl, hb⟩; have n0_ := Aside0.mk (Kd.R_below (by (with_reducible repeat (first | apply Kd.R_alloc | apply Kd.R_drewN | apply Kd.R_drew)); exact HO157.out) hb); have n1_ := Aside0.mk (below_step (by repeat (first | (with_reducible first | exact HB.out | apply below_alloc | apply pw_below_drewN | apply below_drew1) | exact HB.out)) hb); clear HO157; clear HB; have HO157 := n0_; have HB := n1_; clear n0_ n1_; (try clear hb); (try clear hb2); (try clear hk); (try clear hi)))
      go_ret
      exact ⟨by first | rfl | (simp [errW_none, errW_some] <;> rfl) | (simp [*, errW_none, errW_some] <;> rfl), by repeat (first | (with_reducible first | exact HB.out | apply below_alloc | apply pw_below_drewN | apply below_drew1) | exact HB.out)⟩
    · rw [if_neg c46] at H
      have c46b0 : ((t153.length : Int) == 0) = false := beq_eq_false_iff_ne.mpr c46
      try (have c46b5 := c46b0; simp only [ByteArray.size_extract, ByteArray.size_append, Int.natCast_add] at c46b5; (try rw [show ((⟨#[63]⟩ : ByteArray).size : Nat) = 1 from rfl] at c46b5); (try simp only [Int.natCast_one, Int.cast_ofNat_Int] at c46b5))
      have c46b1 : ((t153.length : Int) != 0) = true := bne_iff_ne.mpr c46
      try (have c46b6 := c46b1; simp only [ByteArray.size_extract, ByteArray.size_append, Int.natCast_add] at c46b6; (try rw [show ((⟨#[63]⟩ : ByteArray).size : Nat) = 1 from rfl] at c46b6); (try simp only [Int.natCast_one, Int.cast_ofNat_Int] at c46b6))
      have c46b2 : ¬ (t153 = []) := fun h_ => c46 (by rw [h_]; rfl)
      try (have c46b7 := c46b2; simp only [ByteArray.size_extract, ByteArray.size_append, Int.natCast_add] at c46b7; (try rw [show ((⟨#[63]⟩ : ByteArray).size : Nat) = 1 from rfl] at c46b7); (try simp only [Int.natCast_one, Int.cast_ofNat_Int] at c46b7))
      obtain rfl := Option.some.inj H
      go_enter Try.func4, Try.ntmps4
      go_wp2_with (first | ((with_reducible refine gate_callee (f := 8) rfl ?_); refine goesL_ (some 11) rfl rfl Try.func8 (by kernel_rfl) rfl #[.string a0] rfl (by (try simp only [List.map_toArray, List.map_cons, List.map_nil]); first | done | rfl | (simp only [List.length_drop, List.length_take]; rfl)) ?_; (with_reducible refine (token_Signs.calls k a0 t153 t154 t155 _ A2.out).mono ?_); rintro e w51 ⟨v156, rfl, ho0, hb⟩; refine ⟨_, rfl, ?_⟩; have n0_ := Aside0.mk (Kd.R_lower ho0 (below_size (by repeat (first | (with_reducible first | exact HB.out | apply below_alloc | apply pw_below_drewN | apply below_drew1) | exact HB.out)))); have n1_ := Aside0.mk (below_step (by repeat (first | (with_reducible first | exact HB.out | apply below_alloc | apply pw_below_drewN | apply below_drew1) | exact HB.out)) hb); clear HB; have HO157 := n0_; have HB := n1_; clear n0_ n1_; (try clear hb); (try clear hb2); (try clear hk); (try clear hi); (try clear ho0); obtain ⟨Ao52, co52, eo52⟩ := Kd.R_slice HO157.out; subst eo52))
      go_ret
      exact ⟨by first | rfl | (simp [errW_none, errW_some] <;> rfl) | (simp [*, errW_none, errW_some] <;> rfl), by repeat (first | (with_reducible first | exact HB.out | apply below_alloc | apply pw_below_drewN | apply below_drew1) | exact HB.out)⟩

/-- THE ONE PURE STATEMENT of sinewlaw08_TokenPlaces: yours. -/
def sinewlaw08_TokenPlaces.Pure : Prop := ∀ (a0 : ByteArray), a0.size ≤ 140737488351232 → ∃ k, sinewlaw08_TokenPlaces.f k a0 = some true
theorem sinewlaw08_TokenPlaces.walk (P : sinewlaw08_TokenPlaces.Pure) (a0 : ByteArray) (w : World) (w0 : a0.size ≤ 140737488351232) :
    Calls Try.prog 4 #[.string a0] w fun e w' => e = .returned (.bool true) ∧ Below w.heap.size w w' := by
  obtain ⟨k, h⟩ := P a0 w0
  refine (sinewlaw08_TokenPlaces.calls k a0 true w h).mono ?_
  rintro e w' ⟨rfl, hd⟩
  exact ⟨rfl, hd⟩

end Go.Proofs.Ytfmfgdlnkphoaaa.Px
-- fixji
