-- PRINTED by print.py (a twelfth state) out of the translation. Not trusted: Lean checks it.
import Derived.Test.YtfmfgdlnkphoaaaPx0
import Derived.Test.YtfmfgdlnkphoaaaPx2
namespace Go.Proofs.Ytfmfgdlnkphoaaa.Px
open Go.Proofs.Ytfmfgdlnkphoaaa.Hand
open Go.RowKit Go.Proofs.YtfmfgdlnkphoaaaW.PrintWords Go.Proofs.YtfmfgdlnkphoaaaW.PrintLast Go.Proofs.YtfmfgdlnkphoaaaW.PrintMore
attribute [local go_sem] max2_int min2_int max_two min_two max_three min_three max_four min_four   -- for this text's walks alone
set_option linter.unusedVariables false
set_option linter.unusedSimpArgs false

/-! ### token_Signs: function 8 -/
mutual
def token_Signs.l0 : Nat → ByteArray → List (S30) → Int → Option ((List (S30)) × Int × Int)
  | 0, _, _, _ => none
  | k + 1, x0, x2, x3 => if x3 < (x0.size : Int) then (if 0 ≤ x3 then (if x3 ≤ (wrap64 (x3 + 1)) then (if (wrap64 (x3 + 1)) ≤ (x0.size : Int) then (if (bt x0 x3) = 32 then (token_Signs.j1 k x0 x2 x3 (bt x0 x3) true 3 (x0.extract (x3 : Int).toNat ((wrap64 (x3 + 1)) : Int).toNat) x3) else (if (bt x0 x3) = 9 then (token_Signs.j1 k x0 x2 x3 (bt x0 x3) true 3 (x0.extract (x3 : Int).toNat ((wrap64 (x3 + 1)) : Int).toNat) x3) else (token_Signs.j1 k x0 x2 x3 (bt x0 x3) ((bt x0 x3) == 10) 3 (x0.extract (x3 : Int).toNat ((wrap64 (x3 + 1)) : Int).toNat) x3))) else (none)) else (none)) else (none)) else (some (x2, 0, 0))
def token_Signs.j1 : Nat → ByteArray → List (S30) → Int → Int → Bool → Int → ByteArray → Int → Option ((List (S30)) × Int × Int)
  | 0, _, _, _, _, _, _, _, _ => none
  | k + 1, x0, x2, x3, x6, x26, x103000, x103001, x103002 => if x26 = true then (token_Signs.l0 k x0 x2 (wrap64 (x3 + 1))) else ((token_part.f k x6).bind fun t103 => (if t103 = true then (if 0 ≤ x3 then (if x3 ≤ (x0.size : Int) then ((token_run.f k (x0.extract (x3 : Int).toNat x0.size)).bind fun t104 => (if (t104.size : Int) > 16 then (some (([] : List (S30)), x103002, 80)) else (if x2.length < 4398046511104 then (token_Signs.l0 k x0 (x2 ++ [(⟨1, t104, x103002⟩ : S30)]) (wrap64 (x3 + (t104.size : Int)))) else (none)))) else (none)) else (none)) else (if x6 = 63 then (if 0 ≤ (wrap64 (x3 + 1)) then (if (wrap64 (x3 + 1)) ≤ (x0.size : Int) then ((token_run.f k (x0.extract ((wrap64 (x3 + 1)) : Int).toNat x0.size)).bind fun t108 => (token_Signs.j2 k x0 x2 x3 x6 (t108.toList != ([] : List UInt8)) x103000 x103001 x103002)) else (none)) else (none)) else (token_Signs.j2 k x0 x2 x3 x6 false x103000 x103001 x103002))))
def token_Signs.j2 : Nat → ByteArray → List (S30) → Int → Int → Bool → Int → ByteArray → Int → Option ((List (S30)) × Int × Int)
  | 0, _, _, _, _, _, _, _, _ => none
  | k + 1, x0, x2, x3, x6, x53, x103000, x103001, x103002 => if x53 = true then (if 0 ≤ (wrap64 (x3 + 1)) then (if (wrap64 (x3 + 1)) ≤ (x0.size : Int) then ((token_run.f k (x0.extract ((wrap64 (x3 + 1)) : Int).toNat x0.size)).bind fun t109 => (if (t109.size : Int) > 16 then (some (([] : List (S30)), x103002, 80)) else (if x2.length < 4398046511104 then (token_Signs.l0 k x0 (x2 ++ [(⟨2, t109, x103002⟩ : S30)]) (wrap64 (x3 + (wrap64 ((t109.size : Int) + 1))))) else (none)))) else (none)) else (none)) else ((strings_IndexByte.f (⟨#[123, 125, 40, 41, 46, 47, 124, 42, 43, 63]⟩ : ByteArray) x6).bind fun t113 => (if t113 < 0 then (some (([] : List (S30)), x3, 80)) else (if (x103001.size : Int) > 16 then (some (([] : List (S30)), x103002, 80)) else (if x2.length < 4398046511104 then (token_Signs.l0 k x0 (x2 ++ [(⟨x103000, x103001, x103002⟩ : S30)]) (wrap64 (x3 + 1))) else (none)))))
end
def token_Signs.f (k : Nat) (a0 : ByteArray) : Option ((List (S30)) × Int × Int) := if (a0.size : Int) > 4096 then (some (([] : List (S30)), 0, 1)) else (token_Signs.l0 k a0 ([] : List (S30)) 0)
theorem token_Signs.mono_l : ∀ k, (∀ y0 y1 y2, LeO (token_Signs.l0 k y0 y1 y2) (token_Signs.l0 (k + 1) y0 y1 y2)) ∧ (∀ y0 y1 y2 y3 y4 y5 y6 y7, LeO (token_Signs.j1 k y0 y1 y2 y3 y4 y5 y6 y7) (token_Signs.j1 (k + 1) y0 y1 y2 y3 y4 y5 y6 y7)) ∧ (∀ y0 y1 y2 y3 y4 y5 y6 y7, LeO (token_Signs.j2 k y0 y1 y2 y3 y4 y5 y6 y7) (token_Signs.j2 (k + 1) y0 y1 y2 y3 y4 y5 y6 y7))
  | 0 => ⟨fun _ _ _ r h => by simp [token_Signs.l0] at h, fun _ _ _ _ _ _ _ _ r h => by simp [token_Signs.j1] at h, fun _ _ _ _ _ _ _ _ r h => by simp [token_Signs.j2] at h⟩
  | k + 1 => by
    obtain ⟨ih0, ih1, ih2⟩ := token_Signs.mono_l k
    refine ⟨?_, ?_, ?_⟩
    · intro y0 y1 y2
      unfold token_Signs.l0
      repeat' first
      | (with_reducible exact ih0 _ _ _)
      | (with_reducible exact ih1 _ _ _ _ _ _ _ _)
      | (with_reducible exact ih2 _ _ _ _ _ _ _ _)
      | (with_reducible exact token_part.mono _ _)
      | (with_reducible exact token_run.mono _ _)
      | (with_reducible exact LeO.refl _)
      | (with_reducible exact LeO.none _)
      | (with_reducible refine LeO.ite ?_ ?_)
      | (with_reducible refine LeO.bind ?_ (fun _ => ?_))
      | exact ih0 _ _ _
      | exact ih1 _ _ _ _ _ _ _ _
      | exact ih2 _ _ _ _ _ _ _ _
      | exact token_part.mono _ _
      | exact token_run.mono _ _
      | exact LeO.none _
      | refine LeO.ite ?_ ?_
      | refine LeO.bind ?_ (fun _ => ?_)
    · intro y0 y1 y2 y3 y4 y5 y6 y7
      unfold token_Signs.j1
      repeat' first
      | (with_reducible exact ih0 _ _ _)
      | (with_reducible exact ih1 _ _ _ _ _ _ _ _)
      | (with_reducible exact ih2 _ _ _ _ _ _ _ _)
      | (with_reducible exact token_part.mono _ _)
      | (with_reducible exact token_run.mono _ _)
      | (with_reducible exact LeO.refl _)
      | (with_reducible exact LeO.none _)
      | (with_reducible refine LeO.ite ?_ ?_)
      | (with_reducible refine LeO.bind ?_ (fun _ => ?_))
      | exact ih0 _ _ _
      | exact ih1 _ _ _ _ _ _ _ _
      | exact ih2 _ _ _ _ _ _ _ _
      | exact token_part.mono _ _
      | exact token_run.mono _ _
      | exact LeO.none _
      | refine LeO.ite ?_ ?_
      | refine LeO.bind ?_ (fun _ => ?_)
    · intro y0 y1 y2 y3 y4 y5 y6 y7
      unfold token_Signs.j2
      repeat' first
      | (with_reducible exact ih0 _ _ _)
      | (with_reducible exact ih1 _ _ _ _ _ _ _ _)
      | (with_reducible exact ih2 _ _ _ _ _ _ _ _)
      | (with_reducible exact token_part.mono _ _)
      | (with_reducible exact token_run.mono _ _)
      | (with_reducible exact LeO.refl _)
      | (with_reducible exact LeO.none _)
      | (with_reducible refine LeO.ite ?_ ?_)
      | (with_reducible refine LeO.bind ?_ (fun _ => ?_))
      | exact ih0 _ _ _
      | exact ih1 _ _ _ _ _ _ _ _
      | exact ih2 _ _ _ _ _ _ _ _
      | exact token_part.mono _ _
      | exact token_run.mono _ _
      | exact LeO.none _
      | refine LeO.ite ?_ ?_
      | refine LeO.bind ?_ (fun _ => ?_)
theorem token_Signs.mono : ∀ a0 k, LeO (token_Signs.f k a0) (token_Signs.f (k + 1) a0) := by
  intro a0 k
  obtain ⟨ih0, ih1, ih2⟩ := token_Signs.mono_l k
  unfold token_Signs.f
  repeat' first
      | (with_reducible exact ih0 _ _ _)
      | (with_reducible exact ih1 _ _ _ _ _ _ _ _)
      | (with_reducible exact ih2 _ _ _ _ _ _ _ _)
      | (with_reducible exact token_part.mono _ _)
      | (with_reducible exact token_run.mono _ _)
      | (with_reducible exact LeO.refl _)
      | (with_reducible exact LeO.none _)
      | (with_reducible refine LeO.ite ?_ ?_)
      | (with_reducible refine LeO.bind ?_ (fun _ => ?_))
      | exact ih0 _ _ _
      | exact ih1 _ _ _ _ _ _ _ _
      | exact ih2 _ _ _ _ _ _ _ _
      | exact token_part.mono _ _
      | exact token_run.mono _ _
      | exact LeO.none _
      | refine LeO.ite ?_ ?_
      | refine LeO.bind ?_ (fun _ => ?_)
set_option maxHeartbeats 8000000 in
set_option maxRecDepth 100000 in
theorem token_Signs.calls (k : Nat) (a0 : ByteArray) (r1 : List (S30)) (r2 : Int) (r3 : Int) (w : World) (h : token_Signs.f k a0 = some (r1, r2, r3)) :
    Calls Try.prog 8 #[.string a0] w fun e w' => ∃ v0_ : Value, e = .returned (.tuple #[v0_, .int .i64 r2, .int .i64 r3]) ∧ Kd.R k30 30 w' w.heap.size (fun _ => True) v0_ r1 ∧ Below w.heap.size w w' := by
  have hu30 := Try.underlying30
  have HB := Aside0.mk (Below.refl w.heap.size w)
  have H : (if (a0.size : Int) > 4096 then (some (([] : List (S30)), 0, 1)) else (token_Signs.l0 k a0 ([] : List (S30)) 0)) = some (r1, r2, r3) := h
  clear h
  by_cases c2 : (a0.size : Int) > 4096
  · rw [if_pos c2] at H
    have c2b0 : decide (4096 < (a0.size : Int)) = true := decide_eq_true c2
    have c2b1 : decide (4096 < a0.size) = true := decide_eq_true (by omega)
    clear c2
    simp only [Option.some.injEq, Prod.mk.injEq] at H
    obtain ⟨rfl, rfl, rfl⟩ := H
    go_enter Try.func8, Try.ntmps8
    go_wp2
    repeat (go_quiet (fail); try go_wp2)
    go_ret3
    exact ⟨_, by first | rfl | (simp [errW_none, errW_some] <;> rfl) | (simp [*, errW_none, errW_some] <;> rfl), by first | exact Kd.R_nil _ _ _ _ _ | exact Kd.N_nil _ _ _ _ _ | exact Kd.V_nil _ _ _ _ _ | exact Kd.Q_nil _ _ _ _ _ | exact Kd.S_nil _ _ _ _ _, by repeat (first | (with_reducible first | exact HB.out | apply below_alloc | apply pw_below_drewN | apply below_drew1) | exact HB.out)⟩
  · rw [if_neg c2] at H
    have c2b0 : decide (4096 < (a0.size : Int)) = false := decide_eq_false c2
    have c2b1 : decide (4096 < a0.size) = false := decide_eq_false (by omega)
    clear c2
    have H' := Aside0.mk H
    clear H
    go_enter Try.func8, Try.ntmps8
    go_wp2
    repeat (go_quiet (fail); try go_wp2)
    go_loopg [2, 3] k (fun kq v2 v3 w' => ∃ (x2_1 : List (S30)) (x3_1 : Int), v3 = .int .i64 x3_1 ∧ Aside0 (token_Signs.l0 kq a0 x2_1 x3_1 = some (r1, r2, r3)) ∧ Aside0 (kq ≤ k) ∧ Aside0 (Kd.R k30 30 w' w.heap.size (fun _ => True) v2 x2_1) ∧ Aside0 (Below w.heap.size w w'))
    case atStart => exact ⟨(([] : List (S30))), (0), (by first | rfl | (simp; done) | (simp [*]; done) | (simp only [List.beq_nil_eq, bne]; done) | (congr 1; simp only [bne]; done) | (simp [bne]; done) | (congr 1; simp only [bne_iff_ne]; done)), (by first | exact H' | (simp only [← hji26] at H'; exact H') | (simp only [← hji31] at H'; exact H')), ⟨Nat.le_refl _⟩, ⟨by first | exact Kd.R_nil _ _ _ _ _ | exact Kd.N_nil _ _ _ _ _ | exact Kd.V_nil _ _ _ _ _ | exact Kd.Q_nil _ _ _ _ _ | exact Kd.S_nil _ _ _ _ _⟩, ⟨by repeat (first | (with_reducible first | exact HB.out | apply below_alloc | apply pw_below_drewN | apply below_drew1) | exact HB.out)⟩⟩
    case round =>
      clear H'
      try clear c2
      try clear c2b0
      try clear c2b1
      try clear p2
      obtain ⟨x2_1, x3_1, rfl, HA, HK1, HO_2, HB⟩ := hrel
      cases gk with
      | zero => exact absurd HA.out (by simp [token_Signs.l0])
      | succ k1 =>
        have H := HA.out
        clear HA
        simp only [token_Signs.l0] at H
        by_cases c3 : x3_1 < (a0.size : Int)
        · rw [if_pos c3] at H
          have c3b0 : decide (x3_1 < (a0.size : Int)) = true := decide_eq_true c3
          clear c3
          by_cases c4 : 0 ≤ x3_1
          · rw [if_pos c4] at H
            have c4b0 := eq_true c4
            have c4b1 : decide (0 ≤ x3_1) = true := decide_eq_true c4
            clear c4
            by_cases c5 : x3_1 ≤ (wrap64 (x3_1 + 1))
            · rw [if_pos c5] at H
              have c5b0 := eq_true c5
              have c5b1 : decide (x3_1 ≤ (wrap64 (x3_1 + 1))) = true := decide_eq_true c5
              by_cases c6 : (wrap64 (x3_1 + 1)) ≤ (a0.size : Int)
              · rw [if_pos c6] at H
                have c6b0 := eq_true c6
                have c6b1 : decide ((wrap64 (x3_1 + 1)) ≤ (a0.size : Int)) = true := decide_eq_true c6
                have HC8 := Aside0.mk H
                clear H
                go_upto_region 7 with (first | ((with_reducible refine gate_dst (N := 5) rfl ?_); refine box_event ?hg (N := 5) ?hd (cs := #[.int .i64 0, .string (⟨#[]⟩ : ByteArray), .int .i64 0]) (t := 30) ?hr ?_; (case hd => rfl); (case hg => rfl); (case hr => first | (go_simp; done) | (go_simp; rfl)); intro gb102 hg w9 hbox hb; have n0_ := Aside0.mk (Kd.R_below (Kd.R_elderB (by (with_reducible repeat (first | apply Kd.R_alloc | apply Kd.R_drewN | apply Kd.R_drew)); exact HO_2.out) gb102 (Nat.le_of_eq hg.symm)) hb); have n1_ := Aside0.mk (below_step (by repeat (first | (with_reducible first | exact HB.out | apply below_alloc | apply pw_below_drewN | apply below_drew1) | exact HB.out)) hb); have n2_ := Aside0.mk (hbox); have n3_ := Aside0.mk ((by rw [hg]; exact (below_size (by repeat (first | (with_reducible first | exact HB.out | apply below_alloc | apply pw_below_drewN | apply below_drew1) | exact HB.out))) : w.heap.size ≤ gb102)); have n4_ := Aside0.mk ((by rw [hg]; exact (below_size (by repeat (first | (with_reducible first | exact HB.out | apply below_alloc | apply pw_below_drewN | apply below_drew1) | exact HB.out))) : w.heap.size ≤ gb102)); clear HO_2; clear HB; have HO_2 := n0_; have HB := n1_; have BK102 := n2_; have GW102 := n3_; have GE102 := n4_; clear n0_ n1_ n2_ n3_ n4_; clear hb hbox hg; have hcz10_0 : w9.cell? ⟨gb102, 0, none⟩ = some (.int .i64 0) := (blk_cell BK102.out 0).trans (by first | rfl | (simp only [← hji26] <;> rfl) | (simp only [← hji31] <;> rfl)); have hcz10_1 : w9.cell? ⟨gb102, 1, none⟩ = some (.string (⟨#[]⟩ : ByteArray)) := (blk_cell BK102.out 1).trans (by first | rfl | (simp only [← hji26] <;> rfl) | (simp only [← hji31] <;> rfl)); have hcz10_2 : w9.cell? ⟨gb102, 2, none⟩ = some (.int .i64 0) := (blk_cell BK102.out 2).trans (by first | rfl | (simp only [← hji26] <;> rfl) | (simp only [← hji31] <;> rfl)); have hfz10_0 := blk_frozen BK102.out 0; have hfz10_1 := blk_frozen BK102.out 1; have hfz10_2 := blk_frozen BK102.out 2; have p7 : 0 ≤ (x3_1 : Int) := of_decide_eq_true (by first | (with_reducible assumption) | assumption); have q7 : x3_1 < (a0.size : Int) := of_decide_eq_true (by first | (with_reducible assumption) | assumption); have hx7 := bt_at a0 x3_1; replace p7 := eq_true p7; replace q7 := eq_true q7))
                repeat (go_quiet (first | ((with_reducible refine gate_dst (N := 5) rfl ?_); refine box_event ?hg (N := 5) ?hd (cs := #[.int .i64 0, .string (⟨#[]⟩ : ByteArray), .int .i64 0]) (t := 30) ?hr ?_; (case hd => rfl); (case hg => rfl); (case hr => first | (go_simp; done) | (go_simp; rfl)); intro gb102 hg w9 hbox hb; have n0_ := Aside0.mk (Kd.R_below (Kd.R_elderB (by (with_reducible repeat (first | apply Kd.R_alloc | apply Kd.R_drewN | apply Kd.R_drew)); exact HO_2.out) gb102 (Nat.le_of_eq hg.symm)) hb); have n1_ := Aside0.mk (below_step (by repeat (first | (with_reducible first | exact HB.out | apply below_alloc | apply pw_below_drewN | apply below_drew1) | exact HB.out)) hb); have n2_ := Aside0.mk (hbox); have n3_ := Aside0.mk ((by rw [hg]; exact (below_size (by repeat (first | (with_reducible first | exact HB.out | apply below_alloc | apply pw_below_drewN | apply below_drew1) | exact HB.out))) : w.heap.size ≤ gb102)); have n4_ := Aside0.mk ((by rw [hg]; exact (below_size (by repeat (first | (with_reducible first | exact HB.out | apply below_alloc | apply pw_below_drewN | apply below_drew1) | exact HB.out))) : w.heap.size ≤ gb102)); clear HO_2; clear HB; have HO_2 := n0_; have HB := n1_; have BK102 := n2_; have GW102 := n3_; have GE102 := n4_; clear n0_ n1_ n2_ n3_ n4_; clear hb hbox hg; have hcz10_0 : w9.cell? ⟨gb102, 0, none⟩ = some (.int .i64 0) := (blk_cell BK102.out 0).trans (by first | rfl | (simp only [← hji26] <;> rfl) | (simp only [← hji31] <;> rfl)); have hcz10_1 : w9.cell? ⟨gb102, 1, none⟩ = some (.string (⟨#[]⟩ : ByteArray)) := (blk_cell BK102.out 1).trans (by first | rfl | (simp only [← hji26] <;> rfl) | (simp only [← hji31] <;> rfl)); have hcz10_2 : w9.cell? ⟨gb102, 2, none⟩ = some (.int .i64 0) := (blk_cell BK102.out 2).trans (by first | rfl | (simp only [← hji26] <;> rfl) | (simp only [← hji31] <;> rfl)); have hfz10_0 := blk_frozen BK102.out 0; have hfz10_1 := blk_frozen BK102.out 1; have hfz10_2 := blk_frozen BK102.out 2; have p7 : 0 ≤ (x3_1 : Int) := of_decide_eq_true (by first | (with_reducible assumption) | assumption); have q7 : x3_1 < (a0.size : Int) := of_decide_eq_true (by first | (with_reducible assumption) | assumption); have hx7 := bt_at a0 x3_1; replace p7 := eq_true p7; replace q7 := eq_true q7)); go_upto_region 7 with (first | ((with_reducible refine gate_dst (N := 5) rfl ?_); refine box_event ?hg (N := 5) ?hd (cs := #[.int .i64 0, .string (⟨#[]⟩ : ByteArray), .int .i64 0]) (t := 30) ?hr ?_; (case hd => rfl); (case hg => rfl); (case hr => first | (go_simp; done) | (go_simp; rfl)); intro gb102 hg w9 hbox hb; have n0_ := Aside0.mk (Kd.R_below (Kd.R_elderB (by (with_reducible repeat (first | apply Kd.R_alloc | apply Kd.R_drewN | apply Kd.R_drew)); exact HO_2.out) gb102 (Nat.le_of_eq hg.symm)) hb); have n1_ := Aside0.mk (below_step (by repeat (first | (with_reducible first | exact HB.out | apply below_alloc | apply pw_below_drewN | apply below_drew1) | exact HB.out)) hb); have n2_ := Aside0.mk (hbox); have n3_ := Aside0.mk ((by rw [hg]; exact (below_size (by repeat (first | (with_reducible first | exact HB.out | apply below_alloc | apply pw_below_drewN | apply below_drew1) | exact HB.out))) : w.heap.size ≤ gb102)); have n4_ := Aside0.mk ((by rw [hg]; exact (below_size (by repeat (first | (with_reducible first | exact HB.out | apply below_alloc | apply pw_below_drewN | apply below_drew1) | exact HB.out))) : w.heap.size ≤ gb102)); clear HO_2; clear HB; have HO_2 := n0_; have HB := n1_; have BK102 := n2_; have GW102 := n3_; have GE102 := n4_; clear n0_ n1_ n2_ n3_ n4_; clear hb hbox hg; have hcz10_0 : w9.cell? ⟨gb102, 0, none⟩ = some (.int .i64 0) := (blk_cell BK102.out 0).trans (by first | rfl | (simp only [← hji26] <;> rfl) | (simp only [← hji31] <;> rfl)); have hcz10_1 : w9.cell? ⟨gb102, 1, none⟩ = some (.string (⟨#[]⟩ : ByteArray)) := (blk_cell BK102.out 1).trans (by first | rfl | (simp only [← hji26] <;> rfl) | (simp only [← hji31] <;> rfl)); have hcz10_2 : w9.cell? ⟨gb102, 2, none⟩ = some (.int .i64 0) := (blk_cell BK102.out 2).trans (by first | rfl | (simp only [← hji26] <;> rfl) | (simp only [← hji31] <;> rfl)); have hfz10_0 := blk_frozen BK102.out 0; have hfz10_1 := blk_frozen BK102.out 1; have hfz10_2 := blk_frozen BK102.out 2; have p7 : 0 ≤ (x3_1 : Int) := of_decide_eq_true (by first | (with_reducible assumption) | assumption); have q7 : x3_1 < (a0.size : Int) := of_decide_eq_true (by first | (with_reducible assumption) | assumption); have hx7 := bt_at a0 x3_1; replace p7 := eq_true p7; replace q7 := eq_true q7)))
                (try simp only [Act.put, List.setIfInBounds_toArray, List.set_cons_zero, List.set_cons_succ])
                go_cut [26] (fun v26 wc => ∃ (kq : Nat) (x26_7 : Bool), v26 = .bool x26_7 ∧ Aside0 (token_Signs.j1 kq a0 x2_1 x3_1 (bt a0 x3_1) x26_7 3 (a0.extract (x3_1 : Int).toNat ((wrap64 (x3_1 + 1)) : Int).toNat) x3_1 = some (r1, r2, r3)) ∧ Aside0 (kq ≤ k1) ∧ Aside0 (Kd.R k30 30 wc w.heap.size (fun k_ => k_ ≠ gb102) u2 x2_1) ∧ Aside0 (wc.heap[gb102]? = some (.cells #[.int .i64 3, .string (a0.extract (x3_1 : Int).toNat ((wrap64 (x3_1 + 1)) : Int).toNat), .int .i64 x3_1] 30 (0, 0))) ∧ Aside0 (Below w.heap.size w wc))
                case first =>
                  have H := HC8.out
                  clear HC8
                  by_cases c11 : (bt a0 x3_1) = 32
                  · rw [if_pos c11] at H
                    have c11b0 : ((bt a0 x3_1) == 32) = true := beq_iff_eq.mpr c11
                    have c11b1 : ((bt a0 x3_1) != 32) = false := bne_eq_false_iff_eq.mpr c11
                    clear c11
                    (first | rw [c11b0] | (simp only [i64_w, i32_w]; rw [c11b0]) | skip)
                    have H' := Aside0.mk H
                    clear H
                    go_wp2
                    repeat (go_quiet (fail); try go_wp2)
                    go_meet
                    case rel => exact ⟨_, (true), (by first | rfl | (simp; done) | (simp [*]; done) | (simp only [List.beq_nil_eq, bne]; done) | (congr 1; simp only [bne]; done) | (simp [bne]; done) | (congr 1; simp only [bne_iff_ne]; done)), (by first | exact H' | (simp only [← hji26] at H'; exact H') | (simp only [← hji31] at H'; exact H')), ⟨by have := HK1.out; first | omega | exact Nat.le_refl _⟩, ⟨by (with_reducible repeat (first | apply Kd.R_alloc | apply Kd.R_drewN | apply Kd.R_drew)); exact Kd.R_mono (Kd.R_far (p := ⟨gb102, 2, none⟩) (Kd.R_far (p := ⟨gb102, 1, none⟩) (Kd.R_far (p := ⟨gb102, 0, none⟩) (Kd.R_mono HO_2.out (fun k_ hk => (⟨hk, hk.2⟩ : _ ∧ k_ ≠ gb102))) (fun _ hk => hk.2) (.int .i64 3)) (fun _ hk => hk.2) (.string (a0.extract (x3_1 : Int).toNat ((wrap64 (x3_1 + 1)) : Int).toNat))) (fun _ hk => hk.2) (.int .i64 x3_1)) (fun _ hk => hk.1.2)⟩, ⟨by (with_reducible repeat (first | refine blk_drewN ?_ _ | refine blk_drew ?_ | refine blk_alloc ?_ _)); refine blk_put (cs := #[.int .i64 3, .string (a0.extract (x3_1 : Int).toNat ((wrap64 (x3_1 + 1)) : Int).toNat), .int .i64 0]) ?_ 2 _ rfl; (with_reducible repeat (first | refine blk_drewN ?_ _ | refine blk_drew ?_ | refine blk_alloc ?_ _)); refine blk_put (cs := #[.int .i64 3, .string (⟨#[]⟩ : ByteArray), .int .i64 0]) ?_ 1 _ rfl; (with_reducible repeat (first | refine blk_drewN ?_ _ | refine blk_drew ?_ | refine blk_alloc ?_ _)); refine blk_put (cs := #[.int .i64 0, .string (⟨#[]⟩ : ByteArray), .int .i64 0]) ?_ 0 _ rfl; (with_reducible repeat (first | refine blk_drewN ?_ _ | refine blk_drew ?_ | refine blk_alloc ?_ _)); (first | exact BK102.out | (simp only [← hji26]; exact BK102.out) | (simp only [← hji31]; exact BK102.out))⟩, ⟨by repeat (first | (with_reducible first | exact HB.out | apply below_alloc | apply pw_below_drewN | apply below_drew1 | refine below_set ?_ GE102.out) | exact HB.out)⟩⟩
                  · rw [if_neg c11] at H
                    have c11b0 : ((bt a0 x3_1) == 32) = false := beq_eq_false_iff_ne.mpr c11
                    have c11b1 : ((bt a0 x3_1) != 32) = true := bne_iff_ne.mpr c11
                    (first | rw [c11b0] | (simp only [i64_w, i32_w]; rw [c11b0]) | skip)
                    by_cases c12 : (bt a0 x3_1) = 9
                    · rw [if_pos c12] at H
                      have c12b0 : ((bt a0 x3_1) == 9) = true := beq_iff_eq.mpr c12
                      have c12b1 : ((bt a0 x3_1) != 9) = false := bne_eq_false_iff_eq.mpr c12
                      clear c12
                      have H' := Aside0.mk H
                      clear H
                      go_wp2
                      repeat (go_quiet (fail); try go_wp2)
                      go_meet
                      case rel => exact ⟨_, (true), (by first | rfl | (simp; done) | (simp [*]; done) | (simp only [List.beq_nil_eq, bne]; done) | (congr 1; simp only [bne]; done) | (simp [bne]; done) | (congr 1; simp only [bne_iff_ne]; done)), (by first | exact H' | (simp only [← hji26] at H'; exact H') | (simp only [← hji31] at H'; exact H')), ⟨by have := HK1.out; first | omega | exact Nat.le_refl _⟩, ⟨by (with_reducible repeat (first | apply Kd.R_alloc | apply Kd.R_drewN | apply Kd.R_drew)); exact Kd.R_mono (Kd.R_far (p := ⟨gb102, 2, none⟩) (Kd.R_far (p := ⟨gb102, 1, none⟩) (Kd.R_far (p := ⟨gb102, 0, none⟩) (Kd.R_mono HO_2.out (fun k_ hk => (⟨hk, hk.2⟩ : _ ∧ k_ ≠ gb102))) (fun _ hk => hk.2) (.int .i64 3)) (fun _ hk => hk.2) (.string (a0.extract (x3_1 : Int).toNat ((wrap64 (x3_1 + 1)) : Int).toNat))) (fun _ hk => hk.2) (.int .i64 x3_1)) (fun _ hk => hk.1.2)⟩, ⟨by (with_reducible repeat (first | refine blk_drewN ?_ _ | refine blk_drew ?_ | refine blk_alloc ?_ _)); refine blk_put (cs := #[.int .i64 3, .string (a0.extract (x3_1 : Int).toNat ((wrap64 (x3_1 + 1)) : Int).toNat), .int .i64 0]) ?_ 2 _ rfl; (with_reducible repeat (first | refine blk_drewN ?_ _ | refine blk_drew ?_ | refine blk_alloc ?_ _)); refine blk_put (cs := #[.int .i64 3, .string (⟨#[]⟩ : ByteArray), .int .i64 0]) ?_ 1 _ rfl; (with_reducible repeat (first | refine blk_drewN ?_ _ | refine blk_drew ?_ | refine blk_alloc ?_ _)); refine blk_put (cs := #[.int .i64 0, .string (⟨#[]⟩ : ByteArray), .int .i64 0]) ?_ 0 _ rfl; (with_reducible repeat (first | refine blk_drewN ?_ _ | refine blk_drew ?_ | refine blk_alloc ?_ _)); (first | exact BK102.out | (simp only [← hji26]; exact BK102.out) | (simp only [← hji31]; exact BK102.out))⟩, ⟨by repeat (first | (with_reducible first | exact HB.out | apply below_alloc | apply pw_below_drewN | apply below_drew1 | refine below_set ?_ GE102.out) | exact HB.out)⟩⟩
                    · rw [if_neg c12] at H
                      have c12b0 : ((bt a0 x3_1) == 9) = false := beq_eq_false_iff_ne.mpr c12
                      have c12b1 : ((bt a0 x3_1) != 9) = true := bne_iff_ne.mpr c12
                      have H' := Aside0.mk H
                      clear H
                      go_wp2
                      repeat (go_quiet (fail); try go_wp2)
                      go_meet
                      case rel => exact ⟨_, (((bt a0 x3_1) == 10)), (by first | rfl | (simp; done) | (simp [*]; done) | (simp only [List.beq_nil_eq, bne]; done) | (congr 1; simp only [bne]; done) | (simp [bne]; done) | (congr 1; simp only [bne_iff_ne]; done)), (by first | exact H' | (simp only [← hji26] at H'; exact H') | (simp only [← hji31] at H'; exact H')), ⟨by have := HK1.out; first | omega | exact Nat.le_refl _⟩, ⟨by (with_reducible repeat (first | apply Kd.R_alloc | apply Kd.R_drewN | apply Kd.R_drew)); exact Kd.R_mono (Kd.R_far (p := ⟨gb102, 2, none⟩) (Kd.R_far (p := ⟨gb102, 1, none⟩) (Kd.R_far (p := ⟨gb102, 0, none⟩) (Kd.R_mono HO_2.out (fun k_ hk => (⟨hk, hk.2⟩ : _ ∧ k_ ≠ gb102))) (fun _ hk => hk.2) (.int .i64 3)) (fun _ hk => hk.2) (.string (a0.extract (x3_1 : Int).toNat ((wrap64 (x3_1 + 1)) : Int).toNat))) (fun _ hk => hk.2) (.int .i64 x3_1)) (fun _ hk => hk.1.2)⟩, ⟨by (with_reducible repeat (first | refine blk_drewN ?_ _ | refine blk_drew ?_ | refine blk_alloc ?_ _)); refine blk_put (cs := #[.int .i64 3, .string (a0.extract (x3_1 : Int).toNat ((wrap64 (x3_1 + 1)) : Int).toNat), .int .i64 0]) ?_ 2 _ rfl; (with_reducible repeat (first | refine blk_drewN ?_ _ | refine blk_drew ?_ | refine blk_alloc ?_ _)); refine blk_put (cs := #[.int .i64 3, .string (⟨#[]⟩ : ByteArray), .int .i64 0]) ?_ 1 _ rfl; (with_reducible repeat (first | refine blk_drewN ?_ _ | refine blk_drew ?_ | refine blk_alloc ?_ _)); refine blk_put (cs := #[.int .i64 0, .string (⟨#[]⟩ : ByteArray), .int .i64 0]) ?_ 0 _ rfl; (with_reducible repeat (first | refine blk_drewN ?_ _ | refine blk_drew ?_ | refine blk_alloc ?_ _)); (first | exact BK102.out | (simp only [← hji26]; exact BK102.out) | (simp only [← hji31]; exact BK102.out))⟩, ⟨by repeat (first | (with_reducible first | exact HB.out | apply below_alloc | apply pw_below_drewN | apply below_drew1 | refine below_set ?_ GE102.out) | exact HB.out)⟩⟩
                case rest =>
                  clear HC8
                  try clear c1
                  try clear c2
                  try clear c2b0
                  try clear c2b1
                  try clear p2
                  try clear c3
                  try clear c3b0
                  try clear c4
                  try clear c4b0
                  try clear c4b1
                  try clear c5
                  try clear c5b0
                  try clear c5b1
                  try clear c6
                  try clear c6b0
                  try clear c6b1
                  try clear p6
                  try clear p7
                  try clear q7
                  try clear hx7
                  try clear c8
                  try clear c11
                  try clear c11b0
                  try clear c11b1
                  try clear c12
                  try clear c12b0
                  try clear c12b1
                  try clear hcz10_0
                  try clear hcz10_1
                  try clear hcz10_2
                  try clear hfz10_0
                  try clear hfz10_1
                  try clear hfz10_2
                  try clear p2
                  try clear p7
                  try clear q7
                  obtain ⟨kq, x26_7, rfl, HA, HJ7, HO_2, BK102, HB⟩ := hcut
                  cases kq with
                  | zero => exact absurd HA.out (by simp [token_Signs.j1])
                  | succ kj7 =>
                    have H := HA.out
                    clear HA
                    simp only [token_Signs.j1] at H
                    by_cases c13 : x26_7 = true
                    · subst c13
                      have H1 : (token_Signs.l0 kj7 a0 x2_1 (wrap64 (x3_1 + 1))) = some (r1, r2, r3) := by rw [if_pos rfl] at H; exact H
                      clear H
                      have H := H1
                      clear H1
                      have H' := Aside0.mk H
                      clear H
                      go_wp2
                      repeat (go_quiet (fail); try go_wp2)
                      go_roundg kj7
                      case measure => have := HK1.out; have := HJ7.out; omega
                      case rel => exact ⟨(x2_1), (wrap64 (x3_1 + 1)), (by first | rfl | (simp; done) | (simp [*]; done) | (simp only [List.beq_nil_eq, bne]; done) | (congr 1; simp only [bne]; done) | (simp [bne]; done) | (congr 1; simp only [bne_iff_ne]; done)), (by first | exact H' | (simp only [← hji26] at H'; exact H') | (simp only [← hji31] at H'; exact H')), ⟨by have := HK1.out; have := HJ7.out; omega⟩, ⟨by (with_reducible repeat (first | apply Kd.R_alloc | apply Kd.R_drewN | apply Kd.R_drew)); exact Kd.R_mono HO_2.out (fun _ hk => trivial)⟩, ⟨by repeat (first | (with_reducible first | exact HB.out | apply below_alloc | apply pw_below_drewN | apply below_drew1 | refine below_set ?_ GE102.out) | exact HB.out)⟩⟩
                    · replace c13 := Bool.eq_false_iff.mpr c13
                      subst c13
                      have H1 : ((token_part.f kj7 (bt a0 x3_1)).bind fun t103 => (if t103 = true then (if 0 ≤ x3_1 then (if x3_1 ≤ (a0.size : Int) then ((token_run.f kj7 (a0.extract (x3_1 : Int).toNat a0.size)).bind fun t104 => (if (t104.size : Int) > 16 then (some (([] : List (S30)), x3_1, 80)) else (if x2_1.length < 4398046511104 then (token_Signs.l0 kj7 a0 (x2_1 ++ [(⟨1, t104, x3_1⟩ : S30)]) (wrap64 (x3_1 + (t104.size : Int)))) else (none)))) else (none)) else (none)) else (if (bt a0 x3_1) = 63 then (if 0 ≤ (wrap64 (x3_1 + 1)) then (if (wrap64 (x3_1 + 1)) ≤ (a0.size : Int) then ((token_run.f kj7 (a0.extract ((wrap64 (x3_1 + 1)) : Int).toNat a0.size)).bind fun t108 => (token_Signs.j2 kj7 a0 x2_1 x3_1 (bt a0 x3_1) (t108.toList != ([] : List UInt8)) 3 (a0.extract (x3_1 : Int).toNat ((wrap64 (x3_1 + 1)) : Int).toNat) x3_1)) else (none)) else (none)) else (token_Signs.j2 kj7 a0 x2_1 x3_1 (bt a0 x3_1) false 3 (a0.extract (x3_1 : Int).toNat ((wrap64 (x3_1 + 1)) : Int).toNat) x3_1)))) = some (r1, r2, r3) := by rw [if_neg (show ¬ (false = true) by decide)] at H; exact H
                      clear H
                      have H := H1
                      clear H1
                      replace H := Option.bind_eq_some_iff.mp H
                      obtain ⟨t103, A140, H⟩ := H
                      replace H : (if t103 = true then (if 0 ≤ x3_1 then (if x3_1 ≤ (a0.size : Int) then ((token_run.f kj7 (a0.extract (x3_1 : Int).toNat a0.size)).bind fun t104 => (if (t104.size : Int) > 16 then (some (([] : List (S30)), x3_1, 80)) else (if x2_1.length < 4398046511104 then (token_Signs.l0 kj7 a0 (x2_1 ++ [(⟨1, t104, x3_1⟩ : S30)]) (wrap64 (x3_1 + (t104.size : Int)))) else (none)))) else (none)) else (none)) else (if (bt a0 x3_1) = 63 then (if 0 ≤ (wrap64 (x3_1 + 1)) then (if (wrap64 (x3_1 + 1)) ≤ (a0.size : Int) then ((token_run.f kj7 (a0.extract ((wrap64 (x3_1 + 1)) : Int).toNat a0.size)).bind fun t108 => (token_Signs.j2 kj7 a0 x2_1 x3_1 (bt a0 x3_1) (t108.toList != ([] : List UInt8)) 3 (a0.extract (x3_1 : Int).toNat ((wrap64 (x3_1 + 1)) : Int).toNat) x3_1)) else (none)) else (none)) else (token_Signs.j2 kj7 a0 x2_1 x3_1 (bt a0 x3_1) false 3 (a0.extract (x3_1 : Int).toNat ((wrap64 (x3_1 + 1)) : Int).toNat) x3_1))) = some (r1, r2, r3) := H
                      have A14 := Aside0.mk A140
                      clear A140
                      by_cases c15 : t103 = true
                      · subst c15
                        have H1 : (if 0 ≤ x3_1 then (if x3_1 ≤ (a0.size : Int) then ((token_run.f kj7 (a0.extract (x3_1 : Int).toNat a0.size)).bind fun t104 => (if (t104.size : Int) > 16 then (some (([] : List (S30)), x3_1, 80)) else (if x2_1.length < 4398046511104 then (token_Signs.l0 kj7 a0 (x2_1 ++ [(⟨1, t104, x3_1⟩ : S30)]) (wrap64 (x3_1 + (t104.size : Int)))) else (none)))) else (none)) else (none)) = some (r1, r2, r3) := by rw [if_pos rfl] at H; exact H
                        clear H
                        have H := H1
                        clear H1
                        by_cases c16 : 0 ≤ x3_1
                        · rw [if_pos c16] at H
                          have c16b0 := eq_true c16
                          have c16b1 : decide (0 ≤ x3_1) = true := decide_eq_true c16
                          clear c16
                          by_cases c17 : x3_1 ≤ (a0.size : Int)
                          · rw [if_pos c17] at H
                            have c17b0 := eq_true c17
                            have c17b1 : decide (x3_1 ≤ (a0.size : Int)) = true := decide_eq_true c17
                            clear c17
                            replace H := Option.bind_eq_some_iff.mp H
                            obtain ⟨t104, A180, H⟩ := H
                            replace H : (if (t104.size : Int) > 16 then (some (([] : List (S30)), x3_1, 80)) else (if x2_1.length < 4398046511104 then (token_Signs.l0 kj7 a0 (x2_1 ++ [(⟨1, t104, x3_1⟩ : S30)]) (wrap64 (x3_1 + (t104.size : Int)))) else (none))) = some (r1, r2, r3) := H
                            have A18 := Aside0.mk A180
                            clear A180
                            by_cases c19 : (t104.size : Int) > 16
                            · rw [if_pos c19] at H
                              have c19b0 : decide (16 < (t104.size : Int)) = true := decide_eq_true c19
                              have c19b1 : decide (16 < t104.size) = true := decide_eq_true (by omega)
                              clear c19
                              simp only [Option.some.injEq, Prod.mk.injEq] at H
                              obtain ⟨rfl, rfl, rfl⟩ := H
                              go_wp2_with (first | (go_at_call 13; (with_reducible refine (token_part.calls kj7 (bt a0 x3_1) true _ A14.out).mono ?_); rintro e w' ⟨rfl, ⟨nd, rfl⟩⟩; (try first | exact ⟨rfl, _, World.drewN_drewN _ _ _⟩ | exact ⟨rfl, _, Eq.trans (World.drewN_drewN _ _ _) (congrArg (World.drewN _) (Nat.add_assoc _ _ _))⟩)) | (go_at_call 14; (with_reducible refine (token_run.calls kj7 (a0.extract (x3_1 : Int).toNat a0.size) t104 _ A18.out).mono ?_); rintro e w' ⟨rfl, ⟨nd, rfl⟩⟩; (try first | exact ⟨rfl, _, World.drewN_drewN _ _ _⟩ | exact ⟨rfl, _, Eq.trans (World.drewN_drewN _ _ _) (congrArg (World.drewN _) (Nat.add_assoc _ _ _))⟩); have hcz20_0 : wc.cell? ⟨gb102, 0, none⟩ = some (.int .i64 3) := (blk_cell BK102.out 0).trans (by first | rfl | (simp only [← hji26] <;> rfl) | (simp only [← hji31] <;> rfl)); have hcz20_1 : wc.cell? ⟨gb102, 1, none⟩ = some (.string (a0.extract (x3_1 : Int).toNat ((wrap64 (x3_1 + 1)) : Int).toNat)) := (blk_cell BK102.out 1).trans (by first | rfl | (simp only [← hji26] <;> rfl) | (simp only [← hji31] <;> rfl)); have hcz20_2 : wc.cell? ⟨gb102, 2, none⟩ = some (.int .i64 x3_1) := (blk_cell BK102.out 2).trans (by first | rfl | (simp only [← hji26] <;> rfl) | (simp only [← hji31] <;> rfl)); have hfz20_0 := blk_frozen BK102.out 0; have hfz20_1 := blk_frozen BK102.out 1; have hfz20_2 := blk_frozen BK102.out 2))
                              repeat (go_quiet (first | (go_at_call 13; (with_reducible refine (token_part.calls kj7 (bt a0 x3_1) true _ A14.out).mono ?_); rintro e w' ⟨rfl, ⟨nd, rfl⟩⟩; (try first | exact ⟨rfl, _, World.drewN_drewN _ _ _⟩ | exact ⟨rfl, _, Eq.trans (World.drewN_drewN _ _ _) (congrArg (World.drewN _) (Nat.add_assoc _ _ _))⟩)) | (go_at_call 14; (with_reducible refine (token_run.calls kj7 (a0.extract (x3_1 : Int).toNat a0.size) t104 _ A18.out).mono ?_); rintro e w' ⟨rfl, ⟨nd, rfl⟩⟩; (try first | exact ⟨rfl, _, World.drewN_drewN _ _ _⟩ | exact ⟨rfl, _, Eq.trans (World.drewN_drewN _ _ _) (congrArg (World.drewN _) (Nat.add_assoc _ _ _))⟩); have hcz20_0 : wc.cell? ⟨gb102, 0, none⟩ = some (.int .i64 3) := (blk_cell BK102.out 0).trans (by first | rfl | (simp only [← hji26] <;> rfl) | (simp only [← hji31] <;> rfl)); have hcz20_1 : wc.cell? ⟨gb102, 1, none⟩ = some (.string (a0.extract (x3_1 : Int).toNat ((wrap64 (x3_1 + 1)) : Int).toNat)) := (blk_cell BK102.out 1).trans (by first | rfl | (simp only [← hji26] <;> rfl) | (simp only [← hji31] <;> rfl)); have hcz20_2 : wc.cell? ⟨gb102, 2, none⟩ = some (.int .i64 x3_1) := (blk_cell BK102.out 2).trans (by first | rfl | (simp only [← hji26] <;> rfl) | (simp only [← hji31] <;> rfl)); have hfz20_0 := blk_frozen BK102.out 0; have hfz20_1 := blk_frozen BK102.out 1; have hfz20_2 := blk_frozen BK102.out 2)); try go_wp2_with (first | (go_at_call 13; (with_reducible refine (token_part.calls kj7 (bt a0 x3_1) true _ A14.out).mono ?_); rintro e w' ⟨rfl, ⟨nd, rfl⟩⟩; (try first | exact ⟨rfl, _, World.drewN_drewN _ _ _⟩ | exact ⟨rfl, _, Eq.trans (World.drewN_drewN _ _ _) (congrArg (World.drewN _) (Nat.add_assoc _ _ _))⟩)) | (go_at_call 14; (with_reducible refine (token_run.calls kj7 (a0.extract (x3_1 : Int).toNat a0.size) t104 _ A18.out).mono ?_); rintro e w' ⟨rfl, ⟨nd, rfl⟩⟩; (try first | exact ⟨rfl, _, World.drewN_drewN _ _ _⟩ | exact ⟨rfl, _, Eq.trans (World.drewN_drewN _ _ _) (congrArg (World.drewN _) (Nat.add_assoc _ _ _))⟩); have hcz20_0 : wc.cell? ⟨gb102, 0, none⟩ = some (.int .i64 3) := (blk_cell BK102.out 0).trans (by first | rfl | (simp only [← hji26] <;> rfl) | (simp only [← hji31] <;> rfl)); have hcz20_1 : wc.cell? ⟨gb102, 1, none⟩ = some (.string (a0.extract (x3_1 : Int).toNat ((wrap64 (x3_1 + 1)) : Int).toNat)) := (blk_cell BK102.out 1).trans (by first | rfl | (simp only [← hji26] <;> rfl) | (simp only [← hji31] <;> rfl)); have hcz20_2 : wc.cell? ⟨gb102, 2, none⟩ = some (.int .i64 x3_1) := (blk_cell BK102.out 2).trans (by first | rfl | (simp only [← hji26] <;> rfl) | (simp only [← hji31] <;> rfl)); have hfz20_0 := blk_frozen BK102.out 0; have hfz20_1 := blk_frozen BK102.out 1; have hfz20_2 := blk_frozen BK102.out 2)))
                              go_ret3
                              exact ⟨_, by first | rfl | (simp [errW_none, errW_some] <;> rfl) | (simp [*, errW_none, errW_some] <;> rfl), by first | exact Kd.R_nil _ _ _ _ _ | exact Kd.N_nil _ _ _ _ _ | exact Kd.V_nil _ _ _ _ _ | exact Kd.Q_nil _ _ _ _ _ | exact Kd.S_nil _ _ _ _ _, by repeat (first | (with_reducible first | exact HB.out | apply below_alloc | apply pw_below_drewN | apply below_drew1 | refine below_set ?_ GE102.out) | exact HB.out)⟩
                            · rw [if_neg c19] at H
                              have c19b0 : decide (16 < (t104.size : Int)) = false := decide_eq_false c19
                              have c19b1 : decide (16 < t104.size) = false := decide_eq_false (by omega)
                              clear c19
                              by_cases c21 : x2_1.length < 4398046511104
                              · rw [if_pos c21] at H
                                have LMc21 := Aside0.mk c21
                                clear c21
                                obtain ⟨y105, hy105⟩ : ∃ y_ : List (S30), y_ = (x2_1 ++ [(⟨1, t104, x3_1⟩ : S30)]) := ⟨_, rfl⟩
                                replace H : (token_Signs.l0 kj7 a0 y105 (wrap64 (x3_1 + (t104.size : Int)))) = some (r1, r2, r3) := by first | (rw [hy105]; with_reducible exact H) | (have H2_ := (Option.bind_some _ _).symm.trans H; rw [hy105]; with_reducible exact H2_) | (have H2_ := (Option.bind_some _ _).symm.trans H; with_reducible exact H2_) | with_reducible exact H | (rw [hy105]; exact H) | exact H
                                have Ny105 := Aside0.mk hy105
                                clear hy105
                                have H' := Aside0.mk H
                                clear H
                                go_wp2_with (first | (go_at_call 13; (with_reducible refine (token_part.calls kj7 (bt a0 x3_1) true _ A14.out).mono ?_); rintro e w' ⟨rfl, ⟨nd, rfl⟩⟩; (try first | exact ⟨rfl, _, World.drewN_drewN _ _ _⟩ | exact ⟨rfl, _, Eq.trans (World.drewN_drewN _ _ _) (congrArg (World.drewN _) (Nat.add_assoc _ _ _))⟩)) | (go_at_call 14; (with_reducible refine (token_run.calls kj7 (a0.extract (x3_1 : Int).toNat a0.size) t104 _ A18.out).mono ?_); rintro e w' ⟨rfl, ⟨nd, rfl⟩⟩; (try first | exact ⟨rfl, _, World.drewN_drewN _ _ _⟩ | exact ⟨rfl, _, Eq.trans (World.drewN_drewN _ _ _) (congrArg (World.drewN _) (Nat.add_assoc _ _ _))⟩); have hcz22_0 : wc.cell? ⟨gb102, 0, none⟩ = some (.int .i64 3) := (blk_cell BK102.out 0).trans (by first | rfl | (simp only [← hji26] <;> rfl) | (simp only [← hji31] <;> rfl)); have hcz22_1 : wc.cell? ⟨gb102, 1, none⟩ = some (.string (a0.extract (x3_1 : Int).toNat ((wrap64 (x3_1 + 1)) : Int).toNat)) := (blk_cell BK102.out 1).trans (by first | rfl | (simp only [← hji26] <;> rfl) | (simp only [← hji31] <;> rfl)); have hcz22_2 : wc.cell? ⟨gb102, 2, none⟩ = some (.int .i64 x3_1) := (blk_cell BK102.out 2).trans (by first | rfl | (simp only [← hji26] <;> rfl) | (simp only [← hji31] <;> rfl)); have hfz22_0 := blk_frozen BK102.out 0; have hfz22_1 := blk_frozen BK102.out 1; have hfz22_2 := blk_frozen BK102.out 2) | ((with_reducible refine gate_builtin (b := .append) (xs := #[.tmp 88, .tmp 90]) rfl ?_); at_builtin; refine Kd.R_append k30 (w0 := w) w.heap.size rfl (.tmp 88) (.tmp 90) 22 30 (.agg #[(.int .i64 0), (.string ⟨#[]⟩), (.int .i64 0)]) 32 rfl Try.underlying22 info30 rfl (by decide) (by omega) u2 x2_1 (⟨1, t104, x3_1⟩ : S30) [.int .i64 1, .string t104, .int .i64 x3_1] (fun k_ => k_ ≠ gb102) (fun _ => False) rfl (by first | (go_simp; done) | (go_simp; rfl)) ?aP (fun _ hk => hk.elim) ?aF ?aO ?aB ?aS ?aL ?_; (case aP => exact k30_mkM _ _ _ (⟨1, t104, x3_1⟩ : S30)); (case aB => exact (by repeat (first | (with_reducible first | exact HB.out | apply below_alloc | apply pw_below_drewN | apply below_drew1 | refine below_set ?_ GE102.out) | exact HB.out))); (case aF => exact (fun k_ hk => Kd.freshB (g := gb102) (o := .cells #[.int .i64 1, .string t104, .int .i64 x3_1] 30 (0, 0)) (by (with_reducible repeat (first | refine blk_drewN ?_ _ | refine blk_drew ?_ | refine blk_alloc ?_ _)); refine blk_put (cs := #[.int .i64 1, .string (a0.extract (x3_1 : Int).toNat ((wrap64 (x3_1 + 1)) : Int).toNat), .int .i64 x3_1]) ?_ 1 _ rfl; (with_reducible repeat (first | refine blk_drewN ?_ _ | refine blk_drew ?_ | refine blk_alloc ?_ _)); refine blk_put (cs := #[.int .i64 3, .string (a0.extract (x3_1 : Int).toNat ((wrap64 (x3_1 + 1)) : Int).toNat), .int .i64 x3_1]) ?_ 0 _ rfl; (with_reducible repeat (first | refine blk_drewN ?_ _ | refine blk_drew ?_ | refine blk_alloc ?_ _)); (first | exact BK102.out | (simp only [← hji26]; exact BK102.out) | (simp only [← hji31]; exact BK102.out))) k_ hk)); (case aO => exact (by (with_reducible repeat (first | apply Kd.R_alloc | apply Kd.R_drewN | apply Kd.R_drew)); exact Kd.R_mono (Kd.R_far (p := ⟨gb102, 1, none⟩) (Kd.R_far (p := ⟨gb102, 0, none⟩) (Kd.R_mono HO_2.out (fun k_ hk => (⟨hk, hk⟩ : _ ∧ k_ ≠ gb102))) (fun _ hk => hk.2) (.int .i64 1)) (fun _ hk => hk.2) (.string t104)) (fun _ hk => hk.1))); (case aS => exact (below_size (by repeat (first | (with_reducible first | exact HB.out | apply below_alloc | apply pw_below_drewN | apply below_drew1 | refine below_set ?_ GE102.out) | exact HB.out)))); (case aL => have := LMc21.out; omega); intro v106 w23 ho hb hg hat; rw [← Ny105.out] at ho; have n0_ := Aside0.mk (blk_grown (g := gb102) (o := .cells #[.int .i64 1, .string t104, .int .i64 x3_1] 30 (0, 0)) (by (with_reducible repeat (first | refine blk_drewN ?_ _ | refine blk_drew ?_ | refine blk_alloc ?_ _)); refine blk_put (cs := #[.int .i64 1, .string (a0.extract (x3_1 : Int).toNat ((wrap64 (x3_1 + 1)) : Int).toNat), .int .i64 x3_1]) ?_ 1 _ rfl; (with_reducible repeat (first | refine blk_drewN ?_ _ | refine blk_drew ?_ | refine blk_alloc ?_ _)); refine blk_put (cs := #[.int .i64 3, .string (a0.extract (x3_1 : Int).toNat ((wrap64 (x3_1 + 1)) : Int).toNat), .int .i64 x3_1]) ?_ 0 _ rfl; (with_reducible repeat (first | refine blk_drewN ?_ _ | refine blk_drew ?_ | refine blk_alloc ?_ _)); (first | exact BK102.out | (simp only [← hji26]; exact BK102.out) | (simp only [← hji31]; exact BK102.out))) hg (Kd.R_away HO_2.out (fun _ hk => hk))); have n1_ := Aside0.mk (hb); have n2_ := Aside0.mk (ho); clear BK102; clear HB; clear HO_2; have BK102 := n0_; have HB := n1_; have HO107 := n2_; clear n0_ n1_ n2_; clear ho hb hg hat))
                                repeat (go_quiet (first | (go_at_call 13; (with_reducible refine (token_part.calls kj7 (bt a0 x3_1) true _ A14.out).mono ?_); rintro e w' ⟨rfl, ⟨nd, rfl⟩⟩; (try first | exact ⟨rfl, _, World.drewN_drewN _ _ _⟩ | exact ⟨rfl, _, Eq.trans (World.drewN_drewN _ _ _) (congrArg (World.drewN _) (Nat.add_assoc _ _ _))⟩)) | (go_at_call 14; (with_reducible refine (token_run.calls kj7 (a0.extract (x3_1 : Int).toNat a0.size) t104 _ A18.out).mono ?_); rintro e w' ⟨rfl, ⟨nd, rfl⟩⟩; (try first | exact ⟨rfl, _, World.drewN_drewN _ _ _⟩ | exact ⟨rfl, _, Eq.trans (World.drewN_drewN _ _ _) (congrArg (World.drewN _) (Nat.add_assoc _ _ _))⟩); have hcz22_0 : wc.cell? ⟨gb102, 0, none⟩ = some (.int .i64 3) := (blk_cell BK102.out 0).trans (by first | rfl | (simp only [← hji26] <;> rfl) | (simp only [← hji31] <;> rfl)); have hcz22_1 : wc.cell? ⟨gb102, 1, none⟩ = some (.string (a0.extract (x3_1 : Int).toNat ((wrap64 (x3_1 + 1)) : Int).toNat)) := (blk_cell BK102.out 1).trans (by first | rfl | (simp only [← hji26] <;> rfl) | (simp only [← hji31] <;> rfl)); have hcz22_2 : wc.cell? ⟨gb102, 2, none⟩ = some (.int .i64 x3_1) := (blk_cell BK102.out 2).trans (by first | rfl | (simp only [← hji26] <;> rfl) | (simp only [← hji31] <;> rfl)); have hfz22_0 := blk_frozen BK102.out 0; have hfz22_1 := blk_frozen BK102.out 1; have hfz22_2 := blk_frozen BK102.out 2) | ((with_reducible refine gate_builtin (b := .append) (xs := #[.tmp 88, .tmp 90]) rfl ?_); at_builtin; refine Kd.R_append k30 (w0 := w) w.heap.size rfl (.tmp 88) (.tmp 90) 22 30 (.agg #[(.int .i64 0), (.string ⟨#[]⟩), (.int .i64 0)]) 32 rfl Try.underlying22 info30 rfl (by decide) (by omega) u2 x2_1 (⟨1, t104, x3_1⟩ : S30) [.int .i64 1, .string t104, .int .i64 x3_1] (fun k_ => k_ ≠ gb102) (fun _ => False) rfl (by first | (go_simp; done) | (go_simp; rfl)) ?aP (fun _ hk => hk.elim) ?aF ?aO ?aB ?aS ?aL ?_; (case aP => exact k30_mkM _ _ _ (⟨1, t104, x3_1⟩ : S30)); (case aB => exact (by repeat (first | (with_reducible first | exact HB.out | apply below_alloc | apply pw_below_drewN | apply below_drew1 | refine below_set ?_ GE102.out) | exact HB.out))); (case aF => exact (fun k_ hk => Kd.freshB (g := gb102) (o := .cells #[.int .i64 1, .string t104, .int .i64 x3_1] 30 (0, 0)) (by (with_reducible repeat (first | refine blk_drewN ?_ _ | refine blk_drew ?_ | refine blk_alloc ?_ _)); refine blk_put (cs := #[.int .i64 1, .string (a0.extract (x3_1 : Int).toNat ((wrap64 (x3_1 + 1)) : Int).toNat), .int .i64 x3_1]) ?_ 1 _ rfl; (with_reducible repeat (first | refine blk_drewN ?_ _ | refine blk_drew ?_ | refine blk_alloc ?_ _)); refine blk_put (cs := #[.int .i64 3, .string (a0.extract (x3_1 : Int).toNat ((wrap64 (x3_1 + 1)) : Int).toNat), .int .i64 x3_1]) ?_ 0 _ rfl; (with_reducible repeat (first | refine blk_drewN ?_ _ | refine blk_drew ?_ | refine blk_alloc ?_ _)); (first | exact BK102.out | (simp only [← hji26]; exact BK102.out) | (simp only [← hji31]; exact BK102.out))) k_ hk)); (case aO => exact (by (with_reducible repeat (first | apply Kd.R_alloc | apply Kd.R_drewN | apply Kd.R_drew)); exact Kd.R_mono (Kd.R_far (p := ⟨gb102, 1, none⟩) (Kd.R_far (p := ⟨gb102, 0, none⟩) (Kd.R_mono HO_2.out (fun k_ hk => (⟨hk, hk⟩ : _ ∧ k_ ≠ gb102))) (fun _ hk => hk.2) (.int .i64 1)) (fun _ hk => hk.2) (.string t104)) (fun _ hk => hk.1))); (case aS => exact (below_size (by repeat (first | (with_reducible first | exact HB.out | apply below_alloc | apply pw_below_drewN | apply below_drew1 | refine below_set ?_ GE102.out) | exact HB.out)))); (case aL => have := LMc21.out; omega); intro v106 w23 ho hb hg hat; rw [← Ny105.out] at ho; have n0_ := Aside0.mk (blk_grown (g := gb102) (o := .cells #[.int .i64 1, .string t104, .int .i64 x3_1] 30 (0, 0)) (by (with_reducible repeat (first | refine blk_drewN ?_ _ | refine blk_drew ?_ | refine blk_alloc ?_ _)); refine blk_put (cs := #[.int .i64 1, .string (a0.extract (x3_1 : Int).toNat ((wrap64 (x3_1 + 1)) : Int).toNat), .int .i64 x3_1]) ?_ 1 _ rfl; (with_reducible repeat (first | refine blk_drewN ?_ _ | refine blk_drew ?_ | refine blk_alloc ?_ _)); refine blk_put (cs := #[.int .i64 3, .string (a0.extract (x3_1 : Int).toNat ((wrap64 (x3_1 + 1)) : Int).toNat), .int .i64 x3_1]) ?_ 0 _ rfl; (with_reducible repeat (first | refine blk_drewN ?_ _ | refine blk_drew ?_ | refine blk_alloc ?_ _)); (first | exact BK102.out | (simp only [← hji26]; exact BK102.out) | (simp only [← hji31]; exact BK102.out))) hg (Kd.R_away HO_2.out (fun _ hk => hk))); have n1_ := Aside0.mk (hb); have n2_ := Aside0.mk (ho); clear BK102; clear HB; clear HO_2; have BK102 := n0_; have HB := n1_; have HO107 := n2_; clear n0_ n1_ n2_; clear ho hb hg hat)); try go_wp2_with (first | (go_at_call 13; (with_reducible refine (token_part.calls kj7 (bt a0 x3_1) true _ A14.out).mono ?_); rintro e w' ⟨rfl, ⟨nd, rfl⟩⟩; (try first | exact ⟨rfl, _, World.drewN_drewN _ _ _⟩ | exact ⟨rfl, _, Eq.trans (World.drewN_drewN _ _ _) (congrArg (World.drewN _) (Nat.add_assoc _ _ _))⟩)) | (go_at_call 14; (with_reducible refine (token_run.calls kj7 (a0.extract (x3_1 : Int).toNat a0.size) t104 _ A18.out).mono ?_); rintro e w' ⟨rfl, ⟨nd, rfl⟩⟩; (try first | exact ⟨rfl, _, World.drewN_drewN _ _ _⟩ | exact ⟨rfl, _, Eq.trans (World.drewN_drewN _ _ _) (congrArg (World.drewN _) (Nat.add_assoc _ _ _))⟩); have hcz22_0 : wc.cell? ⟨gb102, 0, none⟩ = some (.int .i64 3) := (blk_cell BK102.out 0).trans (by first | rfl | (simp only [← hji26] <;> rfl) | (simp only [← hji31] <;> rfl)); have hcz22_1 : wc.cell? ⟨gb102, 1, none⟩ = some (.string (a0.extract (x3_1 : Int).toNat ((wrap64 (x3_1 + 1)) : Int).toNat)) := (blk_cell BK102.out 1).trans (by first | rfl | (simp only [← hji26] <;> rfl) | (simp only [← hji31] <;> rfl)); have hcz22_2 : wc.cell? ⟨gb102, 2, none⟩ = some (.int .i64 x3_1) := (blk_cell BK102.out 2).trans (by first | rfl | (simp only [← hji26] <;> rfl) | (simp only [← hji31] <;> rfl)); have hfz22_0 := blk_frozen BK102.out 0; have hfz22_1 := blk_frozen BK102.out 1; have hfz22_2 := blk_frozen BK102.out 2) | ((with_reducible refine gate_builtin (b := .append) (xs := #[.tmp 88, .tmp 90]) rfl ?_); at_builtin; refine Kd.R_append k30 (w0 := w) w.heap.size rfl (.tmp 88) (.tmp 90) 22 30 (.agg #[(.int .i64 0), (.string ⟨#[]⟩), (.int .i64 0)]) 32 rfl Try.underlying22 info30 rfl (by decide) (by omega) u2 x2_1 (⟨1, t104, x3_1⟩ : S30) [.int .i64 1, .string t104, .int .i64 x3_1] (fun k_ => k_ ≠ gb102) (fun _ => False) rfl (by first | (go_simp; done) | (go_simp; rfl)) ?aP (fun _ hk => hk.elim) ?aF ?aO ?aB ?aS ?aL ?_; (case aP => exact k30_mkM _ _ _ (⟨1, t104, x3_1⟩ : S30)); (case aB => exact (by repeat (first | (with_reducible first | exact HB.out | apply below_alloc | apply pw_below_drewN | apply below_drew1 | refine below_set ?_ GE102.out) | exact HB.out))); (case aF => exact (fun k_ hk => Kd.freshB (g := gb102) (o := .cells #[.int .i64 1, .string t104, .int .i64 x3_1] 30 (0, 0)) (by (with_reducible repeat (first | refine blk_drewN ?_ _ | refine blk_drew ?_ | refine blk_alloc ?_ _)); refine blk_put (cs := #[.int .i64 1, .string (a0.extract (x3_1 : Int).toNat ((wrap64 (x3_1 + 1)) : Int).toNat), .int .i64 x3_1]) ?_ 1 _ rfl; (with_reducible repeat (first | refine blk_drewN ?_ _ | refine blk_drew ?_ | refine blk_alloc ?_ _)); refine blk_put (cs := #[.int .i64 3, .string (a0.extract (x3_1 : Int).toNat ((wrap64 (x3_1 + 1)) : Int).toNat), .int .i64 x3_1]) ?_ 0 _ rfl; (with_reducible repeat (first | refine blk_drewN ?_ _ | refine blk_drew ?_ | refine blk_alloc ?_ _)); (first | exact BK102.out | (simp only [← hji26]; exact BK102.out) | (simp only [← hji31]; exact BK102.out))) k_ hk)); (case aO => exact (by (with_reducible repeat (first | apply Kd.R_alloc | apply Kd.R_drewN | apply Kd.R_drew)); exact Kd.R_mono (Kd.R_far (p := ⟨gb102, 1, none⟩) (Kd.R_far (p := ⟨gb102, 0, none⟩) (Kd.R_mono HO_2.out (fun k_ hk => (⟨hk, hk⟩ : _ ∧ k_ ≠ gb102))) (fun _ hk => hk.2) (.int .i64 1)) (fun _ hk => hk.2) (.string t104)) (fun _ hk => hk.1))); (case aS => exact (below_size (by repeat (first | (with_reducible first | exact HB.out | apply below_alloc | apply pw_below_drewN | apply below_drew1 | refine below_set ?_ GE102.out) | exact HB.out)))); (case aL => have := LMc21.out; omega); intro v106 w23 ho hb hg hat; rw [← Ny105.out] at ho; have n0_ := Aside0.mk (blk_grown (g := gb102) (o := .cells #[.int .i64 1, .string t104, .int .i64 x3_1] 30 (0, 0)) (by (with_reducible repeat (first | refine blk_drewN ?_ _ | refine blk_drew ?_ | refine blk_alloc ?_ _)); refine blk_put (cs := #[.int .i64 1, .string (a0.extract (x3_1 : Int).toNat ((wrap64 (x3_1 + 1)) : Int).toNat), .int .i64 x3_1]) ?_ 1 _ rfl; (with_reducible repeat (first | refine blk_drewN ?_ _ | refine blk_drew ?_ | refine blk_alloc ?_ _)); refine blk_put (cs := #[.int .i64 3, .string (a0.extract (x3_1 : Int).toNat ((wrap64 (x3_1 + 1)) : Int).toNat), .int .i64 x3_1]) ?_ 0 _ rfl; (with_reducible repeat (first | refine blk_drewN ?_ _ | refine blk_drew ?_ | refine blk_alloc ?_ _)); (first | exact BK102.out | (simp only [← hji26]; exact BK102.out) | (simp only [← hji31]; exact BK102.out))) hg (Kd.R_away HO_2.out (fun _ hk => hk))); have n1_ := Aside0.mk (hb); have n2_ := Aside0.mk (ho); clear BK102; clear HB; clear HO_2; have BK102 := n0_; have HB := n1_; have HO107 := n2_; clear n0_ n1_ n2_; clear ho hb hg hat)))
                                go_roundg kj7
                                case measure => have := HK1.out; have := HJ7.out; omega
                                case rel => exact ⟨(y105), (wrap64 (x3_1 + (t104.size : Int))), (by first | rfl | (simp; done) | (simp [*]; done) | (simp only [List.beq_nil_eq, bne]; done) | (congr 1; simp only [bne]; done) | (simp [bne]; done) | (congr 1; simp only [bne_iff_ne]; done)), (by first | exact H' | (simp only [← hji26] at H'; exact H') | (simp only [← hji31] at H'; exact H')), ⟨by have := HK1.out; have := HJ7.out; omega⟩, ⟨by (with_reducible repeat (first | apply Kd.R_alloc | apply Kd.R_drewN | apply Kd.R_drew)); exact Kd.R_mono HO107.out (fun _ hk => trivial)⟩, ⟨by repeat (first | (with_reducible first | exact HB.out | apply below_alloc | apply pw_below_drewN | apply below_drew1 | refine below_set ?_ GE102.out) | exact HB.out)⟩⟩
                              · rw [if_neg c21] at H
                                exact absurd H (by simp)
                          · rw [if_neg c17] at H
                            exact absurd H (by simp)
                        · rw [if_neg c16] at H
                          exact absurd H (by simp)
                      · replace c15 := Bool.eq_false_iff.mpr c15
                        subst c15
                        have H1 : (if (bt a0 x3_1) = 63 then (if 0 ≤ (wrap64 (x3_1 + 1)) then (if (wrap64 (x3_1 + 1)) ≤ (a0.size : Int) then ((token_run.f kj7 (a0.extract ((wrap64 (x3_1 + 1)) : Int).toNat a0.size)).bind fun t108 => (token_Signs.j2 kj7 a0 x2_1 x3_1 (bt a0 x3_1) (t108.toList != ([] : List UInt8)) 3 (a0.extract (x3_1 : Int).toNat ((wrap64 (x3_1 + 1)) : Int).toNat) x3_1)) else (none)) else (none)) else (token_Signs.j2 kj7 a0 x2_1 x3_1 (bt a0 x3_1) false 3 (a0.extract (x3_1 : Int).toNat ((wrap64 (x3_1 + 1)) : Int).toNat) x3_1)) = some (r1, r2, r3) := by rw [if_neg (show ¬ (false = true) by decide)] at H; exact H
                        clear H
                        have H := H1
                        clear H1
                        have HC24 := Aside0.mk H
                        clear H
                        go_upto_region 12 with (first | (go_at_call 13; (with_reducible refine (token_part.calls kj7 (bt a0 x3_1) false _ A14.out).mono ?_); rintro e w' ⟨rfl, ⟨nd, rfl⟩⟩; (try first | exact ⟨rfl, _, World.drewN_drewN _ _ _⟩ | exact ⟨rfl, _, Eq.trans (World.drewN_drewN _ _ _) (congrArg (World.drewN _) (Nat.add_assoc _ _ _))⟩)))
                        repeat (go_quiet (first | (go_at_call 13; (with_reducible refine (token_part.calls kj7 (bt a0 x3_1) false _ A14.out).mono ?_); rintro e w' ⟨rfl, ⟨nd, rfl⟩⟩; (try first | exact ⟨rfl, _, World.drewN_drewN _ _ _⟩ | exact ⟨rfl, _, Eq.trans (World.drewN_drewN _ _ _) (congrArg (World.drewN _) (Nat.add_assoc _ _ _))⟩))); go_upto_region 12 with (first | (go_at_call 13; (with_reducible refine (token_part.calls kj7 (bt a0 x3_1) false _ A14.out).mono ?_); rintro e w' ⟨rfl, ⟨nd, rfl⟩⟩; (try first | exact ⟨rfl, _, World.drewN_drewN _ _ _⟩ | exact ⟨rfl, _, Eq.trans (World.drewN_drewN _ _ _) (congrArg (World.drewN _) (Nat.add_assoc _ _ _))⟩))))
                        (try simp only [Act.put, List.setIfInBounds_toArray, List.set_cons_zero, List.set_cons_succ])
                        go_cut [53] (fun v53 wc => ∃ (kq : Nat) (x53_23 : Bool), v53 = .bool x53_23 ∧ Aside0 (token_Signs.j2 kq a0 x2_1 x3_1 (bt a0 x3_1) x53_23 3 (a0.extract (x3_1 : Int).toNat ((wrap64 (x3_1 + 1)) : Int).toNat) x3_1 = some (r1, r2, r3)) ∧ Aside0 (kq ≤ kj7) ∧ Aside0 (Kd.R k30 30 wc w.heap.size (fun k_ => k_ ≠ gb102) u2 x2_1) ∧ Aside0 (wc.heap[gb102]? = some (.cells #[.int .i64 3, .string (a0.extract (x3_1 : Int).toNat ((wrap64 (x3_1 + 1)) : Int).toNat), .int .i64 x3_1] 30 (0, 0))) ∧ Aside0 (Below w.heap.size w wc))
                        case first =>
                          have H := HC24.out
                          clear HC24
                          by_cases c25 : (bt a0 x3_1) = 63
                          · rw [if_pos c25] at H
                            have c25b0 : ((bt a0 x3_1) == 63) = true := beq_iff_eq.mpr c25
                            have c25b1 : ((bt a0 x3_1) != 63) = false := bne_eq_false_iff_eq.mpr c25
                            clear c25
                            (first | rw [c25b0] | (simp only [i64_w, i32_w]; rw [c25b0]) | skip)
                            obtain ⟨ji26, hji26⟩ : ∃ j_ : Int, (wrap64 (x3_1 + 1)) = j_ := ⟨_, rfl⟩
                            replace H : (if 0 ≤ (ji26) then (if (ji26) ≤ (a0.size : Int) then ((token_run.f kj7 (a0.extract ((ji26) : Int).toNat a0.size)).bind fun t108 => (token_Signs.j2 kj7 a0 x2_1 x3_1 (bt a0 x3_1) (t108.toList != ([] : List UInt8)) 3 (a0.extract (x3_1 : Int).toNat ((ji26) : Int).toNat) x3_1)) else (none)) else (none)) = some (r1, r2, r3) := by first | (rw [hji26] at H; exact H) | (simp only [hji26] at H ⊢; exact H)
                            (try rw [hji26] at c5b0)
                            (try rw [hji26] at c5b1)
                            (try rw [hji26] at c5)
                            (try rw [hji26] at c6b0)
                            (try rw [hji26] at c6b1)
                            (try rw [hji26] at c6)
                            have hji26w : (IntKind.i64.wrap (x3_1 + 1)) = ji26 := (i64_w _).trans hji26
                            by_cases c27 : 0 ≤ (ji26)
                            · rw [if_pos c27] at H
                              have c27b0 := eq_true c27
                              have c27b1 : decide (0 ≤ (ji26)) = true := decide_eq_true c27
                              clear c27
                              by_cases c28 : (ji26) ≤ (a0.size : Int)
                              · rw [if_pos c28] at H
                                have c28b0 := eq_true c28
                                have c28b1 : decide ((ji26) ≤ (a0.size : Int)) = true := decide_eq_true c28
                                clear c28
                                replace H := Option.bind_eq_some_iff.mp H
                                obtain ⟨t108, A290, H⟩ := H
                                replace H : (token_Signs.j2 kj7 a0 x2_1 x3_1 (bt a0 x3_1) (t108.toList != ([] : List UInt8)) 3 (a0.extract (x3_1 : Int).toNat ((ji26) : Int).toNat) x3_1) = some (r1, r2, r3) := H
                                have A29 := Aside0.mk A290
                                clear A290
                                have H' := Aside0.mk H
                                clear H
                                go_wp2_with (first | (go_at_call 14; (with_reducible refine (token_run.calls kj7 (a0.extract ((ji26) : Int).toNat a0.size) t108 _ A29.out).mono ?_); rintro e w' ⟨rfl, ⟨nd, rfl⟩⟩; (try first | exact ⟨rfl, _, World.drewN_drewN _ _ _⟩ | exact ⟨rfl, _, Eq.trans (World.drewN_drewN _ _ _) (congrArg (World.drewN _) (Nat.add_assoc _ _ _))⟩)))
                                repeat (go_quiet (first | (go_at_call 14; (with_reducible refine (token_run.calls kj7 (a0.extract ((ji26) : Int).toNat a0.size) t108 _ A29.out).mono ?_); rintro e w' ⟨rfl, ⟨nd, rfl⟩⟩; (try first | exact ⟨rfl, _, World.drewN_drewN _ _ _⟩ | exact ⟨rfl, _, Eq.trans (World.drewN_drewN _ _ _) (congrArg (World.drewN _) (Nat.add_assoc _ _ _))⟩))); try go_wp2_with (first | (go_at_call 14; (with_reducible refine (token_run.calls kj7 (a0.extract ((ji26) : Int).toNat a0.size) t108 _ A29.out).mono ?_); rintro e w' ⟨rfl, ⟨nd, rfl⟩⟩; (try first | exact ⟨rfl, _, World.drewN_drewN _ _ _⟩ | exact ⟨rfl, _, Eq.trans (World.drewN_drewN _ _ _) (congrArg (World.drewN _) (Nat.add_assoc _ _ _))⟩))))
                                go_meet
                                case rel => exact ⟨_, ((t108.toList != ([] : List UInt8))), (by first | rfl | (simp; done) | (simp [*]; done) | (simp only [List.beq_nil_eq, bne]; done) | (congr 1; simp only [bne]; done) | (simp [bne]; done) | (congr 1; simp only [bne_iff_ne]; done)), (by first | exact H' | (simp only [← hji26] at H'; exact H') | (simp only [← hji31] at H'; exact H')), ⟨by have := HK1.out; have := HJ7.out; first | omega | exact Nat.le_refl _⟩, ⟨by (with_reducible repeat (first | apply Kd.R_alloc | apply Kd.R_drewN | apply Kd.R_drew)); exact HO_2.out⟩, ⟨by (with_reducible repeat (first | refine blk_drewN ?_ _ | refine blk_drew ?_ | refine blk_alloc ?_ _)); (first | exact BK102.out | (simp only [← hji26]; exact BK102.out) | (simp only [← hji31]; exact BK102.out))⟩, ⟨by repeat (first | (with_reducible first | exact HB.out | apply below_alloc | apply pw_below_drewN | apply below_drew1 | refine below_set ?_ GE102.out) | exact HB.out)⟩⟩
                              · rw [if_neg c28] at H
                                exact absurd H (by simp)
                            · rw [if_neg c27] at H
                              exact absurd H (by simp)
                          · rw [if_neg c25] at H
                            have c25b0 : ((bt a0 x3_1) == 63) = false := beq_eq_false_iff_ne.mpr c25
                            have c25b1 : ((bt a0 x3_1) != 63) = true := bne_iff_ne.mpr c25
                            (first | rw [c25b0] | (simp only [i64_w, i32_w]; rw [c25b0]) | skip)
                            have H' := Aside0.mk H
                            clear H
                            go_wp2
                            repeat (go_quiet (fail); try go_wp2)
                            go_meet
                            case rel => exact ⟨_, (false), (by first | rfl | (simp; done) | (simp [*]; done) | (simp only [List.beq_nil_eq, bne]; done) | (congr 1; simp only [bne]; done) | (simp [bne]; done) | (congr 1; simp only [bne_iff_ne]; done)), (by first | exact H' | (simp only [← hji26] at H'; exact H') | (simp only [← hji31] at H'; exact H')), ⟨by have := HK1.out; have := HJ7.out; first | omega | exact Nat.le_refl _⟩, ⟨by (with_reducible repeat (first | apply Kd.R_alloc | apply Kd.R_drewN | apply Kd.R_drew)); exact HO_2.out⟩, ⟨by (with_reducible repeat (first | refine blk_drewN ?_ _ | refine blk_drew ?_ | refine blk_alloc ?_ _)); (first | exact BK102.out | (simp only [← hji26]; exact BK102.out) | (simp only [← hji31]; exact BK102.out))⟩, ⟨by repeat (first | (with_reducible first | exact HB.out | apply below_alloc | apply pw_below_drewN | apply below_drew1 | refine below_set ?_ GE102.out) | exact HB.out)⟩⟩
                        case rest =>
                          clear HC24
                          try clear c1
                          try clear c2
                          try clear c2b0
                          try clear c2b1
                          try clear p2
                          try clear c3
                          try clear c3b0
                          try clear c4
                          try clear c4b0
                          try clear c4b1
                          try clear c5
                          try clear c5b0
                          try clear c5b1
                          try clear c6
                          try clear c6b0
                          try clear c6b1
                          try clear p6
                          try clear p7
                          try clear q7
                          try clear hx7
                          try clear c8
                          try clear c11
                          try clear c11b0
                          try clear c11b1
                          try clear c12
                          try clear c12b0
                          try clear c12b1
                          try clear c13
                          try clear c15
                          try clear c16
                          try clear c16b0
                          try clear c16b1
                          try clear c17
                          try clear c17b0
                          try clear c17b1
                          try clear c19
                          try clear c19b0
                          try clear c19b1
                          try clear c21
                          try clear c25
                          try clear c25b0
                          try clear c25b1
                          try clear c27
                          try clear c27b0
                          try clear c27b1
                          try clear c28
                          try clear c28b0
                          try clear c28b1
                          try clear hcz10_0
                          try clear hcz10_1
                          try clear hcz10_2
                          try clear hcz20_0
                          try clear hcz20_1
                          try clear hcz20_2
                          try clear hcz22_0
                          try clear hcz22_1
                          try clear hcz22_2
                          try clear hfz10_0
                          try clear hfz10_1
                          try clear hfz10_2
                          try clear hfz20_0
                          try clear hfz20_1
                          try clear hfz20_2
                          try clear hfz22_0
                          try clear hfz22_1
                          try clear hfz22_2
                          try clear p2
                          try clear p6
                          try clear p7
                          try clear q7
                          obtain ⟨kq, x53_23, rfl, HA, HJ23, HO_2, BK102, HB⟩ := hcut
                          cases kq with
                          | zero => exact absurd HA.out (by simp [token_Signs.j2])
                          | succ kj23 =>
                            have H := HA.out
                            clear HA
                            simp only [token_Signs.j2] at H
                            by_cases c30 : x53_23 = true
                            · subst c30
                              have H1 : (if 0 ≤ (wrap64 (x3_1 + 1)) then (if (wrap64 (x3_1 + 1)) ≤ (a0.size : Int) then ((token_run.f kj23 (a0.extract ((wrap64 (x3_1 + 1)) : Int).toNat a0.size)).bind fun t109 => (if (t109.size : Int) > 16 then (some (([] : List (S30)), x3_1, 80)) else (if x2_1.length < 4398046511104 then (token_Signs.l0 kj23 a0 (x2_1 ++ [(⟨2, t109, x3_1⟩ : S30)]) (wrap64 (x3_1 + (wrap64 ((t109.size : Int) + 1))))) else (none)))) else (none)) else (none)) = some (r1, r2, r3) := by rw [if_pos rfl] at H; exact H
                              clear H
                              have H := H1
                              clear H1
                              obtain ⟨ji31, hji31⟩ : ∃ j_ : Int, (wrap64 (x3_1 + 1)) = j_ := ⟨_, rfl⟩
                              replace H : (if 0 ≤ (ji31) then (if (ji31) ≤ (a0.size : Int) then ((token_run.f kj23 (a0.extract ((ji31) : Int).toNat a0.size)).bind fun t109 => (if (t109.size : Int) > 16 then (some (([] : List (S30)), x3_1, 80)) else (if x2_1.length < 4398046511104 then (token_Signs.l0 kj23 a0 (x2_1 ++ [(⟨2, t109, x3_1⟩ : S30)]) (wrap64 (x3_1 + (wrap64 ((t109.size : Int) + 1))))) else (none)))) else (none)) else (none)) = some (r1, r2, r3) := by first | (rw [hji31] at H; exact H) | (simp only [hji31] at H ⊢; exact H)
                              (try rw [hji31] at c5b0)
                              (try rw [hji31] at c5b1)
                              (try rw [hji31] at c5)
                              (try rw [hji31] at c6b0)
                              (try rw [hji31] at c6b1)
                              (try rw [hji31] at c6)
                              have hji31w : (IntKind.i64.wrap (x3_1 + 1)) = ji31 := (i64_w _).trans hji31
                              by_cases c32 : 0 ≤ (ji31)
                              · rw [if_pos c32] at H
                                have c32b0 := eq_true c32
                                have c32b1 : decide (0 ≤ (ji31)) = true := decide_eq_true c32
                                clear c32
                                by_cases c33 : (ji31) ≤ (a0.size : Int)
                                · rw [if_pos c33] at H
                                  have c33b0 := eq_true c33
                                  have c33b1 : decide ((ji31) ≤ (a0.size : Int)) = true := decide_eq_true c33
                                  clear c33
                                  replace H := Option.bind_eq_some_iff.mp H
                                  obtain ⟨t109, A340, H⟩ := H
                                  replace H : (if (t109.size : Int) > 16 then (some (([] : List (S30)), x3_1, 80)) else (if x2_1.length < 4398046511104 then (token_Signs.l0 kj23 a0 (x2_1 ++ [(⟨2, t109, x3_1⟩ : S30)]) (wrap64 (x3_1 + (wrap64 ((t109.size : Int) + 1))))) else (none))) = some (r1, r2, r3) := H
                                  have A34 := Aside0.mk A340
                                  clear A340
                                  by_cases c35 : (t109.size : Int) > 16
                                  · rw [if_pos c35] at H
                                    have c35b0 : decide (16 < (t109.size : Int)) = true := decide_eq_true c35
                                    have c35b1 : decide (16 < t109.size) = true := decide_eq_true (by omega)
                                    clear c35
                                    simp only [Option.some.injEq, Prod.mk.injEq] at H
                                    obtain ⟨rfl, rfl, rfl⟩ := H
                                    go_wp2_with (first | (go_at_call 14; (with_reducible refine (token_run.calls kj23 (a0.extract ((ji31) : Int).toNat a0.size) t109 _ A34.out).mono ?_); rintro e w' ⟨rfl, ⟨nd, rfl⟩⟩; (try first | exact ⟨rfl, _, World.drewN_drewN _ _ _⟩ | exact ⟨rfl, _, Eq.trans (World.drewN_drewN _ _ _) (congrArg (World.drewN _) (Nat.add_assoc _ _ _))⟩); have hcz36_0 : wc.cell? ⟨gb102, 0, none⟩ = some (.int .i64 3) := (blk_cell BK102.out 0).trans (by first | rfl | (simp only [← hji26] <;> rfl) | (simp only [← hji31] <;> rfl)); have hcz36_1 : wc.cell? ⟨gb102, 1, none⟩ = some (.string (a0.extract (x3_1 : Int).toNat ((ji31) : Int).toNat)) := (blk_cell BK102.out 1).trans (by first | rfl | (simp only [← hji26] <;> rfl) | (simp only [← hji31] <;> rfl)); have hcz36_2 : wc.cell? ⟨gb102, 2, none⟩ = some (.int .i64 x3_1) := (blk_cell BK102.out 2).trans (by first | rfl | (simp only [← hji26] <;> rfl) | (simp only [← hji31] <;> rfl)); have hfz36_0 := blk_frozen BK102.out 0; have hfz36_1 := blk_frozen BK102.out 1; have hfz36_2 := blk_frozen BK102.out 2))
                                    repeat (go_quiet (first | (go_at_call 14; (with_reducible refine (token_run.calls kj23 (a0.extract ((ji31) : Int).toNat a0.size) t109 _ A34.out).mono ?_); rintro e w' ⟨rfl, ⟨nd, rfl⟩⟩; (try first | exact ⟨rfl, _, World.drewN_drewN _ _ _⟩ | exact ⟨rfl, _, Eq.trans (World.drewN_drewN _ _ _) (congrArg (World.drewN _) (Nat.add_assoc _ _ _))⟩); have hcz36_0 : wc.cell? ⟨gb102, 0, none⟩ = some (.int .i64 3) := (blk_cell BK102.out 0).trans (by first | rfl | (simp only [← hji26] <;> rfl) | (simp only [← hji31] <;> rfl)); have hcz36_1 : wc.cell? ⟨gb102, 1, none⟩ = some (.string (a0.extract (x3_1 : Int).toNat ((ji31) : Int).toNat)) := (blk_cell BK102.out 1).trans (by first | rfl | (simp only [← hji26] <;> rfl) | (simp only [← hji31] <;> rfl)); have hcz36_2 : wc.cell? ⟨gb102, 2, none⟩ = some (.int .i64 x3_1) := (blk_cell BK102.out 2).trans (by first | rfl | (simp only [← hji26] <;> rfl) | (simp only [← hji31] <;> rfl)); have hfz36_0 := blk_frozen BK102.out 0; have hfz36_1 := blk_frozen BK102.out 1; have hfz36_2 := blk_frozen BK102.out 2)); try go_wp2_with (first | (go_at_call 14; (with_reducible refine (token_run.calls kj23 (a0.extract ((ji31) : Int).toNat a0.size) t109 _ A34.out).mono ?_); rintro e w' ⟨rfl, ⟨nd, rfl⟩⟩; (try first | exact ⟨rfl, _, World.drewN_drewN _ _ _⟩ | exact ⟨rfl, _, Eq.trans (World.drewN_drewN _ _ _) (congrArg (World.drewN _) (Nat.add_assoc _ _ _))⟩); have hcz36_0 : wc.cell? ⟨gb102, 0, none⟩ = some (.int .i64 3) := (blk_cell BK102.out 0).trans (by first | rfl | (simp only [← hji26] <;> rfl) | (simp only [← hji31] <;> rfl)); have hcz36_1 : wc.cell? ⟨gb102, 1, none⟩ = some (.string (a0.extract (x3_1 : Int).toNat ((ji31) : Int).toNat)) := (blk_cell BK102.out 1).trans (by first | rfl | (simp only [← hji26] <;> rfl) | (simp only [← hji31] <;> rfl)); have hcz36_2 : wc.cell? ⟨gb102, 2, none⟩ = some (.int .i64 x3_1) := (blk_cell BK102.out 2).trans (by first | rfl | (simp only [← hji26] <;> rfl) | (simp only [← hji31] <;> rfl)); have hfz36_0 := blk_frozen BK102.out 0; have hfz36_1 := blk_frozen BK102.out 1; have hfz36_2 := blk_frozen BK102.out 2)))
                                    go_ret3
                                    exact ⟨_, by first | rfl | (simp [errW_none, errW_some] <;> rfl) | (simp only [← hji31]; first | rfl | (simp [errW_none, errW_some] <;> rfl)) | (simp [*, errW_none, errW_some] <;> rfl), by first | exact Kd.R_nil _ _ _ _ _ | exact Kd.N_nil _ _ _ _ _ | exact Kd.V_nil _ _ _ _ _ | exact Kd.Q_nil _ _ _ _ _ | exact Kd.S_nil _ _ _ _ _, by repeat (first | (with_reducible first | exact HB.out | apply below_alloc | apply pw_below_drewN | apply below_drew1 | refine below_set ?_ GE102.out) | exact HB.out)⟩
                                  · rw [if_neg c35] at H
                                    have c35b0 : decide (16 < (t109.size : Int)) = false := decide_eq_false c35
                                    have c35b1 : decide (16 < t109.size) = false := decide_eq_false (by omega)
                                    clear c35
                                    by_cases c37 : x2_1.length < 4398046511104
                                    · rw [if_pos c37] at H
                                      have LMc37 := Aside0.mk c37
                                      clear c37
                                      obtain ⟨y110, hy110⟩ : ∃ y_ : List (S30), y_ = (x2_1 ++ [(⟨2, t109, x3_1⟩ : S30)]) := ⟨_, rfl⟩
                                      replace H : (token_Signs.l0 kj23 a0 y110 (wrap64 (x3_1 + (wrap64 ((t109.size : Int) + 1))))) = some (r1, r2, r3) := by first | (rw [hy110]; with_reducible exact H) | (have H2_ := (Option.bind_some _ _).symm.trans H; rw [hy110]; with_reducible exact H2_) | (have H2_ := (Option.bind_some _ _).symm.trans H; with_reducible exact H2_) | with_reducible exact H | (rw [hy110]; exact H) | exact H
                                      have Ny110 := Aside0.mk hy110
                                      clear hy110
                                      have H' := Aside0.mk H
                                      clear H
                                      go_wp2_with (first | (go_at_call 14; (with_reducible refine (token_run.calls kj23 (a0.extract ((ji31) : Int).toNat a0.size) t109 _ A34.out).mono ?_); rintro e w' ⟨rfl, ⟨nd, rfl⟩⟩; (try first | exact ⟨rfl, _, World.drewN_drewN _ _ _⟩ | exact ⟨rfl, _, Eq.trans (World.drewN_drewN _ _ _) (congrArg (World.drewN _) (Nat.add_assoc _ _ _))⟩); have hcz38_0 : wc.cell? ⟨gb102, 0, none⟩ = some (.int .i64 3) := (blk_cell BK102.out 0).trans (by first | rfl | (simp only [← hji26] <;> rfl) | (simp only [← hji31] <;> rfl)); have hcz38_1 : wc.cell? ⟨gb102, 1, none⟩ = some (.string (a0.extract (x3_1 : Int).toNat ((ji31) : Int).toNat)) := (blk_cell BK102.out 1).trans (by first | rfl | (simp only [← hji26] <;> rfl) | (simp only [← hji31] <;> rfl)); have hcz38_2 : wc.cell? ⟨gb102, 2, none⟩ = some (.int .i64 x3_1) := (blk_cell BK102.out 2).trans (by first | rfl | (simp only [← hji26] <;> rfl) | (simp only [← hji31] <;> rfl)); have hfz38_0 := blk_frozen BK102.out 0; have hfz38_1 := blk_frozen BK102.out 1; have hfz38_2 := blk_frozen BK102.out 2) | ((with_reducible refine gate_builtin (b := .append) (xs := #[.tmp 88, .tmp 90]) rfl ?_); at_builtin; refine Kd.R_append k30 (w0 := w) w.heap.size rfl (.tmp 88) (.tmp 90) 22 30 (.agg #[(.int .i64 0), (.string ⟨#[]⟩), (.int .i64 0)]) 32 rfl Try.underlying22 info30 rfl (by decide) (by omega) u2 x2_1 (⟨2, t109, x3_1⟩ : S30) [.int .i64 2, .string t109, .int .i64 x3_1] (fun k_ => k_ ≠ gb102) (fun _ => False) rfl (by first | (go_simp; done) | (go_simp; rfl)) ?aP (fun _ hk => hk.elim) ?aF ?aO ?aB ?aS ?aL ?_; (case aP => exact k30_mkM _ _ _ (⟨2, t109, x3_1⟩ : S30)); (case aB => exact (by repeat (first | (with_reducible first | exact HB.out | apply below_alloc | apply pw_below_drewN | apply below_drew1 | refine below_set ?_ GE102.out) | exact HB.out))); (case aF => exact (fun k_ hk => Kd.freshB (g := gb102) (o := .cells #[.int .i64 2, .string t109, .int .i64 x3_1] 30 (0, 0)) (by (with_reducible repeat (first | refine blk_drewN ?_ _ | refine blk_drew ?_ | refine blk_alloc ?_ _)); refine blk_put (cs := #[.int .i64 2, .string (a0.extract (x3_1 : Int).toNat ((ji31) : Int).toNat), .int .i64 x3_1]) ?_ 1 _ rfl; (with_reducible repeat (first | refine blk_drewN ?_ _ | refine blk_drew ?_ | refine blk_alloc ?_ _)); refine blk_put (cs := #[.int .i64 3, .string (a0.extract (x3_1 : Int).toNat ((ji31) : Int).toNat), .int .i64 x3_1]) ?_ 0 _ rfl; (with_reducible repeat (first | refine blk_drewN ?_ _ | refine blk_drew ?_ | refine blk_alloc ?_ _)); (first | exact BK102.out | (simp only [← hji26]; exact BK102.out) | (simp only [← hji31]; exact BK102.out))) k_ hk)); (case aO => exact (by (with_reducible repeat (first | apply Kd.R_alloc | apply Kd.R_drewN | apply Kd.R_drew)); exact Kd.R_mono (Kd.R_far (p := ⟨gb102, 1, none⟩) (Kd.R_far (p := ⟨gb102, 0, none⟩) (Kd.R_mono HO_2.out (fun k_ hk => (⟨hk, hk⟩ : _ ∧ k_ ≠ gb102))) (fun _ hk => hk.2) (.int .i64 2)) (fun _ hk => hk.2) (.string t109)) (fun _ hk => hk.1))); (case aS => exact (below_size (by repeat (first | (with_reducible first | exact HB.out | apply below_alloc | apply pw_below_drewN | apply below_drew1 | refine below_set ?_ GE102.out) | exact HB.out)))); (case aL => have := LMc37.out; omega); intro v111 w39 ho hb hg hat; rw [← Ny110.out] at ho; have n0_ := Aside0.mk (blk_grown (g := gb102) (o := .cells #[.int .i64 2, .string t109, .int .i64 x3_1] 30 (0, 0)) (by (with_reducible repeat (first | refine blk_drewN ?_ _ | refine blk_drew ?_ | refine blk_alloc ?_ _)); refine blk_put (cs := #[.int .i64 2, .string (a0.extract (x3_1 : Int).toNat ((ji31) : Int).toNat), .int .i64 x3_1]) ?_ 1 _ rfl; (with_reducible repeat (first | refine blk_drewN ?_ _ | refine blk_drew ?_ | refine blk_alloc ?_ _)); refine blk_put (cs := #[.int .i64 3, .string (a0.extract (x3_1 : Int).toNat ((ji31) : Int).toNat), .int .i64 x3_1]) ?_ 0 _ rfl; (with_reducible repeat (first | refine blk_drewN ?_ _ | refine blk_drew ?_ | refine blk_alloc ?_ _)); (first | exact BK102.out | (simp only [← hji26]; exact BK102.out) | (simp only [← hji31]; exact BK102.out))) hg (Kd.R_away HO_2.out (fun _ hk => hk))); have n1_ := Aside0.mk (hb); have n2_ := Aside0.mk (ho); clear BK102; clear HB; clear HO_2; have BK102 := n0_; have HB := n1_; have HO112 := n2_; clear n0_ n1_ n2_; clear ho hb hg hat))
                                      repeat (go_quiet (first | (go_at_call 14; (with_reducible refine (token_run.calls kj23 (a0.extract ((ji31) : Int).toNat a0.size) t109 _ A34.out).mono ?_); rintro e w' ⟨rfl, ⟨nd, rfl⟩⟩; (try first | exact ⟨rfl, _, World.drewN_drewN _ _ _⟩ | exact ⟨rfl, _, Eq.trans (World.drewN_drewN _ _ _) (congrArg (World.drewN _) (Nat.add_assoc _ _ _))⟩); have hcz38_0 : wc.cell? ⟨gb102, 0, none⟩ = some (.int .i64 3) := (blk_cell BK102.out 0).trans (by first | rfl | (simp only [← hji26] <;> rfl) | (simp only [← hji31] <;> rfl)); have hcz38_1 : wc.cell? ⟨gb102, 1, none⟩ = some (.string (a0.extract (x3_1 : Int).toNat ((ji31) : Int).toNat)) := (blk_cell BK102.out 1).trans (by first | rfl | (simp only [← hji26] <;> rfl) | (simp only [← hji31] <;> rfl)); have hcz38_2 : wc.cell? ⟨gb102, 2, none⟩ = some (.int .i64 x3_1) := (blk_cell BK102.out 2).trans (by first | rfl | (simp only [← hji26] <;> rfl) | (simp only [← hji31] <;> rfl)); have hfz38_0 := blk_frozen BK102.out 0; have hfz38_1 := blk_frozen BK102.out 1; have hfz38_2 := blk_frozen BK102.out 2) | ((with_reducible refine gate_builtin (b := .append) (xs := #[.tmp 88, .tmp 90]) rfl ?_); at_builtin; refine Kd.R_append k30 (w0 := w) w.heap.size rfl (.tmp 88) (.tmp 90) 22 30 (.agg #[(.int .i64 0), (.string ⟨#[]⟩), (.int .i64 0)]) 32 rfl Try.underlying22 info30 rfl (by decide) (by omega) u2 x2_1 (⟨2, t109, x3_1⟩ : S30) [.int .i64 2, .string t109, .int .i64 x3_1] (fun k_ => k_ ≠ gb102) (fun _ => False) rfl (by first | (go_simp; done) | (go_simp; rfl)) ?aP (fun _ hk => hk.elim) ?aF ?aO ?aB ?aS ?aL ?_; (case aP => exact k30_mkM _ _ _ (⟨2, t109, x3_1⟩ : S30)); (case aB => exact (by repeat (first | (with_reducible first | exact HB.out | apply below_alloc | apply pw_below_drewN | apply below_drew1 | refine below_set ?_ GE102.out) | exact HB.out))); (case aF => exact (fun k_ hk => Kd.freshB (g := gb102) (o := .cells #[.int .i64 2, .string t109, .int .i64 x3_1] 30 (0, 0)) (by (with_reducible repeat (first | refine blk_drewN ?_ _ | refine blk_drew ?_ | refine blk_alloc ?_ _)); refine blk_put (cs := #[.int .i64 2, .string (a0.extract (x3_1 : Int).toNat ((ji31) : Int).toNat), .int .i64 x3_1]) ?_ 1 _ rfl; (with_reducible repeat (first | refine blk_drewN ?_ _ | refine blk_drew ?_ | refine blk_alloc ?_ _)); refine blk_put (cs := #[.int .i64 3, .string (a0.extract (x3_1 : Int).toNat ((ji31) : Int).toNat), .int .i64 x3_1]) ?_ 0 _ rfl; (with_reducible repeat (first | refine blk_drewN ?_ _ | refine blk_drew ?_ | refine blk_alloc ?_ _)); (first | exact BK102.out | (simp only [← hji26]; exact BK102.out) | (simp only [← hji31]; exact BK102.out))) k_ hk)); (case aO => exact (by (with_reducible repeat (first | apply Kd.R_alloc | apply Kd.R_drewN | apply Kd.R_drew)); exact Kd.R_mono (Kd.R_far (p := ⟨gb102, 1, none⟩) (Kd.R_far (p := ⟨gb102, 0, none⟩) (Kd.R_mono HO_2.out (fun k_ hk => (⟨hk, hk⟩ : _ ∧ k_ ≠ gb102))) (fun _ hk => hk.2) (.int .i64 2)) (fun _ hk => hk.2) (.string t109)) (fun _ hk => hk.1))); (case aS => exact (below_size (by repeat (first | (with_reducible first | exact HB.out | apply below_alloc | apply pw_below_drewN | apply below_drew1 | refine below_set ?_ GE102.out) | exact HB.out)))); (case aL => have := LMc37.out; omega); intro v111 w39 ho hb hg hat; rw [← Ny110.out] at ho; have n0_ := Aside0.mk (blk_grown (g := gb102) (o := .cells #[.int .i64 2, .string t109, .int .i64 x3_1] 30 (0, 0)) (by (with_reducible repeat (first | refine blk_drewN ?_ _ | refine blk_drew ?_ | refine blk_alloc ?_ _)); refine blk_put (cs := #[.int .i64 2, .string (a0.extract (x3_1 : Int).toNat ((ji31) : Int).toNat), .int .i64 x3_1]) ?_ 1 _ rfl; (with_reducible repeat (first | refine blk_drewN ?_ _ | refine blk_drew ?_ | refine blk_alloc ?_ _)); refine blk_put (cs := #[.int .i64 3, .string (a0.extract (x3_1 : Int).toNat ((ji31) : Int).toNat), .int .i64 x3_1]) ?_ 0 _ rfl; (with_reducible repeat (first | refine blk_drewN ?_ _ | refine blk_drew ?_ | refine blk_alloc ?_ _)); (first | exact BK102.out | (simp only [← hji26]; exact BK102.out) | (simp only [← hji31]; exact BK102.out))) hg (Kd.R_away HO_2.out (fun _ hk => hk))); have n1_ := Aside0.mk (hb); have n2_ := Aside0.mk (ho); clear BK102; clear HB; clear HO_2; have BK102 := n0_; have HB := n1_; have HO112 := n2_; clear n0_ n1_ n2_; clear ho hb hg hat)); try go_wp2_with (first | (go_at_call 14; (with_reducible refine (token_run.calls kj23 (a0.extract ((ji31) : Int).toNat a0.size) t109 _ A34.out).mono ?_); rintro e w' ⟨rfl, ⟨nd, rfl⟩⟩; (try first | exact ⟨rfl, _, World.drewN_drewN _ _ _⟩ | exact ⟨rfl, _, Eq.trans (World.drewN_drewN _ _ _) (congrArg (World.drewN _) (Nat.add_assoc _ _ _))⟩); have hcz38_0 : wc.cell? ⟨gb102, 0, none⟩ = some (.int .i64 3) := (blk_cell BK102.out 0).trans (by first | rfl | (simp only [← hji26] <;> rfl) | (simp only [← hji31] <;> rfl)); have hcz38_1 : wc.cell? ⟨gb102, 1, none⟩ = some (.string (a0.extract (x3_1 : Int).toNat ((ji31) : Int).toNat)) := (blk_cell BK102.out 1).trans (by first | rfl | (simp only [← hji26] <;> rfl) | (simp only [← hji31] <;> rfl)); have hcz38_2 : wc.cell? ⟨gb102, 2, none⟩ = some (.int .i64 x3_1) := (blk_cell BK102.out 2).trans (by first | rfl | (simp only [← hji26] <;> rfl) | (simp only [← hji31] <;> rfl)); have hfz38_0 := blk_frozen BK102.out 0; have hfz38_1 := blk_frozen BK102.out 1; have hfz38_2 := blk_frozen BK102.out 2) | ((with_reducible refine gate_builtin (b := .append) (xs := #[.tmp 88, .tmp 90]) rfl ?_); at_builtin; refine Kd.R_append k30 (w0 := w) w.heap.size rfl (.tmp 88) (.tmp 90) 22 30 (.agg #[(.int .i64 0), (.string ⟨#[]⟩), (.int .i64 0)]) 32 rfl Try.underlying22 info30 rfl (by decide) (by omega) u2 x2_1 (⟨2, t109, x3_1⟩ : S30) [.int .i64 2, .string t109, .int .i64 x3_1] (fun k_ => k_ ≠ gb102) (fun _ => False) rfl (by first | (go_simp; done) | (go_simp; rfl)) ?aP (fun _ hk => hk.elim) ?aF ?aO ?aB ?aS ?aL ?_; (case aP => exact k30_mkM _ _ _ (⟨2, t109, x3_1⟩ : S30)); (case aB => exact (by repeat (first | (with_reducible first | exact HB.out | apply below_alloc | apply pw_below_drewN | apply below_drew1 | refine below_set ?_ GE102.out) | exact HB.out))); (case aF => exact (fun k_ hk => Kd.freshB (g := gb102) (o := .cells #[.int .i64 2, .string t109, .int .i64 x3_1] 30 (0, 0)) (by (with_reducible repeat (first | refine blk_drewN ?_ _ | refine blk_drew ?_ | refine blk_alloc ?_ _)); refine blk_put (cs := #[.int .i64 2, .string (a0.extract (x3_1 : Int).toNat ((ji31) : Int).toNat), .int .i64 x3_1]) ?_ 1 _ rfl; (with_reducible repeat (first | refine blk_drewN ?_ _ | refine blk_drew ?_ | refine blk_alloc ?_ _)); refine blk_put (cs := #[.int .i64 3, .string (a0.extract (x3_1 : Int).toNat ((ji31) : Int).toNat), .int .i64 x3_1]) ?_ 0 _ rfl; (with_reducible repeat (first | refine blk_drewN ?_ _ | refine blk_drew ?_ | refine blk_alloc ?_ _)); (first | exact BK102.out | (simp only [← hji26]; exact BK102.out) | (simp only [← hji31]; exact BK102.out))) k_ hk)); (case aO => exact (by (with_reducible repeat (first | apply Kd.R_alloc | apply Kd.R_drewN | apply Kd.R_drew)); exact Kd.R_mono (Kd.R_far (p := ⟨gb102, 1, none⟩) (Kd.R_far (p := ⟨gb102, 0, none⟩) (Kd.R_mono HO_2.out (fun k_ hk => (⟨hk, hk⟩ : _ ∧ k_ ≠ gb102))) (fun _ hk => hk.2) (.int .i64 2)) (fun _ hk => hk.2) (.string t109)) (fun _ hk => hk.1))); (case aS => exact (below_size (by repeat (first | (with_reducible first | exact HB.out | apply below_alloc | apply pw_below_drewN | apply below_drew1 | refine below_set ?_ GE102.out) | exact HB.out)))); (case aL => have := LMc37.out; omega); intro v111 w39 ho hb hg hat; rw [← Ny110.out] at ho; have n0_ := Aside0.mk (blk_grown (g := gb102) (o := .cells #[.int .i64 2, .string t109, .int .i64 x3_1] 30 (0, 0)) (by (with_reducible repeat (first | refine blk_drewN ?_ _ | refine blk_drew ?_ | refine blk_alloc ?_ _)); refine blk_put (cs := #[.int .i64 2, .string (a0.extract (x3_1 : Int).toNat ((ji31) : Int).toNat), .int .i64 x3_1]) ?_ 1 _ rfl; (with_reducible repeat (first | refine blk_drewN ?_ _ | refine blk_drew ?_ | refine blk_alloc ?_ _)); refine blk_put (cs := #[.int .i64 3, .string (a0.extract (x3_1 : Int).toNat ((ji31) : Int).toNat), .int .i64 x3_1]) ?_ 0 _ rfl; (with_reducible repeat (first | refine blk_drewN ?_ _ | refine blk_drew ?_ | refine blk_alloc ?_ _)); (first | exact BK102.out | (simp only [← hji26]; exact BK102.out) | (simp only [← hji31]; exact BK102.out))) hg (Kd.R_away HO_2.out (fun _ hk => hk))); have n1_ := Aside0.mk (hb); have n2_ := Aside0.mk (ho); clear BK102; clear HB; clear HO_2; have BK102 := n0_; have HB := n1_; have HO112 := n2_; clear n0_ n1_ n2_; clear ho hb hg hat)))
                                      go_roundg kj23
                                      case measure => have := HK1.out; have := HJ7.out; have := HJ23.out; omega
                                      case rel => exact ⟨(y110), (wrap64 (x3_1 + (wrap64 ((t109.size : Int) + 1)))), (by first | rfl | (simp; done) | (simp [*]; done) | (simp only [List.beq_nil_eq, bne]; done) | (congr 1; simp only [bne]; done) | (simp [bne]; done) | (congr 1; simp only [bne_iff_ne]; done)), (by first | exact H' | (simp only [← hji26] at H'; exact H') | (simp only [← hji31] at H'; exact H')), ⟨by have := HK1.out; have := HJ7.out; have := HJ23.out; omega⟩, ⟨by (with_reducible repeat (first | apply Kd.R_alloc | apply Kd.R_drewN | apply Kd.R_drew)); exact Kd.R_mono HO112.out (fun _ hk => trivial)⟩, ⟨by repeat (first | (with_reducible first | exact HB.out | apply below_alloc | apply pw_below_drewN | apply below_drew1 | refine below_set ?_ GE102.out) | exact HB.out)⟩⟩
                                    · rw [if_neg c37] at H
                                      exact absurd H (by simp)
                                · rw [if_neg c33] at H
                                  exact absurd H (by simp)
                              · rw [if_neg c32] at H
                                exact absurd H (by simp)
                            · replace c30 := Bool.eq_false_iff.mpr c30
                              subst c30
                              have H1 : ((strings_IndexByte.f (⟨#[123, 125, 40, 41, 46, 47, 124, 42, 43, 63]⟩ : ByteArray) (bt a0 x3_1)).bind fun t113 => (if t113 < 0 then (some (([] : List (S30)), x3_1, 80)) else (if ((a0.extract (x3_1 : Int).toNat ((wrap64 (x3_1 + 1)) : Int).toNat).size : Int) > 16 then (some (([] : List (S30)), x3_1, 80)) else (if x2_1.length < 4398046511104 then (token_Signs.l0 kj23 a0 (x2_1 ++ [(⟨3, (a0.extract (x3_1 : Int).toNat ((wrap64 (x3_1 + 1)) : Int).toNat), x3_1⟩ : S30)]) (wrap64 (x3_1 + 1))) else (none))))) = some (r1, r2, r3) := by rw [if_neg (show ¬ (false = true) by decide)] at H; exact H
                              clear H
                              have H := H1
                              clear H1
                              replace H := Option.bind_eq_some_iff.mp H
                              obtain ⟨t113, A400, H⟩ := H
                              replace H : (if t113 < 0 then (some (([] : List (S30)), x3_1, 80)) else (if ((a0.extract (x3_1 : Int).toNat ((wrap64 (x3_1 + 1)) : Int).toNat).size : Int) > 16 then (some (([] : List (S30)), x3_1, 80)) else (if x2_1.length < 4398046511104 then (token_Signs.l0 kj23 a0 (x2_1 ++ [(⟨3, (a0.extract (x3_1 : Int).toNat ((wrap64 (x3_1 + 1)) : Int).toNat), x3_1⟩ : S30)]) (wrap64 (x3_1 + 1))) else (none)))) = some (r1, r2, r3) := H
                              have A40 := Aside0.mk A400
                              clear A400
                              by_cases c41 : t113 < 0
                              · rw [if_pos c41] at H
                                have c41b0 : decide (t113 < 0) = true := decide_eq_true c41
                                clear c41
                                simp only [Option.some.injEq, Prod.mk.injEq] at H
                                obtain ⟨rfl, rfl, rfl⟩ := H
                                go_wp2_with (first | (go_at_call 15; (with_reducible refine (strings_IndexByte.calls (⟨#[123, 125, 40, 41, 46, 47, 124, 42, 43, 63]⟩ : ByteArray) (bt a0 x3_1) t113 _ A40.out).mono ?_); rintro e w' ⟨rfl, ⟨nd, rfl⟩⟩; (try first | exact ⟨rfl, _, World.drewN_drewN _ _ _⟩ | exact ⟨rfl, _, Eq.trans (World.drewN_drewN _ _ _) (congrArg (World.drewN _) (Nat.add_assoc _ _ _))⟩)))
                                repeat (go_quiet (first | (go_at_call 15; (with_reducible refine (strings_IndexByte.calls (⟨#[123, 125, 40, 41, 46, 47, 124, 42, 43, 63]⟩ : ByteArray) (bt a0 x3_1) t113 _ A40.out).mono ?_); rintro e w' ⟨rfl, ⟨nd, rfl⟩⟩; (try first | exact ⟨rfl, _, World.drewN_drewN _ _ _⟩ | exact ⟨rfl, _, Eq.trans (World.drewN_drewN _ _ _) (congrArg (World.drewN _) (Nat.add_assoc _ _ _))⟩))); try go_wp2_with (first | (go_at_call 15; (with_reducible refine (strings_IndexByte.calls (⟨#[123, 125, 40, 41, 46, 47, 124, 42, 43, 63]⟩ : ByteArray) (bt a0 x3_1) t113 _ A40.out).mono ?_); rintro e w' ⟨rfl, ⟨nd, rfl⟩⟩; (try first | exact ⟨rfl, _, World.drewN_drewN _ _ _⟩ | exact ⟨rfl, _, Eq.trans (World.drewN_drewN _ _ _) (congrArg (World.drewN _) (Nat.add_assoc _ _ _))⟩))))
                                go_ret3
                                exact ⟨_, by first | rfl | (simp [errW_none, errW_some] <;> rfl) | (simp [*, errW_none, errW_some] <;> rfl), by first | exact Kd.R_nil _ _ _ _ _ | exact Kd.N_nil _ _ _ _ _ | exact Kd.V_nil _ _ _ _ _ | exact Kd.Q_nil _ _ _ _ _ | exact Kd.S_nil _ _ _ _ _, by repeat (first | (with_reducible first | exact HB.out | apply below_alloc | apply pw_below_drewN | apply below_drew1 | refine below_set ?_ GE102.out) | exact HB.out)⟩
                              · rw [if_neg c41] at H
                                have c41b0 : decide (t113 < 0) = false := decide_eq_false c41
                                clear c41
                                by_cases c42 : ((a0.extract (x3_1 : Int).toNat ((wrap64 (x3_1 + 1)) : Int).toNat).size : Int) > 16
                                · rw [if_pos c42] at H
                                  have c42b0 : decide (16 < ((a0.extract (x3_1 : Int).toNat ((wrap64 (x3_1 + 1)) : Int).toNat).size : Int)) = true := decide_eq_true c42
                                  try (have c42b5 := c42b0; simp only [ByteArray.size_extract] at c42b5)
                                  have c42b1 : decide (16 < (a0.extract (x3_1 : Int).toNat ((wrap64 (x3_1 + 1)) : Int).toNat).size) = true := decide_eq_true (by omega)
                                  try (have c42b6 := c42b1; simp only [ByteArray.size_extract] at c42b6)
                                  clear c42
                                  simp only [Option.some.injEq, Prod.mk.injEq] at H
                                  obtain ⟨rfl, rfl, rfl⟩ := H
                                  go_wp2_with (first | (go_at_call 15; (with_reducible refine (strings_IndexByte.calls (⟨#[123, 125, 40, 41, 46, 47, 124, 42, 43, 63]⟩ : ByteArray) (bt a0 x3_1) t113 _ A40.out).mono ?_); rintro e w' ⟨rfl, ⟨nd, rfl⟩⟩; (try first | exact ⟨rfl, _, World.drewN_drewN _ _ _⟩ | exact ⟨rfl, _, Eq.trans (World.drewN_drewN _ _ _) (congrArg (World.drewN _) (Nat.add_assoc _ _ _))⟩); have hcz43_0 : wc.cell? ⟨gb102, 0, none⟩ = some (.int .i64 3) := (blk_cell BK102.out 0).trans (by first | rfl | (simp only [← hji26] <;> rfl) | (simp only [← hji31] <;> rfl)); have hcz43_1 : wc.cell? ⟨gb102, 1, none⟩ = some (.string (a0.extract (x3_1 : Int).toNat ((wrap64 (x3_1 + 1)) : Int).toNat)) := (blk_cell BK102.out 1).trans (by first | rfl | (simp only [← hji26] <;> rfl) | (simp only [← hji31] <;> rfl)); have hcz43_2 : wc.cell? ⟨gb102, 2, none⟩ = some (.int .i64 x3_1) := (blk_cell BK102.out 2).trans (by first | rfl | (simp only [← hji26] <;> rfl) | (simp only [← hji31] <;> rfl)); have hfz43_0 := blk_frozen BK102.out 0; have hfz43_1 := blk_frozen BK102.out 1; have hfz43_2 := blk_frozen BK102.out 2))
                                  repeat (go_quiet (first | (go_at_call 15; (with_reducible refine (strings_IndexByte.calls (⟨#[123, 125, 40, 41, 46, 47, 124, 42, 43, 63]⟩ : ByteArray) (bt a0 x3_1) t113 _ A40.out).mono ?_); rintro e w' ⟨rfl, ⟨nd, rfl⟩⟩; (try first | exact ⟨rfl, _, World.drewN_drewN _ _ _⟩ | exact ⟨rfl, _, Eq.trans (World.drewN_drewN _ _ _) (congrArg (World.drewN _) (Nat.add_assoc _ _ _))⟩); have hcz43_0 : wc.cell? ⟨gb102, 0, none⟩ = some (.int .i64 3) := (blk_cell BK102.out 0).trans (by first | rfl | (simp only [← hji26] <;> rfl) | (simp only [← hji31] <;> rfl)); have hcz43_1 : wc.cell? ⟨gb102, 1, none⟩ = some (.string (a0.extract (x3_1 : Int).toNat ((wrap64 (x3_1 + 1)) : Int).toNat)) := (blk_cell BK102.out 1).trans (by first | rfl | (simp only [← hji26] <;> rfl) | (simp only [← hji31] <;> rfl)); have hcz43_2 : wc.cell? ⟨gb102, 2, none⟩ = some (.int .i64 x3_1) := (blk_cell BK102.out 2).trans (by first | rfl | (simp only [← hji26] <;> rfl) | (simp only [← hji31] <;> rfl)); have hfz43_0 := blk_frozen BK102.out 0; have hfz43_1 := blk_frozen BK102.out 1; have hfz43_2 := blk_frozen BK102.out 2)); try go_wp2_with (first | (go_at_call 15; (with_reducible refine (strings_IndexByte.calls (⟨#[123, 125, 40, 41, 46, 47, 124, 42, 43, 63]⟩ : ByteArray) (bt a0 x3_1) t113 _ A40.out).mono ?_); rintro e w' ⟨rfl, ⟨nd, rfl⟩⟩; (try first | exact ⟨rfl, _, World.drewN_drewN _ _ _⟩ | exact ⟨rfl, _, Eq.trans (World.drewN_drewN _ _ _) (congrArg (World.drewN _) (Nat.add_assoc _ _ _))⟩); have hcz43_0 : wc.cell? ⟨gb102, 0, none⟩ = some (.int .i64 3) := (blk_cell BK102.out 0).trans (by first | rfl | (simp only [← hji26] <;> rfl) | (simp only [← hji31] <;> rfl)); have hcz43_1 : wc.cell? ⟨gb102, 1, none⟩ = some (.string (a0.extract (x3_1 : Int).toNat ((wrap64 (x3_1 + 1)) : Int).toNat)) := (blk_cell BK102.out 1).trans (by first | rfl | (simp only [← hji26] <;> rfl) | (simp only [← hji31] <;> rfl)); have hcz43_2 : wc.cell? ⟨gb102, 2, none⟩ = some (.int .i64 x3_1) := (blk_cell BK102.out 2).trans (by first | rfl | (simp only [← hji26] <;> rfl) | (simp only [← hji31] <;> rfl)); have hfz43_0 := blk_frozen BK102.out 0; have hfz43_1 := blk_frozen BK102.out 1; have hfz43_2 := blk_frozen BK102.out 2)))
                                  go_ret3
                                  exact ⟨_, by first | rfl | (simp [errW_none, errW_some] <;> rfl) | (simp [*, errW_none, errW_some] <;> rfl), by first | exact Kd.R_nil _ _ _ _ _ | exact Kd.N_nil _ _ _ _ _ | exact Kd.V_nil _ _ _ _ _ | exact Kd.Q_nil _ _ _ _ _ | exact Kd.S_nil _ _ _ _ _, by repeat (first | (with_reducible first | exact HB.out | apply below_alloc | apply pw_below_drewN | apply below_drew1 | refine below_set ?_ GE102.out) | exact HB.out)⟩
                                · rw [if_neg c42] at H
                                  have c42b0 : decide (16 < ((a0.extract (x3_1 : Int).toNat ((wrap64 (x3_1 + 1)) : Int).toNat).size : Int)) = false := decide_eq_false c42
                                  try (have c42b5 := c42b0; simp only [ByteArray.size_extract] at c42b5)
                                  have c42b1 : decide (16 < (a0.extract (x3_1 : Int).toNat ((wrap64 (x3_1 + 1)) : Int).toNat).size) = false := decide_eq_false (by omega)
                                  try (have c42b6 := c42b1; simp only [ByteArray.size_extract] at c42b6)
                                  clear c42
                                  by_cases c44 : x2_1.length < 4398046511104
                                  · rw [if_pos c44] at H
                                    have LMc44 := Aside0.mk c44
                                    clear c44
                                    obtain ⟨y114, hy114⟩ : ∃ y_ : List (S30), y_ = (x2_1 ++ [(⟨3, (a0.extract (x3_1 : Int).toNat ((wrap64 (x3_1 + 1)) : Int).toNat), x3_1⟩ : S30)]) := ⟨_, rfl⟩
                                    replace H : (token_Signs.l0 kj23 a0 y114 (wrap64 (x3_1 + 1))) = some (r1, r2, r3) := by first | (rw [hy114]; with_reducible exact H) | (have H2_ := (Option.bind_some _ _).symm.trans H; rw [hy114]; with_reducible exact H2_) | (have H2_ := (Option.bind_some _ _).symm.trans H; with_reducible exact H2_) | with_reducible exact H | (rw [hy114]; exact H) | exact H
                                    have Ny114 := Aside0.mk hy114
                                    clear hy114
                                    have H' := Aside0.mk H
                                    clear H
                                    go_wp2_with (first | (go_at_call 15; (with_reducible refine (strings_IndexByte.calls (⟨#[123, 125, 40, 41, 46, 47, 124, 42, 43, 63]⟩ : ByteArray) (bt a0 x3_1) t113 _ A40.out).mono ?_); rintro e w' ⟨rfl, ⟨nd, rfl⟩⟩; (try first | exact ⟨rfl, _, World.drewN_drewN _ _ _⟩ | exact ⟨rfl, _, Eq.trans (World.drewN_drewN _ _ _) (congrArg (World.drewN _) (Nat.add_assoc _ _ _))⟩); have hcz45_0 : wc.cell? ⟨gb102, 0, none⟩ = some (.int .i64 3) := (blk_cell BK102.out 0).trans (by first | rfl | (simp only [← hji26] <;> rfl) | (simp only [← hji31] <;> rfl)); have hcz45_1 : wc.cell? ⟨gb102, 1, none⟩ = some (.string (a0.extract (x3_1 : Int).toNat ((wrap64 (x3_1 + 1)) : Int).toNat)) := (blk_cell BK102.out 1).trans (by first | rfl | (simp only [← hji26] <;> rfl) | (simp only [← hji31] <;> rfl)); have hcz45_2 : wc.cell? ⟨gb102, 2, none⟩ = some (.int .i64 x3_1) := (blk_cell BK102.out 2).trans (by first | rfl | (simp only [← hji26] <;> rfl) | (simp only [← hji31] <;> rfl)); have hfz45_0 := blk_frozen BK102.out 0; have hfz45_1 := blk_frozen BK102.out 1; have hfz45_2 := blk_frozen BK102.out 2) | ((with_reducible refine gate_builtin (b := .append) (xs := #[.tmp 88, .tmp 90]) rfl ?_); at_builtin; refine Kd.R_append k30 (w0 := w) w.heap.size rfl (.tmp 88) (.tmp 90) 22 30 (.agg #[(.int .i64 0), (.string ⟨#[]⟩), (.int .i64 0)]) 32 rfl Try.underlying22 info30 rfl (by decide) (by omega) u2 x2_1 (⟨3, (a0.extract (x3_1 : Int).toNat ((wrap64 (x3_1 + 1)) : Int).toNat), x3_1⟩ : S30) [.int .i64 3, .string (a0.extract (x3_1 : Int).toNat ((wrap64 (x3_1 + 1)) : Int).toNat), .int .i64 x3_1] (fun k_ => k_ ≠ gb102) (fun _ => False) rfl rfl ?aP (fun _ hk => hk.elim) ?aF ?aO ?aB ?aS ?aL ?_; (case aP => exact k30_mkM _ _ _ (⟨3, (a0.extract (x3_1 : Int).toNat ((wrap64 (x3_1 + 1)) : Int).toNat), x3_1⟩ : S30)); (case aB => exact (by repeat (first | (with_reducible first | exact HB.out | apply below_alloc | apply pw_below_drewN | apply below_drew1 | refine below_set ?_ GE102.out) | exact HB.out))); (case aF => exact (fun k_ hk => Kd.freshB (g := gb102) (o := .cells #[.int .i64 3, .string (a0.extract (x3_1 : Int).toNat ((wrap64 (x3_1 + 1)) : Int).toNat), .int .i64 x3_1] 30 (0, 0)) (by (with_reducible repeat (first | refine blk_drewN ?_ _ | refine blk_drew ?_ | refine blk_alloc ?_ _)); (first | exact BK102.out | (simp only [← hji26]; exact BK102.out) | (simp only [← hji31]; exact BK102.out))) k_ hk)); (case aO => exact (by (with_reducible repeat (first | apply Kd.R_alloc | apply Kd.R_drewN | apply Kd.R_drew)); exact HO_2.out)); (case aS => exact (below_size (by repeat (first | (with_reducible first | exact HB.out | apply below_alloc | apply pw_below_drewN | apply below_drew1 | refine below_set ?_ GE102.out) | exact HB.out)))); (case aL => have := LMc44.out; omega); intro v115 w46 ho hb hg hat; rw [← Ny114.out] at ho; have n0_ := Aside0.mk (blk_grown (g := gb102) (o := .cells #[.int .i64 3, .string (a0.extract (x3_1 : Int).toNat ((wrap64 (x3_1 + 1)) : Int).toNat), .int .i64 x3_1] 30 (0, 0)) (by (with_reducible repeat (first | refine blk_drewN ?_ _ | refine blk_drew ?_ | refine blk_alloc ?_ _)); (first | exact BK102.out | (simp only [← hji26]; exact BK102.out) | (simp only [← hji31]; exact BK102.out))) hg (Kd.R_away HO_2.out (fun _ hk => hk))); have n1_ := Aside0.mk (hb); have n2_ := Aside0.mk (ho); clear BK102; clear HB; clear HO_2; have BK102 := n0_; have HB := n1_; have HO116 := n2_; clear n0_ n1_ n2_; clear ho hb hg hat))
                                    repeat (go_quiet (first | (go_at_call 15; (with_reducible refine (strings_IndexByte.calls (⟨#[123, 125, 40, 41, 46, 47, 124, 42, 43, 63]⟩ : ByteArray) (bt a0 x3_1) t113 _ A40.out).mono ?_); rintro e w' ⟨rfl, ⟨nd, rfl⟩⟩; (try first | exact ⟨rfl, _, World.drewN_drewN _ _ _⟩ | exact ⟨rfl, _, Eq.trans (World.drewN_drewN _ _ _) (congrArg (World.drewN _) (Nat.add_assoc _ _ _))⟩); have hcz45_0 : wc.cell? ⟨gb102, 0, none⟩ = some (.int .i64 3) := (blk_cell BK102.out 0).trans (by first | rfl | (simp only [← hji26] <;> rfl) | (simp only [← hji31] <;> rfl)); have hcz45_1 : wc.cell? ⟨gb102, 1, none⟩ = some (.string (a0.extract (x3_1 : Int).toNat ((wrap64 (x3_1 + 1)) : Int).toNat)) := (blk_cell BK102.out 1).trans (by first | rfl | (simp only [← hji26] <;> rfl) | (simp only [← hji31] <;> rfl)); have hcz45_2 : wc.cell? ⟨gb102, 2, none⟩ = some (.int .i64 x3_1) := (blk_cell BK102.out 2).trans (by first | rfl | (simp only [← hji26] <;> rfl) | (simp only [← hji31] <;> rfl)); have hfz45_0 := blk_frozen BK102.out 0; have hfz45_1 := blk_frozen BK102.out 1; have hfz45_2 := blk_frozen BK102.out 2) | ((with_reducible refine gate_builtin (b := .append) (xs := #[.tmp 88, .tmp 90]) rfl ?_); at_builtin; refine Kd.R_append k30 (w0 := w) w.heap.size rfl (.tmp 88) (.tmp 90) 22 30 (.agg #[(.int .i64 0), (.string ⟨#[]⟩), (.int .i64 0)]) 32 rfl Try.underlying22 info30 rfl (by decide) (by omega) u2 x2_1 (⟨3, (a0.extract (x3_1 : Int).toNat ((wrap64 (x3_1 + 1)) : Int).toNat), x3_1⟩ : S30) [.int .i64 3, .string (a0.extract (x3_1 : Int).toNat ((wrap64 (x3_1 + 1)) : Int).toNat), .int .i64 x3_1] (fun k_ => k_ ≠ gb102) (fun _ => False) rfl rfl ?aP (fun _ hk => hk.elim) ?aF ?aO ?aB ?aS ?aL ?_; (case aP => exact k30_mkM _ _ _ (⟨3, (a0.extract (x3_1 : Int).toNat ((wrap64 (x3_1 + 1)) : Int).toNat), x3_1⟩ : S30)); (case aB => exact (by repeat (first | (with_reducible first | exact HB.out | apply below_alloc | apply pw_below_drewN | apply below_drew1 | refine below_set ?_ GE102.out) | exact HB.out))); (case aF => exact (fun k_ hk => Kd.freshB (g := gb102) (o := .cells #[.int .i64 3, .string (a0.extract (x3_1 : Int).toNat ((wrap64 (x3_1 + 1)) : Int).toNat), .int .i64 x3_1] 30 (0, 0)) (by (with_reducible repeat (first | refine blk_drewN ?_ _ | refine blk_drew ?_ | refine blk_alloc ?_ _)); (first | exact BK102.out | (simp only [← hji26]; exact BK102.out) | (simp only [← hji31]; exact BK102.out))) k_ hk)); (case aO => exact (by (with_reducible repeat (first | apply Kd.R_alloc | apply Kd.R_drewN | apply Kd.R_drew)); exact HO_2.out)); (case aS => exact (below_size (by repeat (first | (with_reducible first | exact HB.out | apply below_alloc | apply pw_below_drewN | apply below_drew1 | refine below_set ?_ GE102.out) | exact HB.out)))); (case aL => have := LMc44.out; omega); intro v115 w46 ho hb hg hat; rw [← Ny114.out] at ho; have n0_ := Aside0.mk (blk_grown (g := gb102) (o := .cells #[.int .i64 3, .string (a0.extract (x3_1 : Int).toNat ((wrap64 (x3_1 + 1)) : Int).toNat), .int .i64 x3_1] 30 (0, 0)) (by (with_reducible repeat (first | refine blk_drewN ?_ _ | refine blk_drew ?_ | refine blk_alloc ?_ _)); (first | exact BK102.out | (simp only [← hji26]; exact BK102.out) | (simp only [← hji31]; exact BK102.out))) hg (Kd.R_away HO_2.out (fun _ hk => hk))); have n1_ := Aside0.mk (hb); have n2_ := Aside0.mk (ho); clear BK102; clear HB; clear HO_2; have BK102 := n0_; have HB := n1_; have HO116 := n2_; clear n0_ n1_ n2_; clear ho hb hg hat)); try go_wp2_with (first | (go_at_call 15; (with_reducible refine (strings_IndexByte.calls (⟨#[123, 125, 40, 41, 46, 47, 124, 42, 43, 63]⟩ : ByteArray) (bt a0 x3_1) t113 _ A40.out).mono ?_); rintro e w' ⟨rfl, ⟨nd, rfl⟩⟩; (try first | exact ⟨rfl, _, World.drewN_drewN _ _ _⟩ | exact ⟨rfl, _, Eq.trans (World.drewN_drewN _ _ _) (congrArg (World.drewN _) (Nat.add_assoc _ _ _))⟩); have hcz45_0 : wc.cell? ⟨gb102, 0, none⟩ = some (.int .i64 3) := (blk_cell BK102.out 0).trans (by first | rfl | (simp only [← hji26] <;> rfl) | (simp only [← hji31] <;> rfl)); have hcz45_1 : wc.cell? ⟨gb102, 1, none⟩ = some (.string (a0.extract (x3_1 : Int).toNat ((wrap64 (x3_1 + 1)) : Int).toNat)) := (blk_cell BK102.out 1).trans (by first | rfl | (simp only [← hji26] <;> rfl) | (simp only [← hji31] <;> rfl)); have hcz45_2 : wc.cell? ⟨gb102, 2, none⟩ = some (.int .i64 x3_1) := (blk_cell BK102.out 2).trans (by first | rfl | (simp only [← hji26] <;> rfl) | (simp only [← hji31] <;> rfl)); have hfz45_0 := blk_frozen BK102.out 0; have hfz45_1 := blk_frozen BK102.out 1; have hfz45_2 := blk_frozen BK102.out 2) | ((with_reducible refine gate_builtin (b := .append) (xs := #[.tmp 88, .tmp 90]) rfl ?_); at_builtin; refine Kd.R_append k30 (w0 := w) w.heap.size rfl (.tmp 88) (.tmp 90) 22 30 (.agg #[(.int .i64 0), (.string ⟨#[]⟩), (.int .i64 0)]) 32 rfl Try.underlying22 info30 rfl (by decide) (by omega) u2 x2_1 (⟨3, (a0.extract (x3_1 : Int).toNat ((wrap64 (x3_1 + 1)) : Int).toNat), x3_1⟩ : S30) [.int .i64 3, .string (a0.extract (x3_1 : Int).toNat ((wrap64 (x3_1 + 1)) : Int).toNat), .int .i64 x3_1] (fun k_ => k_ ≠ gb102) (fun _ => False) rfl rfl ?aP (fun _ hk => hk.elim) ?aF ?aO ?aB ?aS ?aL ?_; (case aP => exact k30_mkM _ _ _ (⟨3, (a0.extract (x3_1 : Int).toNat ((wrap64 (x3_1 + 1)) : Int).toNat), x3_1⟩ : S30)); (case aB => exact (by repeat (first | (with_reducible first | exact HB.out | apply below_alloc | apply pw_below_drewN | apply below_drew1 | refine below_set ?_ GE102.out) | exact HB.out))); (case aF => exact (fun k_ hk => Kd.freshB (g := gb102) (o := .cells #[.int .i64 3, .string (a0.extract (x3_1 : Int).toNat ((wrap64 (x3_1 + 1)) : Int).toNat), .int .i64 x3_1] 30 (0, 0)) (by (with_reducible repeat (first | refine blk_drewN ?_ _ | refine blk_drew ?_ | refine blk_alloc ?_ _)); (first | exact BK102.out | (simp only [← hji26]; exact BK102.out) | (simp only [← hji31]; exact BK102.out))) k_ hk)); (case aO => exact (by (with_reducible repeat (first | apply Kd.R_alloc | apply Kd.R_drewN | apply Kd.R_drew)); exact HO_2.out)); (case aS => exact (below_size (by repeat (first | (with_reducible first | exact HB.out | apply below_alloc | apply pw_below_drewN | apply below_drew1 | refine below_set ?_ GE102.out) | exact HB.out)))); (case aL => have := LMc44.out; omega); intro v115 w46 ho hb hg hat; rw [← Ny114.out] at ho; have n0_ := Aside0.mk (blk_grown (g := gb102) (o := .cells #[.int .i64 3, .string (a0.extract (x3_1 : Int).toNat ((wrap64 (x3_1 + 1)) : Int).toNat), .int .i64 x3_1] 30 (0, 0)) (by (with_reducible repeat (first | refine blk_drewN ?_ _ | refine blk_drew ?_ | refine blk_alloc ?_ _)); (first | exact BK102.out | (simp only [← hji26]; exact BK102.out) | (simp only [← hji31]; exact BK102.out))) hg (Kd.R_away HO_2.out (fun _ hk => hk))); have n1_ := Aside0.mk (hb); have n2_ := Aside0.mk (ho); clear BK102; clear HB; clear HO_2; have BK102 := n0_; have HB := n1_; have HO116 := n2_; clear n0_ n1_ n2_; clear ho hb hg hat)))
                                    go_roundg kj23
                                    case measure => have := HK1.out; have := HJ7.out; have := HJ23.out; omega
                                    case rel => exact ⟨(y114), (wrap64 (x3_1 + 1)), (by first | rfl | (simp; done) | (simp [*]; done) | (simp only [List.beq_nil_eq, bne]; done) | (congr 1; simp only [bne]; done) | (simp [bne]; done) | (congr 1; simp only [bne_iff_ne]; done)), (by first | exact H' | (simp only [← hji26] at H'; exact H') | (simp only [← hji31] at H'; exact H')), ⟨by have := HK1.out; have := HJ7.out; have := HJ23.out; omega⟩, ⟨by (with_reducible repeat (first | apply Kd.R_alloc | apply Kd.R_drewN | apply Kd.R_drew)); exact Kd.R_mono HO116.out (fun _ hk => trivial)⟩, ⟨by repeat (first | (with_reducible first | exact HB.out | apply below_alloc | apply pw_below_drewN | apply below_drew1 | refine below_set ?_ GE102.out) | exact HB.out)⟩⟩
                                  · rw [if_neg c44] at H
                                    exact absurd H (by simp)
              · rw [if_neg c6] at H
                exact absurd H (by simp)
            · rw [if_neg c5] at H
              exact absurd H (by simp)
          · rw [if_neg c4] at H
            exact absurd H (by simp)
        · rw [if_neg c3] at H
          have c3b0 : decide (x3_1 < (a0.size : Int)) = false := decide_eq_false c3
          clear c3
          simp only [Option.some.injEq, Prod.mk.injEq] at H
          obtain ⟨rfl, rfl, rfl⟩ := H
          go_wp2
          repeat (go_quiet (fail); try go_wp2)
          go_ret3
          exact ⟨_, by first | rfl | (simp [errW_none, errW_some] <;> rfl) | (simp [*, errW_none, errW_some] <;> rfl), by (with_reducible repeat (first | apply Kd.R_alloc | apply Kd.R_drewN | apply Kd.R_drew)); exact HO_2.out, by repeat (first | (with_reducible first | exact HB.out | apply below_alloc | apply pw_below_drewN | apply below_drew1) | exact HB.out)⟩

/-! ### sinewref08_part: function 19 -/
def sinewref08_part.f (a0 : Int) : Option (Bool) := if a0 ≥ 97 then (if a0 ≤ 122 then (some true) else (if a0 ≥ 48 then (if a0 ≤ 57 then (some true) else (if a0 = 45 then (some true) else (some (a0 == 58)))) else (if a0 = 45 then (some true) else (some (a0 == 58))))) else (if a0 ≥ 48 then (if a0 ≤ 57 then (some true) else (if a0 = 45 then (some true) else (some (a0 == 58)))) else (if a0 = 45 then (some true) else (some (a0 == 58))))
set_option maxHeartbeats 8000000 in
set_option maxRecDepth 100000 in
theorem sinewref08_part.calls (a0 : Int) (r : Bool) (w : World) (h : sinewref08_part.f a0 = some r) :
    Calls Try.prog 19 #[.int .u8 a0] w fun e w' => e = .returned (.bool r) ∧ Drawn0 w w' := by
  have H : (if a0 ≥ 97 then (if a0 ≤ 122 then (some true) else (if a0 ≥ 48 then (if a0 ≤ 57 then (some true) else (if a0 = 45 then (some true) else (some (a0 == 58)))) else (if a0 = 45 then (some true) else (some (a0 == 58))))) else (if a0 ≥ 48 then (if a0 ≤ 57 then (some true) else (if a0 = 45 then (some true) else (some (a0 == 58)))) else (if a0 = 45 then (some true) else (some (a0 == 58))))) = some r := h
  clear h
  by_cases c2 : a0 ≥ 97
  · rw [if_pos c2] at H
    have c2b0 : decide (97 ≤ a0) = true := decide_eq_true c2
    clear c2
    by_cases c3 : a0 ≤ 122
    · rw [if_pos c3] at H
      have c3b0 : decide (a0 ≤ 122) = true := decide_eq_true c3
      clear c3
      obtain rfl := Option.some.inj H
      go_enter Try.func19, Try.ntmps19
      go_wp2
      go_ret
      exact ⟨by first | rfl | (simp; done) | (simp [*]; done), by repeat (first | exact Drawn0.refl _ | apply Drawn0.step)⟩
    · rw [if_neg c3] at H
      have c3b0 : decide (a0 ≤ 122) = false := decide_eq_false c3
      clear c3
      by_cases c4 : a0 ≥ 48
      · rw [if_pos c4] at H
        have c4b0 : decide (48 ≤ a0) = true := decide_eq_true c4
        clear c4
        by_cases c5 : a0 ≤ 57
        · rw [if_pos c5] at H
          have c5b0 : decide (a0 ≤ 57) = true := decide_eq_true c5
          clear c5
          obtain rfl := Option.some.inj H
          go_enter Try.func19, Try.ntmps19
          go_wp2
          go_ret
          exact ⟨by first | rfl | (simp; done) | (simp [*]; done), by repeat (first | exact Drawn0.refl _ | apply Drawn0.step)⟩
        · rw [if_neg c5] at H
          have c5b0 : decide (a0 ≤ 57) = false := decide_eq_false c5
          clear c5
          by_cases c6 : a0 = 45
          · rw [if_pos c6] at H
            have c6b0 : (a0 == 45) = true := beq_iff_eq.mpr c6
            have c6b1 : (a0 != 45) = false := bne_eq_false_iff_eq.mpr c6
            clear c6
            obtain rfl := Option.some.inj H
            go_enter Try.func19, Try.ntmps19
            go_wp2
            go_ret
            exact ⟨by first | rfl | (simp; done) | (simp [*]; done), by repeat (first | exact Drawn0.refl _ | apply Drawn0.step)⟩
          · rw [if_neg c6] at H
            have c6b0 : (a0 == 45) = false := beq_eq_false_iff_ne.mpr c6
            have c6b1 : (a0 != 45) = true := bne_iff_ne.mpr c6
            obtain rfl := Option.some.inj H
            go_enter Try.func19, Try.ntmps19
            go_wp2
            go_ret
            exact ⟨by first | rfl | (simp; done) | (simp [*]; done), by repeat (first | exact Drawn0.refl _ | apply Drawn0.step)⟩
      · rw [if_neg c4] at H
        have c4b0 : decide (48 ≤ a0) = false := decide_eq_false c4
        clear c4
        by_cases c7 : a0 = 45
        · rw [if_pos c7] at H
          have c7b0 : (a0 == 45) = true := beq_iff_eq.mpr c7
          have c7b1 : (a0 != 45) = false := bne_eq_false_iff_eq.mpr c7
          clear c7
          obtain rfl := Option.some.inj H
          go_enter Try.func19, Try.ntmps19
          go_wp2
          go_ret
          exact ⟨by first | rfl | (simp; done) | (simp [*]; done), by repeat (first | exact Drawn0.refl _ | apply Drawn0.step)⟩
        · rw [if_neg c7] at H
          have c7b0 : (a0 == 45) = false := beq_eq_false_iff_ne.mpr c7
          have c7b1 : (a0 != 45) = true := bne_iff_ne.mpr c7
          obtain rfl := Option.some.inj H
          go_enter Try.func19, Try.ntmps19
          go_wp2
          go_ret
          exact ⟨by first | rfl | (simp; done) | (simp [*]; done), by repeat (first | exact Drawn0.refl _ | apply Drawn0.step)⟩
  · rw [if_neg c2] at H
    have c2b0 : decide (97 ≤ a0) = false := decide_eq_false c2
    clear c2
    by_cases c8 : a0 ≥ 48
    · rw [if_pos c8] at H
      have c8b0 : decide (48 ≤ a0) = true := decide_eq_true c8
      clear c8
      by_cases c9 : a0 ≤ 57
      · rw [if_pos c9] at H
        have c9b0 : decide (a0 ≤ 57) = true := decide_eq_true c9
        clear c9
        obtain rfl := Option.some.inj H
        go_enter Try.func19, Try.ntmps19
        go_wp2
        go_ret
        exact ⟨by first | rfl | (simp; done) | (simp [*]; done), by repeat (first | exact Drawn0.refl _ | apply Drawn0.step)⟩
      · rw [if_neg c9] at H
        have c9b0 : decide (a0 ≤ 57) = false := decide_eq_false c9
        clear c9
        by_cases c10 : a0 = 45
        · rw [if_pos c10] at H
          have c10b0 : (a0 == 45) = true := beq_iff_eq.mpr c10
          have c10b1 : (a0 != 45) = false := bne_eq_false_iff_eq.mpr c10
          clear c10
          obtain rfl := Option.some.inj H
          go_enter Try.func19, Try.ntmps19
          go_wp2
          go_ret
          exact ⟨by first | rfl | (simp; done) | (simp [*]; done), by repeat (first | exact Drawn0.refl _ | apply Drawn0.step)⟩
        · rw [if_neg c10] at H
          have c10b0 : (a0 == 45) = false := beq_eq_false_iff_ne.mpr c10
          have c10b1 : (a0 != 45) = true := bne_iff_ne.mpr c10
          obtain rfl := Option.some.inj H
          go_enter Try.func19, Try.ntmps19
          go_wp2
          go_ret
          exact ⟨by first | rfl | (simp; done) | (simp [*]; done), by repeat (first | exact Drawn0.refl _ | apply Drawn0.step)⟩
    · rw [if_neg c8] at H
      have c8b0 : decide (48 ≤ a0) = false := decide_eq_false c8
      clear c8
      by_cases c11 : a0 = 45
      · rw [if_pos c11] at H
        have c11b0 : (a0 == 45) = true := beq_iff_eq.mpr c11
        have c11b1 : (a0 != 45) = false := bne_eq_false_iff_eq.mpr c11
        clear c11
        obtain rfl := Option.some.inj H
        go_enter Try.func19, Try.ntmps19
        go_wp2
        go_ret
        exact ⟨by first | rfl | (simp; done) | (simp [*]; done), by repeat (first | exact Drawn0.refl _ | apply Drawn0.step)⟩
      · rw [if_neg c11] at H
        have c11b0 : (a0 == 45) = false := beq_eq_false_iff_ne.mpr c11
        have c11b1 : (a0 != 45) = true := bne_iff_ne.mpr c11
        obtain rfl := Option.some.inj H
        go_enter Try.func19, Try.ntmps19
        go_wp2
        go_ret
        exact ⟨by first | rfl | (simp; done) | (simp [*]; done), by repeat (first | exact Drawn0.refl _ | apply Drawn0.step)⟩

/-! ### sinewref08_run: function 16 -/
def sinewref08_run.l0 : Nat → ByteArray → Int → Int → Option (Int)
  | 0, _, _, _ => none
  | k + 1, x0, x1, x5 => if (wrap64 (x1 + x5)) < (x0.size : Int) then (if 0 ≤ (wrap64 (x1 + x5)) then ((sinewref08_part.f (bt x0 (wrap64 (x1 + x5)))).bind fun t117 => (if t117 = true then (sinewref08_run.l0 k x0 x1 (wrap64 (x5 + 1))) else (some x5))) else (none)) else (some x5)
def sinewref08_run.f (k : Nat) (a0 : ByteArray) (a1 : Int) : Option (Int) := sinewref08_run.l0 k a0 a1 0
theorem sinewref08_run.mono_l : ∀ k, (∀ y0 y1 y2, LeO (sinewref08_run.l0 k y0 y1 y2) (sinewref08_run.l0 (k + 1) y0 y1 y2))
  | 0 => fun _ _ _ r h => by simp [sinewref08_run.l0] at h
  | k + 1 => by
    have ih0 := sinewref08_run.mono_l k
    · intro y0 y1 y2
      unfold sinewref08_run.l0
      repeat' first
      | (with_reducible exact ih0 _ _ _)
      | (with_reducible exact LeO.refl _)
      | (with_reducible exact LeO.none _)
      | (with_reducible refine LeO.ite ?_ ?_)
      | (with_reducible refine LeO.bind ?_ (fun _ => ?_))
      | exact ih0 _ _ _
      | exact LeO.none _
      | refine LeO.ite ?_ ?_
      | refine LeO.bind ?_ (fun _ => ?_)
theorem sinewref08_run.mono : ∀ a0 a1 k, LeO (sinewref08_run.f k a0 a1) (sinewref08_run.f (k + 1) a0 a1) := by
  intro a0 a1 k
  have ih0 := sinewref08_run.mono_l k
  unfold sinewref08_run.f
  repeat' first
      | (with_reducible exact ih0 _ _ _)
      | (with_reducible exact LeO.refl _)
      | (with_reducible exact LeO.none _)
      | (with_reducible refine LeO.ite ?_ ?_)
      | (with_reducible refine LeO.bind ?_ (fun _ => ?_))
      | exact ih0 _ _ _
      | exact LeO.none _
      | refine LeO.ite ?_ ?_
      | refine LeO.bind ?_ (fun _ => ?_)
set_option maxHeartbeats 8000000 in
set_option maxRecDepth 100000 in
theorem sinewref08_run.calls (k : Nat) (a0 : ByteArray) (a1 : Int) (r : Int) (w : World) (h : sinewref08_run.f k a0 a1 = some r) :
    Calls Try.prog 16 #[.string a0, .int .i64 a1] w fun e w' => e = .returned (.int .i64 r) ∧ Drawn0 w w' := by
  have H : (sinewref08_run.l0 k a0 a1 0) = some r := h
  clear h
  have H' := Aside0.mk H
  clear H
  go_enter Try.func16, Try.ntmps16
  go_wp2
  go_loopg [5] k (fun kq v5 w' => ∃ (x5_1 : Int), v5 = .int .i64 x5_1 ∧ Aside0 (sinewref08_run.l0 kq a0 a1 x5_1 = some r) ∧ Aside0 (kq ≤ k) ∧ Drawn0 w w')
  case atStart => exact ⟨(0), (by first | rfl | (simp; done) | (simp [*]; done)), H', ⟨Nat.le_refl _⟩, by repeat (first | exact Drawn0.refl _ | apply Drawn0.step)⟩
  case round =>
    clear H'
    try clear c1
    try clear p2
    obtain ⟨x5_1, rfl, HA, HK1, ⟨m1, rfl⟩⟩ := hrel
    cases gk with
    | zero => exact absurd HA.out (by simp [sinewref08_run.l0])
    | succ k1 =>
      have H := HA.out
      clear HA
      simp only [sinewref08_run.l0] at H
      by_cases c3 : (wrap64 (a1 + x5_1)) < (a0.size : Int)
      · rw [if_pos c3] at H
        have c3b0 : decide ((wrap64 (a1 + x5_1)) < (a0.size : Int)) = true := decide_eq_true c3
        clear c3
        obtain ⟨ji4, hji4⟩ : ∃ j_ : Int, (wrap64 (a1 + x5_1)) = j_ := ⟨_, rfl⟩
        replace H : (if 0 ≤ (ji4) then ((sinewref08_part.f (bt a0 (ji4))).bind fun t117 => (if t117 = true then (sinewref08_run.l0 k1 a0 a1 (wrap64 (x5_1 + 1))) else (some x5_1))) else (none)) = some r := by first | (rw [hji4] at H; exact H) | (simp only [hji4] at H ⊢; exact H)
        (try rw [hji4] at c3b0)
        have hji4w : (IntKind.i64.wrap (a1 + x5_1)) = ji4 := (i64_w _).trans hji4
        by_cases c5 : 0 ≤ (ji4)
        · rw [if_pos c5] at H
          have c5b0 : decide (0 ≤ (ji4)) = true := decide_eq_true c5
          clear c5
          replace H := Option.bind_eq_some_iff.mp H
          obtain ⟨t117, A70, H⟩ := H
          replace H : (if t117 = true then (sinewref08_run.l0 k1 a0 a1 (wrap64 (x5_1 + 1))) else (some x5_1)) = some r := H
          have A7 := Aside0.mk A70
          clear A70
          by_cases c8 : t117 = true
          · subst c8
            have H1 : (sinewref08_run.l0 k1 a0 a1 (wrap64 (x5_1 + 1))) = some r := by rw [if_pos rfl] at H; exact H
            clear H
            have H := H1
            clear H1
            have H' := Aside0.mk H
            clear H
            have p6 : 0 ≤ ((ji4) : Int) := of_decide_eq_true (by first | (with_reducible assumption) | assumption)
            have q6 : (ji4) < (a0.size : Int) := of_decide_eq_true (by first | (with_reducible assumption) | assumption)
            have hx6 := bt_at a0 (ji4)
            replace p6 := eq_true p6
            replace q6 := eq_true q6
            go_wp2_with (first | (go_at_call 19; (with_reducible refine (sinewref08_part.calls (bt a0 (ji4)) true _ A7.out).mono ?_); rintro e w' ⟨rfl, ⟨nd, rfl⟩⟩))
            go_roundg k1
            case measure => have := HK1.out; omega
            case rel => exact ⟨(wrap64 (x5_1 + 1)), (by first | rfl | (simp; done) | (simp [*]; done)), H', ⟨by have := HK1.out; omega⟩, by repeat (first | exact Drawn0.refl _ | apply Drawn0.step)⟩
          · replace c8 := Bool.eq_false_iff.mpr c8
            subst c8
            have H1 : (some x5_1) = some r := by rw [if_neg (show ¬ (false = true) by decide)] at H; exact H
            clear H
            have H := H1
            clear H1
            obtain rfl := Option.some.inj H
            have p6 : 0 ≤ ((ji4) : Int) := of_decide_eq_true (by first | (with_reducible assumption) | assumption)
            have q6 : (ji4) < (a0.size : Int) := of_decide_eq_true (by first | (with_reducible assumption) | assumption)
            have hx6 := bt_at a0 (ji4)
            replace p6 := eq_true p6
            replace q6 := eq_true q6
            go_wp2_with (first | (go_at_call 19; (with_reducible refine (sinewref08_part.calls (bt a0 (ji4)) false _ A7.out).mono ?_); rintro e w' ⟨rfl, ⟨nd, rfl⟩⟩))
            go_ret
            exact ⟨by first | rfl | (simp; done) | (simp only [← hji4] <;> (first | rfl | simp)) | (simp [*]; done), by repeat (first | exact Drawn0.refl _ | apply Drawn0.step)⟩
        · rw [if_neg c5] at H
          exact absurd H (by simp)
      · rw [if_neg c3] at H
        have c3b0 : decide ((wrap64 (a1 + x5_1)) < (a0.size : Int)) = false := decide_eq_false c3
        clear c3
        obtain rfl := Option.some.inj H
        go_wp2
        go_ret
        exact ⟨by first | rfl | (simp; done) | (simp [*]; done), by repeat (first | exact Drawn0.refl _ | apply Drawn0.step)⟩

end Go.Proofs.Ytfmfgdlnkphoaaa.Px
-- fixji
