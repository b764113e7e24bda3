-- PRINTED by print.py (a twelfth state) out of the translation. Not trusted: Lean checks it.
import Derived.Test.YtjeoenpkhfmafaaPx0
import Derived.Test.YtjeoenpkhfmafaaPx3
import Derived.Test.YtjeoenpkhfmafaaPx4
namespace Go.Proofs.Ytjeoenpkhfmafaa.Px
open Go.Proofs.Ytjeoenpkhfmafaa.Hand Go.Proofs.Ytjeoenpkhfmafaa.Pa
open Go.RowKit Go.Proofs.YtjeoenpkhfmafaaW.PrintWords Go.Proofs.YtjeoenpkhfmafaaW.PrintLast Go.Proofs.YtjeoenpkhfmafaaW.PrintMore
attribute [local go_sem] max2_int min2_int max_two min_two max_three min_three max_four min_four   -- for this text's walks alone
set_option linter.unusedVariables false
set_option linter.unusedSimpArgs false

/-! ### sinewlaw01_OctetTwo: function 11 -/
mutual
def sinewlaw01_OctetTwo.j1 : Nat → ByteArray → ByteArray → List ByteArray → Int → Option (Bool)
  | 0, _, _, _, _ => none
  | k + 1, x0, x1, x2, x7 => if (x0.size : Int) > 1024 then (sinewlaw01_OctetTwo.j2 k x0 x1 x2 true) else (if (x1.size : Int) > 1024 then (sinewlaw01_OctetTwo.j2 k x0 x1 x2 true) else (if x7 > 1024 then (sinewlaw01_OctetTwo.j2 k x0 x1 x2 true) else (sinewlaw01_OctetTwo.j2 k x0 x1 x2 (decide ((x2.length : Int) > 60)))))
def sinewlaw01_OctetTwo.j2 : Nat → ByteArray → ByteArray → List ByteArray → Bool → Option (Bool)
  | 0, _, _, _, _ => none
  | k + 1, x0, x1, x2, x59 => if x59 = true then ((sinewlaw01_texts.f k).bind fun t229 => (some t229)) else ((octet_PutStr.f x0).bind fun bt230 => ((octet_PutStr.f x1).bind fun bt232 => ((octet_PutList.f x2).bind fun bt234 => (if bt230.2 = 0 then (if bt232.2 = 0 then (sinewlaw01_OctetTwo.j3 k x0 x1 x2 bt230.1 bt232.1 bt234.1 (bt234.2 != 0)) else (sinewlaw01_OctetTwo.j3 k x0 x1 x2 bt230.1 bt232.1 bt234.1 true)) else (sinewlaw01_OctetTwo.j3 k x0 x1 x2 bt230.1 bt232.1 bt234.1 true)))))
def sinewlaw01_OctetTwo.j3 : Nat → ByteArray → ByteArray → List ByteArray → ByteArray → ByteArray → ByteArray → Bool → Option (Bool)
  | 0, _, _, _, _, _, _, _ => none
  | k + 1, x0, x1, x2, x9, x11, x13, x85 => if x85 = true then (some false) else (if x9.size + x11.size ≤ 9223372036854775807 then (if (x9 ++ x11).size + x13.size ≤ 9223372036854775807 then (if ((x9 ++ x11) ++ x13).size + x9.size ≤ 9223372036854775807 then ((octet_Str.f k (((x9 ++ x11) ++ x13) ++ x9)).bind fun bt236 => (if bt236.1.toList = x0.toList then (if bt236.2.1 = (x9.size : Int) then (sinewlaw01_OctetTwo.j4 k x1 x2 x11 x13 (((x9 ++ x11) ++ x13) ++ x9) bt236.2.1 (bt236.2.2 != 0)) else (sinewlaw01_OctetTwo.j4 k x1 x2 x11 x13 (((x9 ++ x11) ++ x13) ++ x9) bt236.2.1 true)) else (sinewlaw01_OctetTwo.j4 k x1 x2 x11 x13 (((x9 ++ x11) ++ x13) ++ x9) bt236.2.1 true))) else (none)) else (none)) else (none))
def sinewlaw01_OctetTwo.j4 : Nat → ByteArray → List ByteArray → ByteArray → ByteArray → ByteArray → Int → Bool → Option (Bool)
  | 0, _, _, _, _, _, _, _ => none
  | k + 1, x1, x2, x11, x13, x15, x17, x111 => if x111 = true then (some false) else (if 0 ≤ x17 then (if x17 ≤ (x15.size : Int) then ((octet_Str.f k (x15.extract (x17 : Int).toNat x15.size)).bind fun bt239 => (if bt239.1.toList = x1.toList then (if bt239.2.1 = (x11.size : Int) then (sinewlaw01_OctetTwo.j5 k x2 x13 x15 x17 bt239.2.1 (bt239.2.2 != 0)) else (sinewlaw01_OctetTwo.j5 k x2 x13 x15 x17 bt239.2.1 true)) else (sinewlaw01_OctetTwo.j5 k x2 x13 x15 x17 bt239.2.1 true))) else (none)) else (none))
def sinewlaw01_OctetTwo.j5 : Nat → List ByteArray → ByteArray → ByteArray → Int → Int → Bool → Option (Bool)
  | 0, _, _, _, _, _, _ => none
  | k + 1, x2, x13, x15, x17, x20, x132 => if x132 = true then (some false) else (if 0 ≤ (wrap64 (x17 + x20)) then (if (wrap64 (x17 + x20)) ≤ (x15.size : Int) then ((octet_List.f k (x15.extract ((wrap64 (x17 + x20)) : Int).toNat x15.size)).bind fun bt242 => ((sinewref01_Same.f k bt242.1 x2).bind fun t247 => (if t247 = true then (if bt242.2.1 = (x13.size : Int) then (if bt242.2.2 = 0 then ((sinewlaw01_texts.f k).bind fun t248 => (some t248)) else (some false)) else (some false)) else (some false)))) else (none)) else (none))
def sinewlaw01_OctetTwo.l0 : Nat → ByteArray → ByteArray → List ByteArray → Int → Int → Option (Bool)
  | 0, _, _, _, _, _ => none
  | k + 1, x0, x1, x2, x7, x8 => if x8 < (x2.length : Int) then (if x8 < 100 then (if 0 ≤ x8 then (sinewlaw01_OctetTwo.l0 k x0 x1 x2 (wrap64 (x7 + (mn ((rdOf ByteArray.empty x2 x8).size : Int) 2048))) (wrap64 (x8 + 1))) else (none)) else (sinewlaw01_OctetTwo.j1 k x0 x1 x2 x7)) else (sinewlaw01_OctetTwo.j1 k x0 x1 x2 x7)
end
def sinewlaw01_OctetTwo.f (k : Nat) (a0 : ByteArray) (a1 : ByteArray) (l2 : List ByteArray) : Option (Bool) := sinewlaw01_OctetTwo.l0 k a0 a1 l2 0 0
theorem sinewlaw01_OctetTwo.mono_l : ∀ k, (∀ y0 y1 y2 y3, LeO (sinewlaw01_OctetTwo.j1 k y0 y1 y2 y3) (sinewlaw01_OctetTwo.j1 (k + 1) y0 y1 y2 y3)) ∧ (∀ y0 y1 y2 y3, LeO (sinewlaw01_OctetTwo.j2 k y0 y1 y2 y3) (sinewlaw01_OctetTwo.j2 (k + 1) y0 y1 y2 y3)) ∧ (∀ y0 y1 y2 y3 y4 y5 y6, LeO (sinewlaw01_OctetTwo.j3 k y0 y1 y2 y3 y4 y5 y6) (sinewlaw01_OctetTwo.j3 (k + 1) y0 y1 y2 y3 y4 y5 y6)) ∧ (∀ y0 y1 y2 y3 y4 y5 y6, LeO (sinewlaw01_OctetTwo.j4 k y0 y1 y2 y3 y4 y5 y6) (sinewlaw01_OctetTwo.j4 (k + 1) y0 y1 y2 y3 y4 y5 y6)) ∧ (∀ y0 y1 y2 y3 y4 y5, LeO (sinewlaw01_OctetTwo.j5 k y0 y1 y2 y3 y4 y5) (sinewlaw01_OctetTwo.j5 (k + 1) y0 y1 y2 y3 y4 y5)) ∧ (∀ y0 y1 y2 y3 y4, LeO (sinewlaw01_OctetTwo.l0 k y0 y1 y2 y3 y4) (sinewlaw01_OctetTwo.l0 (k + 1) y0 y1 y2 y3 y4))
  | 0 => ⟨fun _ _ _ _ r h => by simp [sinewlaw01_OctetTwo.j1] at h, fun _ _ _ _ r h => by simp [sinewlaw01_OctetTwo.j2] at h, fun _ _ _ _ _ _ _ r h => by simp [sinewlaw01_OctetTwo.j3] at h, fun _ _ _ _ _ _ _ r h => by simp [sinewlaw01_OctetTwo.j4] at h, fun _ _ _ _ _ _ r h => by simp [sinewlaw01_OctetTwo.j5] at h, fun _ _ _ _ _ r h => by simp [sinewlaw01_OctetTwo.l0] at h⟩
  | k + 1 => by
    obtain ⟨ih0, ih1, ih2, ih3, ih4, ih5⟩ := sinewlaw01_OctetTwo.mono_l k
    refine ⟨?_, ?_, ?_, ?_, ?_, ?_⟩
    · intro y0 y1 y2 y3
      unfold sinewlaw01_OctetTwo.j1
      repeat' first
      | (with_reducible exact ih0 _ _ _ _)
      | (with_reducible exact ih1 _ _ _ _)
      | (with_reducible exact ih2 _ _ _ _ _ _ _)
      | (with_reducible exact ih3 _ _ _ _ _ _ _)
      | (with_reducible exact ih4 _ _ _ _ _ _)
      | (with_reducible exact ih5 _ _ _ _ _)
      | (with_reducible exact octet_List.mono _ _)
      | (with_reducible exact octet_Str.mono _ _)
      | (with_reducible exact sinewlaw01_texts.mono _)
      | (with_reducible exact sinewref01_Same.mono _ _ _)
      | (with_reducible exact LeO.refl _)
      | (with_reducible exact LeO.none _)
      | (with_reducible refine LeO.ite ?_ ?_)
      | (with_reducible refine LeO.bind ?_ (fun _ => ?_))
      | exact ih0 _ _ _ _
      | exact ih1 _ _ _ _
      | exact ih2 _ _ _ _ _ _ _
      | exact ih3 _ _ _ _ _ _ _
      | exact ih4 _ _ _ _ _ _
      | exact ih5 _ _ _ _ _
      | exact octet_List.mono _ _
      | exact octet_Str.mono _ _
      | exact sinewlaw01_texts.mono _
      | exact sinewref01_Same.mono _ _ _
      | exact LeO.none _
      | refine LeO.ite ?_ ?_
      | refine LeO.bind ?_ (fun _ => ?_)
    · intro y0 y1 y2 y3
      unfold sinewlaw01_OctetTwo.j2
      repeat' first
      | (with_reducible exact ih0 _ _ _ _)
      | (with_reducible exact ih1 _ _ _ _)
      | (with_reducible exact ih2 _ _ _ _ _ _ _)
      | (with_reducible exact ih3 _ _ _ _ _ _ _)
      | (with_reducible exact ih4 _ _ _ _ _ _)
      | (with_reducible exact ih5 _ _ _ _ _)
      | (with_reducible exact octet_List.mono _ _)
      | (with_reducible exact octet_Str.mono _ _)
      | (with_reducible exact sinewlaw01_texts.mono _)
      | (with_reducible exact sinewref01_Same.mono _ _ _)
      | (with_reducible exact LeO.refl _)
      | (with_reducible exact LeO.none _)
      | (with_reducible refine LeO.ite ?_ ?_)
      | (with_reducible refine LeO.bind ?_ (fun _ => ?_))
      | exact ih0 _ _ _ _
      | exact ih1 _ _ _ _
      | exact ih2 _ _ _ _ _ _ _
      | exact ih3 _ _ _ _ _ _ _
      | exact ih4 _ _ _ _ _ _
      | exact ih5 _ _ _ _ _
      | exact octet_List.mono _ _
      | exact octet_Str.mono _ _
      | exact sinewlaw01_texts.mono _
      | exact sinewref01_Same.mono _ _ _
      | exact LeO.none _
      | refine LeO.ite ?_ ?_
      | refine LeO.bind ?_ (fun _ => ?_)
    · intro y0 y1 y2 y3 y4 y5 y6
      unfold sinewlaw01_OctetTwo.j3
      repeat' first
      | (with_reducible exact ih0 _ _ _ _)
      | (with_reducible exact ih1 _ _ _ _)
      | (with_reducible exact ih2 _ _ _ _ _ _ _)
      | (with_reducible exact ih3 _ _ _ _ _ _ _)
      | (with_reducible exact ih4 _ _ _ _ _ _)
      | (with_reducible exact ih5 _ _ _ _ _)
      | (with_reducible exact octet_List.mono _ _)
      | (with_reducible exact octet_Str.mono _ _)
      | (with_reducible exact sinewlaw01_texts.mono _)
      | (with_reducible exact sinewref01_Same.mono _ _ _)
      | (with_reducible exact LeO.refl _)
      | (with_reducible exact LeO.none _)
      | (with_reducible refine LeO.ite ?_ ?_)
      | (with_reducible refine LeO.bind ?_ (fun _ => ?_))
      | exact ih0 _ _ _ _
      | exact ih1 _ _ _ _
      | exact ih2 _ _ _ _ _ _ _
      | exact ih3 _ _ _ _ _ _ _
      | exact ih4 _ _ _ _ _ _
      | exact ih5 _ _ _ _ _
      | exact octet_List.mono _ _
      | exact octet_Str.mono _ _
      | exact sinewlaw01_texts.mono _
      | exact sinewref01_Same.mono _ _ _
      | exact LeO.none _
      | refine LeO.ite ?_ ?_
      | refine LeO.bind ?_ (fun _ => ?_)
    · intro y0 y1 y2 y3 y4 y5 y6
      unfold sinewlaw01_OctetTwo.j4
      repeat' first
      | (with_reducible exact ih0 _ _ _ _)
      | (with_reducible exact ih1 _ _ _ _)
      | (with_reducible exact ih2 _ _ _ _ _ _ _)
      | (with_reducible exact ih3 _ _ _ _ _ _ _)
      | (with_reducible exact ih4 _ _ _ _ _ _)
      | (with_reducible exact ih5 _ _ _ _ _)
      | (with_reducible exact octet_List.mono _ _)
      | (with_reducible exact octet_Str.mono _ _)
      | (with_reducible exact sinewlaw01_texts.mono _)
      | (with_reducible exact sinewref01_Same.mono _ _ _)
      | (with_reducible exact LeO.refl _)
      | (with_reducible exact LeO.none _)
      | (with_reducible refine LeO.ite ?_ ?_)
      | (with_reducible refine LeO.bind ?_ (fun _ => ?_))
      | exact ih0 _ _ _ _
      | exact ih1 _ _ _ _
      | exact ih2 _ _ _ _ _ _ _
      | exact ih3 _ _ _ _ _ _ _
      | exact ih4 _ _ _ _ _ _
      | exact ih5 _ _ _ _ _
      | exact octet_List.mono _ _
      | exact octet_Str.mono _ _
      | exact sinewlaw01_texts.mono _
      | exact sinewref01_Same.mono _ _ _
      | exact LeO.none _
      | refine LeO.ite ?_ ?_
      | refine LeO.bind ?_ (fun _ => ?_)
    · intro y0 y1 y2 y3 y4 y5
      unfold sinewlaw01_OctetTwo.j5
      repeat' first
      | (with_reducible exact ih0 _ _ _ _)
      | (with_reducible exact ih1 _ _ _ _)
      | (with_reducible exact ih2 _ _ _ _ _ _ _)
      | (with_reducible exact ih3 _ _ _ _ _ _ _)
      | (with_reducible exact ih4 _ _ _ _ _ _)
      | (with_reducible exact ih5 _ _ _ _ _)
      | (with_reducible exact octet_List.mono _ _)
      | (with_reducible exact octet_Str.mono _ _)
      | (with_reducible exact sinewlaw01_texts.mono _)
      | (with_reducible exact sinewref01_Same.mono _ _ _)
      | (with_reducible exact LeO.refl _)
      | (with_reducible exact LeO.none _)
      | (with_reducible refine LeO.ite ?_ ?_)
      | (with_reducible refine LeO.bind ?_ (fun _ => ?_))
      | exact ih0 _ _ _ _
      | exact ih1 _ _ _ _
      | exact ih2 _ _ _ _ _ _ _
      | exact ih3 _ _ _ _ _ _ _
      | exact ih4 _ _ _ _ _ _
      | exact ih5 _ _ _ _ _
      | exact octet_List.mono _ _
      | exact octet_Str.mono _ _
      | exact sinewlaw01_texts.mono _
      | exact sinewref01_Same.mono _ _ _
      | exact LeO.none _
      | refine LeO.ite ?_ ?_
      | refine LeO.bind ?_ (fun _ => ?_)
    · intro y0 y1 y2 y3 y4
      unfold sinewlaw01_OctetTwo.l0
      repeat' first
      | (with_reducible exact ih0 _ _ _ _)
      | (with_reducible exact ih1 _ _ _ _)
      | (with_reducible exact ih2 _ _ _ _ _ _ _)
      | (with_reducible exact ih3 _ _ _ _ _ _ _)
      | (with_reducible exact ih4 _ _ _ _ _ _)
      | (with_reducible exact ih5 _ _ _ _ _)
      | (with_reducible exact octet_List.mono _ _)
      | (with_reducible exact octet_Str.mono _ _)
      | (with_reducible exact sinewlaw01_texts.mono _)
      | (with_reducible exact sinewref01_Same.mono _ _ _)
      | (with_reducible exact LeO.refl _)
      | (with_reducible exact LeO.none _)
      | (with_reducible refine LeO.ite ?_ ?_)
      | (with_reducible refine LeO.bind ?_ (fun _ => ?_))
      | exact ih0 _ _ _ _
      | exact ih1 _ _ _ _
      | exact ih2 _ _ _ _ _ _ _
      | exact ih3 _ _ _ _ _ _ _
      | exact ih4 _ _ _ _ _ _
      | exact ih5 _ _ _ _ _
      | exact octet_List.mono _ _
      | exact octet_Str.mono _ _
      | exact sinewlaw01_texts.mono _
      | exact sinewref01_Same.mono _ _ _
      | exact LeO.none _
      | refine LeO.ite ?_ ?_
      | refine LeO.bind ?_ (fun _ => ?_)
theorem sinewlaw01_OctetTwo.mono : ∀ a0 a1 a2 k, LeO (sinewlaw01_OctetTwo.f k a0 a1 a2) (sinewlaw01_OctetTwo.f (k + 1) a0 a1 a2) := by
  intro a0 a1 a2 k
  obtain ⟨ih0, ih1, ih2, ih3, ih4, ih5⟩ := sinewlaw01_OctetTwo.mono_l k
  unfold sinewlaw01_OctetTwo.f
  repeat' first
      | (with_reducible exact ih0 _ _ _ _)
      | (with_reducible exact ih1 _ _ _ _)
      | (with_reducible exact ih2 _ _ _ _ _ _ _)
      | (with_reducible exact ih3 _ _ _ _ _ _ _)
      | (with_reducible exact ih4 _ _ _ _ _ _)
      | (with_reducible exact ih5 _ _ _ _ _)
      | (with_reducible exact octet_List.mono _ _)
      | (with_reducible exact octet_Str.mono _ _)
      | (with_reducible exact sinewlaw01_texts.mono _)
      | (with_reducible exact sinewref01_Same.mono _ _ _)
      | (with_reducible exact LeO.refl _)
      | (with_reducible exact LeO.none _)
      | (with_reducible refine LeO.ite ?_ ?_)
      | (with_reducible refine LeO.bind ?_ (fun _ => ?_))
      | exact ih0 _ _ _ _
      | exact ih1 _ _ _ _
      | exact ih2 _ _ _ _ _ _ _
      | exact ih3 _ _ _ _ _ _ _
      | exact ih4 _ _ _ _ _ _
      | exact ih5 _ _ _ _ _
      | exact octet_List.mono _ _
      | exact octet_Str.mono _ _
      | exact sinewlaw01_texts.mono _
      | exact sinewref01_Same.mono _ _ _
      | exact LeO.none _
      | refine LeO.ite ?_ ?_
      | refine LeO.bind ?_ (fun _ => ?_)
set_option maxHeartbeats 8000000 in
set_option maxRecDepth 100000 in
theorem sinewlaw01_OctetTwo.calls (k : Nat) (a0 : ByteArray) (a1 : ByteArray) (A2 : Option Addr) (c2 : Nat) (l2 : List ByteArray) (r : Bool) (w : World) (hr2 : Kd.C Kd.string w A2 l2.length l2) (hc2 : l2.length ≤ c2) (h : sinewlaw01_OctetTwo.f k a0 a1 l2 = some r) :
    Calls Try.prog 11 #[.string a0, .string a1, .slice A2 l2.length c2] w fun e w' => e = .returned (.bool r) ∧ Below w.heap.size w w' := by
  have HR2 := Aside0.mk hr2
  have HC2 := Aside0.mk hc2
  clear hr2 hc2
  have HB := Aside0.mk (Below.refl w.heap.size w)
  have H : (sinewlaw01_OctetTwo.l0 k a0 a1 l2 0 0) = some r := h
  clear h
  have HC4 := Aside0.mk H
  clear H
  go_enter Try.func11, Try.ntmps11
  go_upto_block 0 with (fail)
  go_cut [7] (fun v7 wc => ∃ (kq : Nat) (x7_3 : Int), v7 = .int .i64 x7_3 ∧ Aside0 (sinewlaw01_OctetTwo.j1 kq a0 a1 l2 x7_3 = some r) ∧ Aside0 (kq ≤ k) ∧ Aside0 (Below w.heap.size w wc))
  case first =>
    have H := HC4.out
    clear HC4
    have H' := Aside0.mk H
    clear H
    go_wp2
    go_loopg [7, 8] k (fun kq v7 v8 w' => ∃ (x7_1 : Int) (x8_1 : Int), v7 = .int .i64 x7_1 ∧ v8 = .int .i64 x8_1 ∧ Aside0 (sinewlaw01_OctetTwo.l0 kq a0 a1 l2 x7_1 x8_1 = some r) ∧ Aside0 (kq ≤ k) ∧ Aside0 (Below w.heap.size w w'))
    case atStart => exact ⟨(0), (0), (by first | rfl | (simp; done) | (simp [*]; done) | (simp only [ByteArray.size_append, Int.natCast_add]; rfl)), (by first | rfl | (simp; done) | (simp [*]; done) | (simp only [ByteArray.size_append, Int.natCast_add]; rfl)), H', ⟨Nat.le_refl _⟩, ⟨by repeat (first | (with_reducible first | exact HB.out | apply below_alloc | apply pw_below_drewN | apply below_drew1) | exact HB.out)⟩⟩
    case round =>
      clear H'
      try clear c1
      try clear c2
      try clear p2
      obtain ⟨x7_1, x8_1, rfl, rfl, HA, HK1, HB⟩ := hrel
      cases gk with
      | zero => exact absurd HA.out (by simp [sinewlaw01_OctetTwo.l0])
      | succ k1 =>
        have H := HA.out
        clear HA
        simp only [sinewlaw01_OctetTwo.l0] at H
        by_cases c5 : x8_1 < (l2.length : Int)
        · rw [if_pos c5] at H
          have c5b0 : decide (x8_1 < (l2.length : Int)) = true := decide_eq_true c5
          try (have c5b5 := c5b0; simp only [ByteArray.size_extract, ByteArray.size_append, Int.natCast_add] at c5b5; (try simp only [Int.natCast_one, Int.cast_ofNat_Int] at c5b5))
          clear c5
          (first | rw [c5b0] | (simp only [i64_w, i32_w]; rw [c5b0]) | skip)
          by_cases c6 : x8_1 < 100
          · rw [if_pos c6] at H
            have c6b0 : decide (x8_1 < 100) = true := decide_eq_true c6
            try (have c6b5 := c6b0; simp only [ByteArray.size_extract, ByteArray.size_append, Int.natCast_add] at c6b5; (try simp only [Int.natCast_one, Int.cast_ofNat_Int] at c6b5))
            clear c6
            by_cases c7 : 0 ≤ x8_1
            · rw [if_pos c7] at H
              have c7b0 : decide (0 ≤ x8_1) = true := decide_eq_true c7
              try (have c7b5 := c7b0; simp only [ByteArray.size_extract, ByteArray.size_append, Int.natCast_add] at c7b5; (try simp only [Int.natCast_one, Int.cast_ofNat_Int] at c7b5))
              clear c7
              obtain ⟨ji8, hji8⟩ : ∃ j_ : Int, (mn ((rdOf ByteArray.empty l2 x8_1).size : Int) 2048) = j_ := ⟨_, rfl⟩
              replace H : (sinewlaw01_OctetTwo.l0 k1 a0 a1 l2 (wrap64 (x7_1 + (ji8))) (wrap64 (x8_1 + 1))) = some r := by first | (rw [hji8] at H; exact H) | (simp only [hji8] at H ⊢; exact H)
              have hji8_ : (if 2048 < ((rdOf ByteArray.empty l2 x8_1).size : Int) then 2048 else ((rdOf ByteArray.empty l2 x8_1).size : Int)) = ji8 := hji8
              have H' := Aside0.mk H
              clear H
              have p228 : 0 ≤ (x8_1 : Int) := of_decide_eq_true (by first | (with_reducible assumption) | assumption)
              have q228 : x8_1 < (l2.length : Int) := of_decide_eq_true (by first | (with_reducible assumption) | assumption)
              obtain ⟨ad228, e228, hx228_0⟩ := Kd.at_string HR2.out x8_1 p228 q228
              cases e228
              replace hx228_0 := (HB.out.cell (World.block_lt_of_cell? w _ hx228_0)).trans hx228_0
              replace p228 := eq_true p228
              replace q228 := eq_true q228
              go_wp2
              go_roundg k1
              case measure => have := HK1.out; omega
              case rel => exact ⟨(wrap64 (x7_1 + (ji8))), (wrap64 (x8_1 + 1)), (by first | rfl | (simp; done) | (simp only [← hji8] <;> (first | rfl | simp)) | (simp [*]; done)), (by first | rfl | (simp; done) | (simp [*]; done) | (simp only [ByteArray.size_append, Int.natCast_add]; rfl)), H', ⟨by have := HK1.out; omega⟩, ⟨by repeat (first | (with_reducible first | exact HB.out | apply below_alloc | apply pw_below_drewN | apply below_drew1) | exact HB.out)⟩⟩
            · rw [if_neg c7] at H
              exact absurd H (by simp)
          · rw [if_neg c6] at H
            have c6b0 : decide (x8_1 < 100) = false := decide_eq_false c6
            try (have c6b5 := c6b0; simp only [ByteArray.size_extract, ByteArray.size_append, Int.natCast_add] at c6b5; (try simp only [Int.natCast_one, Int.cast_ofNat_Int] at c6b5))
            clear c6
            have H' := Aside0.mk H
            clear H
            go_wp2
            go_meet
            case rel => exact ⟨_, (x7_1), (by first | rfl | (simp; done) | (simp [*]; done) | (simp only [ByteArray.size_append, Int.natCast_add]; rfl)), H', ⟨by have := HK1.out; first | omega | exact Nat.le_refl _⟩, ⟨by repeat (first | (with_reducible first | exact HB.out | apply below_alloc | apply pw_below_drewN | apply below_drew1) | exact HB.out)⟩⟩
        · rw [if_neg c5] at H
          have c5b0 : decide (x8_1 < (l2.length : Int)) = false := decide_eq_false c5
          try (have c5b5 := c5b0; simp only [ByteArray.size_extract, ByteArray.size_append, Int.natCast_add] at c5b5; (try simp only [Int.natCast_one, Int.cast_ofNat_Int] at c5b5))
          clear c5
          (first | rw [c5b0] | (simp only [i64_w, i32_w]; rw [c5b0]) | skip)
          have H' := Aside0.mk H
          clear H
          go_wp2
          go_meet
          case rel => exact ⟨_, (x7_1), (by first | rfl | (simp; done) | (simp [*]; done) | (simp only [ByteArray.size_append, Int.natCast_add]; rfl)), H', ⟨by have := HK1.out; first | omega | exact Nat.le_refl _⟩, ⟨by repeat (first | (with_reducible first | exact HB.out | apply below_alloc | apply pw_below_drewN | apply below_drew1) | exact HB.out)⟩⟩
  case rest =>
    clear HC4
    try clear c1
    try clear c2
    try clear p2
    try clear q2
    try clear hx2
    try clear c5
    try clear c5b0
    try clear c6
    try clear c6b0
    try clear p6
    try clear c7
    try clear c7b0
    try clear hx228_0
    try clear p2
    try clear p228
    try clear q228
    obtain ⟨kq, x7_3, rfl, HA, HJ3, HB⟩ := hcut
    cases kq with
    | zero => exact absurd HA.out (by simp [sinewlaw01_OctetTwo.j1])
    | succ kj3 =>
      have H := HA.out
      clear HA
      simp only [sinewlaw01_OctetTwo.j1] at H
      have HC9 := Aside0.mk H
      clear H
      go_upto_region 6 with (fail)
      go_cut [59] (fun v59 wc => ∃ (kq : Nat) (x59_8 : Bool), v59 = .bool x59_8 ∧ Aside0 (sinewlaw01_OctetTwo.j2 kq a0 a1 l2 x59_8 = some r) ∧ Aside0 (kq ≤ kj3) ∧ Aside0 (Below w.heap.size w wc))
      case first =>
        have H := HC9.out
        clear HC9
        by_cases c10 : (a0.size : Int) > 1024
        · rw [if_pos c10] at H
          have c10b0 : decide (1024 < (a0.size : Int)) = true := decide_eq_true c10
          try (have c10b5 := c10b0; simp only [ByteArray.size_extract, ByteArray.size_append, Int.natCast_add] at c10b5; (try simp only [Int.natCast_one, Int.cast_ofNat_Int] at c10b5))
          have c10b1 : decide (1024 < a0.size) = true := decide_eq_true (by omega)
          try (have c10b6 := c10b1; simp only [ByteArray.size_extract, ByteArray.size_append, Int.natCast_add] at c10b6; (try simp only [Int.natCast_one, Int.cast_ofNat_Int] at c10b6))
          clear c10
          (first | rw [c10b0] | (simp only [i64_w, i32_w]; rw [c10b0]) | skip)
          have H' := Aside0.mk H
          clear H
          go_wp2
          go_meet
          case rel => exact ⟨_, (true), (by first | rfl | (simp; done) | (simp [*]; done) | (simp only [ByteArray.size_append, Int.natCast_add]; rfl)), H', ⟨by have := HJ3.out; first | omega | exact Nat.le_refl _⟩, ⟨by repeat (first | (with_reducible first | exact HB.out | apply below_alloc | apply pw_below_drewN | apply below_drew1) | exact HB.out)⟩⟩
        · rw [if_neg c10] at H
          have c10b0 : decide (1024 < (a0.size : Int)) = false := decide_eq_false c10
          try (have c10b5 := c10b0; simp only [ByteArray.size_extract, ByteArray.size_append, Int.natCast_add] at c10b5; (try simp only [Int.natCast_one, Int.cast_ofNat_Int] at c10b5))
          have c10b1 : decide (1024 < a0.size) = false := decide_eq_false (by omega)
          try (have c10b6 := c10b1; simp only [ByteArray.size_extract, ByteArray.size_append, Int.natCast_add] at c10b6; (try simp only [Int.natCast_one, Int.cast_ofNat_Int] at c10b6))
          clear c10
          (first | rw [c10b0] | (simp only [i64_w, i32_w]; rw [c10b0]) | skip)
          by_cases c11 : (a1.size : Int) > 1024
          · rw [if_pos c11] at H
            have c11b0 : decide (1024 < (a1.size : Int)) = true := decide_eq_true c11
            try (have c11b5 := c11b0; simp only [ByteArray.size_extract, ByteArray.size_append, Int.natCast_add] at c11b5; (try simp only [Int.natCast_one, Int.cast_ofNat_Int] at c11b5))
            have c11b1 : decide (1024 < a1.size) = true := decide_eq_true (by omega)
            try (have c11b6 := c11b1; simp only [ByteArray.size_extract, ByteArray.size_append, Int.natCast_add] at c11b6; (try simp only [Int.natCast_one, Int.cast_ofNat_Int] at c11b6))
            clear c11
            have H' := Aside0.mk H
            clear H
            go_wp2
            go_meet
            case rel => exact ⟨_, (true), (by first | rfl | (simp; done) | (simp [*]; done) | (simp only [ByteArray.size_append, Int.natCast_add]; rfl)), H', ⟨by have := HJ3.out; first | omega | exact Nat.le_refl _⟩, ⟨by repeat (first | (with_reducible first | exact HB.out | apply below_alloc | apply pw_below_drewN | apply below_drew1) | exact HB.out)⟩⟩
          · rw [if_neg c11] at H
            have c11b0 : decide (1024 < (a1.size : Int)) = false := decide_eq_false c11
            try (have c11b5 := c11b0; simp only [ByteArray.size_extract, ByteArray.size_append, Int.natCast_add] at c11b5; (try simp only [Int.natCast_one, Int.cast_ofNat_Int] at c11b5))
            have c11b1 : decide (1024 < a1.size) = false := decide_eq_false (by omega)
            try (have c11b6 := c11b1; simp only [ByteArray.size_extract, ByteArray.size_append, Int.natCast_add] at c11b6; (try simp only [Int.natCast_one, Int.cast_ofNat_Int] at c11b6))
            clear c11
            by_cases c12 : x7_3 > 1024
            · rw [if_pos c12] at H
              have c12b0 : decide (1024 < x7_3) = true := decide_eq_true c12
              try (have c12b5 := c12b0; simp only [ByteArray.size_extract, ByteArray.size_append, Int.natCast_add] at c12b5; (try simp only [Int.natCast_one, Int.cast_ofNat_Int] at c12b5))
              clear c12
              have H' := Aside0.mk H
              clear H
              go_wp2
              go_meet
              case rel => exact ⟨_, (true), (by first | rfl | (simp; done) | (simp [*]; done) | (simp only [ByteArray.size_append, Int.natCast_add]; rfl)), H', ⟨by have := HJ3.out; first | omega | exact Nat.le_refl _⟩, ⟨by repeat (first | (with_reducible first | exact HB.out | apply below_alloc | apply pw_below_drewN | apply below_drew1) | exact HB.out)⟩⟩
            · rw [if_neg c12] at H
              have c12b0 : decide (1024 < x7_3) = false := decide_eq_false c12
              try (have c12b5 := c12b0; simp only [ByteArray.size_extract, ByteArray.size_append, Int.natCast_add] at c12b5; (try simp only [Int.natCast_one, Int.cast_ofNat_Int] at c12b5))
              clear c12
              have H' := Aside0.mk H
              clear H
              go_wp2
              go_meet
              case rel => exact ⟨_, (decide ((l2.length : Int) > 60)), (by first | rfl | (simp; done) | (simp [*]; done) | (simp only [ByteArray.size_append, Int.natCast_add]; rfl)), H', ⟨by have := HJ3.out; first | omega | exact Nat.le_refl _⟩, ⟨by repeat (first | (with_reducible first | exact HB.out | apply below_alloc | apply pw_below_drewN | apply below_drew1) | exact HB.out)⟩⟩
      case rest =>
        clear HC9
        try clear c1
        try clear c2
        try clear p2
        try clear q2
        try clear hx2
        try clear c5
        try clear c5b0
        try clear c6
        try clear c6b0
        try clear p6
        try clear c7
        try clear c7b0
        try clear c10
        try clear c10b0
        try clear c10b1
        try clear c11
        try clear c11b0
        try clear c11b1
        try clear c12
        try clear c12b0
        try clear hx228_0
        try clear p2
        try clear p228
        try clear p6
        try clear q2
        try clear q228
        obtain ⟨kq, x59_8, rfl, HA, HJ8, HB⟩ := hcut
        cases kq with
        | zero => exact absurd HA.out (by simp [sinewlaw01_OctetTwo.j2])
        | succ kj8 =>
          have H := HA.out
          clear HA
          simp only [sinewlaw01_OctetTwo.j2] at H
          by_cases c13 : x59_8 = true
          · subst c13
            have H1 : ((sinewlaw01_texts.f kj8).bind fun t229 => (some t229)) = some r := by rw [if_pos rfl] at H; exact H
            clear H
            have H := H1
            clear H1
            replace H := Option.bind_eq_some_iff.mp H
            obtain ⟨t229, A140, H⟩ := H
            replace H : (some t229) = some r := H
            have A14 := Aside0.mk A140
            clear A140
            obtain rfl := Option.some.inj H
            go_wp2_with (first | ((with_reducible refine gate_callee (f := 17) rfl ?_); refine goesL_ (some 60) rfl rfl Try.func17 (by kernel_rfl) rfl #[] rfl (by (try simp only [List.map_toArray, List.map_cons, List.map_nil]); first | done | rfl | (simp only [List.length_drop, List.length_take]; rfl)) ?_; (with_reducible refine (sinewlaw01_texts.calls kj8  t229 _ A14.out).mono ?_); rintro e w15 ⟨rfl, hb⟩; refine ⟨_, rfl, ?_⟩; have n0_ := Aside0.mk (below_step (by repeat (first | (with_reducible first | exact HB.out | apply below_alloc | apply pw_below_drewN | apply below_drew1) | exact HB.out)) hb); clear HB; have HB := n0_; clear n0_; (try clear hb); (try clear hb2); (try clear hk); (try clear hi)))
            go_ret
            exact ⟨by first | rfl | (simp [errW_none, errW_some] <;> rfl) | (simp [*, errW_none, errW_some] <;> rfl), by repeat (first | (with_reducible first | exact HB.out | apply below_alloc | apply pw_below_drewN | apply below_drew1) | exact HB.out)⟩
          · replace c13 := Bool.eq_false_iff.mpr c13
            subst c13
            have H1 : ((octet_PutStr.f a0).bind fun bt230 => ((octet_PutStr.f a1).bind fun bt232 => ((octet_PutList.f l2).bind fun bt234 => (if bt230.2 = 0 then (if bt232.2 = 0 then (sinewlaw01_OctetTwo.j3 kj8 a0 a1 l2 bt230.1 bt232.1 bt234.1 (bt234.2 != 0)) else (sinewlaw01_OctetTwo.j3 kj8 a0 a1 l2 bt230.1 bt232.1 bt234.1 true)) else (sinewlaw01_OctetTwo.j3 kj8 a0 a1 l2 bt230.1 bt232.1 bt234.1 true))))) = some r := by rw [if_neg (show ¬ (false = true) by decide)] at H; exact H
            clear H
            have H := H1
            clear H1
            replace H := Option.bind_eq_some_iff.mp H
            obtain ⟨⟨t230, t231⟩, A160, H⟩ := H
            replace H : ((octet_PutStr.f a1).bind fun bt232 => ((octet_PutList.f l2).bind fun bt234 => (if t231 = 0 then (if bt232.2 = 0 then (sinewlaw01_OctetTwo.j3 kj8 a0 a1 l2 t230 bt232.1 bt234.1 (bt234.2 != 0)) else (sinewlaw01_OctetTwo.j3 kj8 a0 a1 l2 t230 bt232.1 bt234.1 true)) else (sinewlaw01_OctetTwo.j3 kj8 a0 a1 l2 t230 bt232.1 bt234.1 true)))) = some r := H
            have A16 := Aside0.mk A160
            clear A160
            replace H := Option.bind_eq_some_iff.mp H
            obtain ⟨⟨t232, t233⟩, A170, H⟩ := H
            replace H : ((octet_PutList.f l2).bind fun bt234 => (if t231 = 0 then (if t233 = 0 then (sinewlaw01_OctetTwo.j3 kj8 a0 a1 l2 t230 t232 bt234.1 (bt234.2 != 0)) else (sinewlaw01_OctetTwo.j3 kj8 a0 a1 l2 t230 t232 bt234.1 true)) else (sinewlaw01_OctetTwo.j3 kj8 a0 a1 l2 t230 t232 bt234.1 true))) = some r := H
            have A17 := Aside0.mk A170
            clear A170
            replace H := Option.bind_eq_some_iff.mp H
            obtain ⟨⟨t234, t235⟩, A180, H⟩ := H
            replace H : (if t231 = 0 then (if t233 = 0 then (sinewlaw01_OctetTwo.j3 kj8 a0 a1 l2 t230 t232 t234 (t235 != 0)) else (sinewlaw01_OctetTwo.j3 kj8 a0 a1 l2 t230 t232 t234 true)) else (sinewlaw01_OctetTwo.j3 kj8 a0 a1 l2 t230 t232 t234 true)) = some r := H
            have A18 := Aside0.mk A180
            clear A180
            have HC19 := Aside0.mk H
            clear H
            go_upto_region 11 with (first | ((with_reducible refine gate_callee (f := 20) rfl ?_); refine goesL_ (some 63) rfl rfl Try.func20 (by kernel_rfl) rfl #[.string a0] rfl (by (try simp only [List.map_toArray, List.map_cons, List.map_nil]); first | done | rfl | (simp only [List.length_drop, List.length_take]; rfl)) ?_; (with_reducible refine (octet_PutStr.calls a0 t230 t231 _ A16.out).mono ?_); rintro e w20 ⟨rfl, hb⟩; refine ⟨_, rfl, ?_⟩; have n0_ := Aside0.mk (below_step (by repeat (first | (with_reducible first | exact HB.out | apply below_alloc | apply pw_below_drewN | apply below_drew1) | exact HB.out)) hb); clear HB; have HB := n0_; clear n0_; (try clear hb); (try clear hb2); (try clear hk); (try clear hi)) | ((with_reducible refine gate_callee (f := 20) rfl ?_); refine goesL_ (some 68) rfl rfl Try.func20 (by kernel_rfl) rfl #[.string a1] rfl (by (try simp only [List.map_toArray, List.map_cons, List.map_nil]); first | done | rfl | (simp only [List.length_drop, List.length_take]; rfl)) ?_; (with_reducible refine (octet_PutStr.calls a1 t232 t233 _ A17.out).mono ?_); rintro e w21 ⟨rfl, hb⟩; refine ⟨_, rfl, ?_⟩; have n0_ := Aside0.mk (below_step (by repeat (first | (with_reducible first | exact HB.out | apply below_alloc | apply pw_below_drewN | apply below_drew1) | exact HB.out)) hb); clear HB; have HB := n0_; clear n0_; (try clear hb); (try clear hb2); (try clear hk); (try clear hi)) | ((with_reducible refine gate_callee (f := 26) rfl ?_); refine goesL_ (some 73) rfl rfl Try.func26 (by kernel_rfl) rfl #[.slice A2 l2.length c2] rfl (by (try simp only [List.map_toArray, List.map_cons, List.map_nil]); first | done | rfl | (simp only [List.length_drop, List.length_take]; rfl)) ?_; (with_reducible refine (octet_PutList.calls _ _ l2 t234 t235 _ ?side1 ?side2 A18.out).mono ?_); (case side1 => repeat (first | exact (Kd.C_below HR2.out HB.out) | (with_reducible refine Kd.C_alloc ?_ _) | (with_reducible refine Kd.C_drewN ?_ _) | (with_reducible refine Kd.C_drew ?_))); (case side2 => exact HC2.out); rintro e w22 ⟨rfl, hb⟩; refine ⟨_, rfl, ?_⟩; have n0_ := Aside0.mk (below_step (by repeat (first | (with_reducible first | exact HB.out | apply below_alloc | apply pw_below_drewN | apply below_drew1) | exact HB.out)) hb); clear HB; have HB := n0_; clear n0_; (try clear hb); (try clear hb2); (try clear hk); (try clear hi)))
            (try simp only [Act.put, List.setIfInBounds_toArray, List.set_cons_zero, List.set_cons_succ])
            go_cut [85] (fun v85 wc => ∃ (kq : Nat) (x85_18 : Bool), v85 = .bool x85_18 ∧ Aside0 (sinewlaw01_OctetTwo.j3 kq a0 a1 l2 t230 t232 t234 x85_18 = some r) ∧ Aside0 (kq ≤ kj8) ∧ Aside0 (Below w.heap.size w wc))
            case first =>
              have H := HC19.out
              clear HC19
              by_cases c23 : t231 = 0
              · rw [if_pos c23] at H
                have c23b0 : (t231 == 0) = true := beq_iff_eq.mpr c23
                try (have c23b5 := c23b0; simp only [ByteArray.size_extract, ByteArray.size_append, Int.natCast_add] at c23b5; (try simp only [Int.natCast_one, Int.cast_ofNat_Int] at c23b5))
                have c23b1 : (t231 != 0) = false := bne_eq_false_iff_eq.mpr c23
                try (have c23b6 := c23b1; simp only [ByteArray.size_extract, ByteArray.size_append, Int.natCast_add] at c23b6; (try simp only [Int.natCast_one, Int.cast_ofNat_Int] at c23b6))
                clear c23
                (first | rw [c23b0] | (simp only [i64_w, i32_w]; rw [c23b0]) | skip)
                by_cases c24 : t233 = 0
                · rw [if_pos c24] at H
                  have c24b0 : (t233 == 0) = true := beq_iff_eq.mpr c24
                  try (have c24b5 := c24b0; simp only [ByteArray.size_extract, ByteArray.size_append, Int.natCast_add] at c24b5; (try simp only [Int.natCast_one, Int.cast_ofNat_Int] at c24b5))
                  have c24b1 : (t233 != 0) = false := bne_eq_false_iff_eq.mpr c24
                  try (have c24b6 := c24b1; simp only [ByteArray.size_extract, ByteArray.size_append, Int.natCast_add] at c24b6; (try simp only [Int.natCast_one, Int.cast_ofNat_Int] at c24b6))
                  clear c24
                  have H' := Aside0.mk H
                  clear H
                  go_wp2
                  go_meet
                  case rel => exact ⟨_, ((t235 != 0)), (by first | rfl | (simp; done) | (simp [*]; done) | (simp only [ByteArray.size_append, Int.natCast_add]; rfl)), H', ⟨by have := HJ3.out; have := HJ8.out; first | omega | exact Nat.le_refl _⟩, ⟨by repeat (first | (with_reducible first | exact HB.out | apply below_alloc | apply pw_below_drewN | apply below_drew1) | exact HB.out)⟩⟩
                · rw [if_neg c24] at H
                  have c24b0 : (t233 == 0) = false := beq_eq_false_iff_ne.mpr c24
                  try (have c24b5 := c24b0; simp only [ByteArray.size_extract, ByteArray.size_append, Int.natCast_add] at c24b5; (try simp only [Int.natCast_one, Int.cast_ofNat_Int] at c24b5))
                  have c24b1 : (t233 != 0) = true := bne_iff_ne.mpr c24
                  try (have c24b6 := c24b1; simp only [ByteArray.size_extract, ByteArray.size_append, Int.natCast_add] at c24b6; (try simp only [Int.natCast_one, Int.cast_ofNat_Int] at c24b6))
                  have H' := Aside0.mk H
                  clear H
                  go_wp2
                  go_meet
                  case rel => exact ⟨_, (true), (by first | rfl | (simp; done) | (simp [*]; done) | (simp only [ByteArray.size_append, Int.natCast_add]; rfl)), H', ⟨by have := HJ3.out; have := HJ8.out; first | omega | exact Nat.le_refl _⟩, ⟨by repeat (first | (with_reducible first | exact HB.out | apply below_alloc | apply pw_below_drewN | apply below_drew1) | exact HB.out)⟩⟩
              · rw [if_neg c23] at H
                have c23b0 : (t231 == 0) = false := beq_eq_false_iff_ne.mpr c23
                try (have c23b5 := c23b0; simp only [ByteArray.size_extract, ByteArray.size_append, Int.natCast_add] at c23b5; (try simp only [Int.natCast_one, Int.cast_ofNat_Int] at c23b5))
                have c23b1 : (t231 != 0) = true := bne_iff_ne.mpr c23
                try (have c23b6 := c23b1; simp only [ByteArray.size_extract, ByteArray.size_append, Int.natCast_add] at c23b6; (try simp only [Int.natCast_one, Int.cast_ofNat_Int] at c23b6))
                (first | rw [c23b0] | (simp only [i64_w, i32_w]; rw [c23b0]) | skip)
                have H' := Aside0.mk H
                clear H
                go_wp2
                go_meet
                case rel => exact ⟨_, (true), (by first | rfl | (simp; done) | (simp [*]; done) | (simp only [ByteArray.size_append, Int.natCast_add]; rfl)), H', ⟨by have := HJ3.out; have := HJ8.out; first | omega | exact Nat.le_refl _⟩, ⟨by repeat (first | (with_reducible first | exact HB.out | apply below_alloc | apply pw_below_drewN | apply below_drew1) | exact HB.out)⟩⟩
            case rest =>
              clear HC19
              try clear c1
              try clear c2
              try clear p2
              try clear q2
              try clear hx2
              try clear c5
              try clear c5b0
              try clear c6
              try clear c6b0
              try clear p6
              try clear c7
              try clear c7b0
              try clear c10
              try clear c10b0
              try clear c10b1
              try clear c11
              try clear c11b0
              try clear c11b1
              try clear c12
              try clear c12b0
              try clear c13
              try clear c17
              try clear c20
              try clear p22
              try clear q22
              try clear hx22
              try clear c23
              try clear c23b0
              try clear c23b1
              try clear c24
              try clear c24b0
              try clear c24b1
              try clear hx228_0
              try clear p2
              try clear p228
              try clear p6
              try clear q2
              try clear q228
              obtain ⟨kq, x85_18, rfl, HA, HJ18, HB⟩ := hcut
              cases kq with
              | zero => exact absurd HA.out (by simp [sinewlaw01_OctetTwo.j3])
              | succ kj18 =>
                have H := HA.out
                clear HA
                simp only [sinewlaw01_OctetTwo.j3] at H
                by_cases c25 : x85_18 = true
                · subst c25
                  have H1 : (some false) = some r := by rw [if_pos rfl] at H; exact H
                  clear H
                  have H := H1
                  clear H1
                  obtain rfl := Option.some.inj H
                  go_wp2
                  go_ret
                  exact ⟨by first | rfl | (simp [errW_none, errW_some] <;> rfl) | (simp [*, errW_none, errW_some] <;> rfl), by repeat (first | (with_reducible first | exact HB.out | apply below_alloc | apply pw_below_drewN | apply below_drew1) | exact HB.out)⟩
                · replace c25 := Bool.eq_false_iff.mpr c25
                  subst c25
                  have H1 : (if t230.size + t232.size ≤ 9223372036854775807 then (if (t230 ++ t232).size + t234.size ≤ 9223372036854775807 then (if ((t230 ++ t232) ++ t234).size + t230.size ≤ 9223372036854775807 then ((octet_Str.f kj18 (((t230 ++ t232) ++ t234) ++ t230)).bind fun bt236 => (if bt236.1.toList = a0.toList then (if bt236.2.1 = (t230.size : Int) then (sinewlaw01_OctetTwo.j4 kj18 a1 l2 t232 t234 (((t230 ++ t232) ++ t234) ++ t230) bt236.2.1 (bt236.2.2 != 0)) else (sinewlaw01_OctetTwo.j4 kj18 a1 l2 t232 t234 (((t230 ++ t232) ++ t234) ++ t230) bt236.2.1 true)) else (sinewlaw01_OctetTwo.j4 kj18 a1 l2 t232 t234 (((t230 ++ t232) ++ t234) ++ t230) bt236.2.1 true))) else (none)) else (none)) else (none)) = some r := by rw [if_neg (show ¬ (false = true) by decide)] at H; exact H
                  clear H
                  have H := H1
                  clear H1
                  by_cases c26 : t230.size + t232.size ≤ 9223372036854775807
                  · rw [if_pos c26] at H
                    have c26b0 := eq_true c26
                    try (have c26b5 := c26b0; simp only [ByteArray.size_extract, ByteArray.size_append, Int.natCast_add] at c26b5; (try simp only [Int.natCast_one, Int.cast_ofNat_Int] at c26b5))
                    have c26b1 : decide (t230.size + t232.size ≤ 9223372036854775807) = true := decide_eq_true c26
                    try (have c26b6 := c26b1; simp only [ByteArray.size_extract, ByteArray.size_append, Int.natCast_add] at c26b6; (try simp only [Int.natCast_one, Int.cast_ofNat_Int] at c26b6))
                    try have c26b2 : (9223372036854775807 < t230.size + t232.size) = False := eq_false (Nat.not_lt.2 c26)
                    try (have c26b7 := c26b2; simp only [ByteArray.size_extract, ByteArray.size_append, Int.natCast_add] at c26b7; (try simp only [Int.natCast_one, Int.cast_ofNat_Int] at c26b7))
                    by_cases c27 : (t230 ++ t232).size + t234.size ≤ 9223372036854775807
                    · rw [if_pos c27] at H
                      have c27b0 := eq_true c27
                      try (have c27b5 := c27b0; simp only [ByteArray.size_extract, ByteArray.size_append, Int.natCast_add] at c27b5; (try simp only [Int.natCast_one, Int.cast_ofNat_Int] at c27b5))
                      have c27b1 : decide ((t230 ++ t232).size + t234.size ≤ 9223372036854775807) = true := decide_eq_true c27
                      try (have c27b6 := c27b1; simp only [ByteArray.size_extract, ByteArray.size_append, Int.natCast_add] at c27b6; (try simp only [Int.natCast_one, Int.cast_ofNat_Int] at c27b6))
                      try have c27b2 : (9223372036854775807 < (t230 ++ t232).size + t234.size) = False := eq_false (Nat.not_lt.2 c27)
                      try (have c27b7 := c27b2; simp only [ByteArray.size_extract, ByteArray.size_append, Int.natCast_add] at c27b7; (try simp only [Int.natCast_one, Int.cast_ofNat_Int] at c27b7))
                      by_cases c28 : ((t230 ++ t232) ++ t234).size + t230.size ≤ 9223372036854775807
                      · rw [if_pos c28] at H
                        have c28b0 := eq_true c28
                        try (have c28b5 := c28b0; simp only [ByteArray.size_extract, ByteArray.size_append, Int.natCast_add] at c28b5; (try simp only [Int.natCast_one, Int.cast_ofNat_Int] at c28b5))
                        have c28b1 : decide (((t230 ++ t232) ++ t234).size + t230.size ≤ 9223372036854775807) = true := decide_eq_true c28
                        try (have c28b6 := c28b1; simp only [ByteArray.size_extract, ByteArray.size_append, Int.natCast_add] at c28b6; (try simp only [Int.natCast_one, Int.cast_ofNat_Int] at c28b6))
                        try have c28b2 : (9223372036854775807 < ((t230 ++ t232) ++ t234).size + t230.size) = False := eq_false (Nat.not_lt.2 c28)
                        try (have c28b7 := c28b2; simp only [ByteArray.size_extract, ByteArray.size_append, Int.natCast_add] at c28b7; (try simp only [Int.natCast_one, Int.cast_ofNat_Int] at c28b7))
                        replace H := Option.bind_eq_some_iff.mp H
                        obtain ⟨⟨t236, t237, t238⟩, A290, H⟩ := H
                        replace H : (if t236.toList = a0.toList then (if t237 = (t230.size : Int) then (sinewlaw01_OctetTwo.j4 kj18 a1 l2 t232 t234 (((t230 ++ t232) ++ t234) ++ t230) t237 (t238 != 0)) else (sinewlaw01_OctetTwo.j4 kj18 a1 l2 t232 t234 (((t230 ++ t232) ++ t234) ++ t230) t237 true)) else (sinewlaw01_OctetTwo.j4 kj18 a1 l2 t232 t234 (((t230 ++ t232) ++ t234) ++ t230) t237 true)) = some r := H
                        have A29 := Aside0.mk A290
                        clear A290
                        have HC30 := Aside0.mk H
                        clear H
                        go_upto_region 15 with (first | ((with_reducible refine gate_callee (f := 18) rfl ?_); refine goesL_ (some 95) rfl rfl Try.func18 (by kernel_rfl) rfl #[.string (((t230 ++ t232) ++ t234) ++ t230)] rfl (by (try simp only [List.map_toArray, List.map_cons, List.map_nil]); first | done | rfl | (simp only [List.length_drop, List.length_take]; rfl)) ?_; (with_reducible refine (octet_Str.calls kj18 (((t230 ++ t232) ++ t234) ++ t230) t236 t237 t238 _ A29.out).mono ?_); rintro e w' ⟨rfl, ⟨nd, rfl⟩⟩; refine ⟨_, rfl, ?_⟩))
                        (try simp only [Act.put, List.setIfInBounds_toArray, List.set_cons_zero, List.set_cons_succ])
                        go_cut [111] (fun v111 wc => ∃ (kq : Nat) (x111_29 : Bool), v111 = .bool x111_29 ∧ Aside0 (sinewlaw01_OctetTwo.j4 kq a1 l2 t232 t234 (((t230 ++ t232) ++ t234) ++ t230) t237 x111_29 = some r) ∧ Aside0 (kq ≤ kj18) ∧ Aside0 (Below w.heap.size w wc))
                        case first =>
                          have H := HC30.out
                          clear HC30
                          by_cases c31 : t236.toList = a0.toList
                          · rw [if_pos c31] at H
                            have c31b0 : (t236.toList == a0.toList) = true := beq_iff_eq.mpr c31
                            try (have c31b5 := c31b0; simp only [ByteArray.size_extract, ByteArray.size_append, Int.natCast_add] at c31b5; (try simp only [Int.natCast_one, Int.cast_ofNat_Int] at c31b5))
                            have c31b1 : (t236.toList != a0.toList) = false := bne_eq_false_iff_eq.mpr c31
                            try (have c31b6 := c31b1; simp only [ByteArray.size_extract, ByteArray.size_append, Int.natCast_add] at c31b6; (try simp only [Int.natCast_one, Int.cast_ofNat_Int] at c31b6))
                            clear c31
                            (first | rw [c31b0] | (simp only [i64_w, i32_w]; rw [c31b0]) | skip)
                            by_cases c32 : t237 = (t230.size : Int)
                            · rw [if_pos c32] at H
                              have c32b0 : (t237 == (t230.size : Int)) = true := beq_iff_eq.mpr c32
                              try (have c32b5 := c32b0; simp only [ByteArray.size_extract, ByteArray.size_append, Int.natCast_add] at c32b5; (try simp only [Int.natCast_one, Int.cast_ofNat_Int] at c32b5))
                              have c32b1 : (t237 != (t230.size : Int)) = false := bne_eq_false_iff_eq.mpr c32
                              try (have c32b6 := c32b1; simp only [ByteArray.size_extract, ByteArray.size_append, Int.natCast_add] at c32b6; (try simp only [Int.natCast_one, Int.cast_ofNat_Int] at c32b6))
                              clear c32
                              have H' := Aside0.mk H
                              clear H
                              go_wp2
                              go_meet
                              case rel => exact ⟨_, ((t238 != 0)), (by first | rfl | (simp; done) | (simp [*]; done) | (simp only [ByteArray.size_append, Int.natCast_add]; rfl)), H', ⟨by have := HJ3.out; have := HJ8.out; have := HJ18.out; first | omega | exact Nat.le_refl _⟩, ⟨by repeat (first | (with_reducible first | exact HB.out | apply below_alloc | apply pw_below_drewN | apply below_drew1) | exact HB.out)⟩⟩
                            · rw [if_neg c32] at H
                              have c32b0 : (t237 == (t230.size : Int)) = false := beq_eq_false_iff_ne.mpr c32
                              try (have c32b5 := c32b0; simp only [ByteArray.size_extract, ByteArray.size_append, Int.natCast_add] at c32b5; (try simp only [Int.natCast_one, Int.cast_ofNat_Int] at c32b5))
                              have c32b1 : (t237 != (t230.size : Int)) = true := bne_iff_ne.mpr c32
                              try (have c32b6 := c32b1; simp only [ByteArray.size_extract, ByteArray.size_append, Int.natCast_add] at c32b6; (try simp only [Int.natCast_one, Int.cast_ofNat_Int] at c32b6))
                              have H' := Aside0.mk H
                              clear H
                              go_wp2
                              go_meet
                              case rel => exact ⟨_, (true), (by first | rfl | (simp; done) | (simp [*]; done) | (simp only [ByteArray.size_append, Int.natCast_add]; rfl)), H', ⟨by have := HJ3.out; have := HJ8.out; have := HJ18.out; first | omega | exact Nat.le_refl _⟩, ⟨by repeat (first | (with_reducible first | exact HB.out | apply below_alloc | apply pw_below_drewN | apply below_drew1) | exact HB.out)⟩⟩
                          · rw [if_neg c31] at H
                            have c31b0 : (t236.toList == a0.toList) = false := beq_eq_false_iff_ne.mpr c31
                            try (have c31b5 := c31b0; simp only [ByteArray.size_extract, ByteArray.size_append, Int.natCast_add] at c31b5; (try simp only [Int.natCast_one, Int.cast_ofNat_Int] at c31b5))
                            have c31b1 : (t236.toList != a0.toList) = true := bne_iff_ne.mpr c31
                            try (have c31b6 := c31b1; simp only [ByteArray.size_extract, ByteArray.size_append, Int.natCast_add] at c31b6; (try simp only [Int.natCast_one, Int.cast_ofNat_Int] at c31b6))
                            (first | rw [c31b0] | (simp only [i64_w, i32_w]; rw [c31b0]) | skip)
                            have H' := Aside0.mk H
                            clear H
                            go_wp2
                            go_meet
                            case rel => exact ⟨_, (true), (by first | rfl | (simp; done) | (simp [*]; done) | (simp only [ByteArray.size_append, Int.natCast_add]; rfl)), H', ⟨by have := HJ3.out; have := HJ8.out; have := HJ18.out; first | omega | exact Nat.le_refl _⟩, ⟨by repeat (first | (with_reducible first | exact HB.out | apply below_alloc | apply pw_below_drewN | apply below_drew1) | exact HB.out)⟩⟩
                        case rest =>
                          clear HC30
                          try clear c1
                          try clear c2
                          try clear p2
                          try clear q2
                          try clear hx2
                          try clear c3
                          try clear c5
                          try clear c5b0
                          try clear c6
                          try clear c6b0
                          try clear p6
                          try clear c7
                          try clear c7b0
                          try clear c10
                          try clear c10b0
                          try clear c10b1
                          try clear c11
                          try clear c11b0
                          try clear c11b1
                          try clear c12
                          try clear c12b0
                          try clear c13
                          try clear c17
                          try clear c18
                          try clear c20
                          try clear p22
                          try clear q22
                          try clear hx22
                          try clear c23
                          try clear c23b0
                          try clear c23b1
                          try clear c24
                          try clear c24b0
                          try clear c24b1
                          try clear c25
                          try clear c26
                          try clear c26b0
                          try clear c26b1
                          try clear c26b2
                          try clear c27
                          try clear c27b0
                          try clear c27b1
                          try clear c27b2
                          try clear c28
                          try clear c28b0
                          try clear c28b1
                          try clear c28b2
                          try clear c31
                          try clear c31b0
                          try clear c31b1
                          try clear c32
                          try clear c32b0
                          try clear c32b1
                          try clear hx228_0
                          try clear p2
                          try clear p22
                          try clear p228
                          try clear p6
                          try clear q2
                          try clear q22
                          try clear q228
                          obtain ⟨kq, x111_29, rfl, HA, HJ29, HB⟩ := hcut
                          cases kq with
                          | zero => exact absurd HA.out (by simp [sinewlaw01_OctetTwo.j4])
                          | succ kj29 =>
                            have H := HA.out
                            clear HA
                            simp only [sinewlaw01_OctetTwo.j4] at H
                            obtain ⟨AL, hAL⟩ : ∃ y, (((t230 ++ t232) ++ t234) ++ t230) = y := ⟨_, rfl⟩
                            rw [hAL] at H ⊢
                            by_cases c33 : x111_29 = true
                            · subst c33
                              have H1 : (some false) = some r := by rw [if_pos rfl] at H; exact H
                              clear H
                              have H := H1
                              clear H1
                              obtain rfl := Option.some.inj H
                              go_wp2
                              go_ret
                              exact ⟨by first | rfl | (simp [errW_none, errW_some] <;> rfl) | (simp [*, errW_none, errW_some] <;> rfl), by repeat (first | (with_reducible first | exact HB.out | apply below_alloc | apply pw_below_drewN | apply below_drew1) | exact HB.out)⟩
                            · replace c33 := Bool.eq_false_iff.mpr c33
                              subst c33
                              have H1 : (if 0 ≤ t237 then (if t237 ≤ (AL.size : Int) then ((octet_Str.f kj29 (AL.extract (t237 : Int).toNat AL.size)).bind fun bt239 => (if bt239.1.toList = a1.toList then (if bt239.2.1 = (t232.size : Int) then (sinewlaw01_OctetTwo.j5 kj29 l2 t234 AL t237 bt239.2.1 (bt239.2.2 != 0)) else (sinewlaw01_OctetTwo.j5 kj29 l2 t234 AL t237 bt239.2.1 true)) else (sinewlaw01_OctetTwo.j5 kj29 l2 t234 AL t237 bt239.2.1 true))) else (none)) else (none)) = some r := by rw [if_neg (show ¬ (false = true) by decide)] at H; exact H
                              clear H
                              have H := H1
                              clear H1
                              by_cases c34 : 0 ≤ t237
                              · rw [if_pos c34] at H
                                have c34b0 := eq_true c34
                                try (have c34b5 := c34b0; simp only [ByteArray.size_extract, ByteArray.size_append, Int.natCast_add] at c34b5; (try simp only [Int.natCast_one, Int.cast_ofNat_Int] at c34b5))
                                have c34b1 : decide (0 ≤ t237) = true := decide_eq_true c34
                                try (have c34b6 := c34b1; simp only [ByteArray.size_extract, ByteArray.size_append, Int.natCast_add] at c34b6; (try simp only [Int.natCast_one, Int.cast_ofNat_Int] at c34b6))
                                clear c34
                                by_cases c35 : t237 ≤ (AL.size : Int)
                                · rw [if_pos c35] at H
                                  have c35b0 := eq_true c35
                                  try (have c35b5 := c35b0; simp only [ByteArray.size_extract, ByteArray.size_append, Int.natCast_add] at c35b5; (try simp only [Int.natCast_one, Int.cast_ofNat_Int] at c35b5))
                                  have c35b1 : decide (t237 ≤ (AL.size : Int)) = true := decide_eq_true c35
                                  try (have c35b6 := c35b1; simp only [ByteArray.size_extract, ByteArray.size_append, Int.natCast_add] at c35b6; (try simp only [Int.natCast_one, Int.cast_ofNat_Int] at c35b6))
                                  replace H := Option.bind_eq_some_iff.mp H
                                  obtain ⟨⟨t239, t240, t241⟩, A360, H⟩ := H
                                  replace H : (if t239.toList = a1.toList then (if t240 = (t232.size : Int) then (sinewlaw01_OctetTwo.j5 kj29 l2 t234 AL t237 t240 (t241 != 0)) else (sinewlaw01_OctetTwo.j5 kj29 l2 t234 AL t237 t240 true)) else (sinewlaw01_OctetTwo.j5 kj29 l2 t234 AL t237 t240 true)) = some r := H
                                  have A36 := Aside0.mk A360
                                  clear A360
                                  have HC37 := Aside0.mk H
                                  clear H
                                  go_upto_region 18 with (first | ((with_reducible refine gate_callee (f := 18) rfl ?_); refine goesL_ (some 116) rfl rfl Try.func18 (by kernel_rfl) rfl #[.string (AL.extract (t237 : Int).toNat AL.size)] rfl (by (try simp only [List.map_toArray, List.map_cons, List.map_nil]); first | done | rfl | (simp only [List.length_drop, List.length_take]; rfl)) ?_; (with_reducible refine (octet_Str.calls kj29 (AL.extract (t237 : Int).toNat AL.size) t239 t240 t241 _ A36.out).mono ?_); rintro e w' ⟨rfl, ⟨nd, rfl⟩⟩; refine ⟨_, rfl, ?_⟩))
                                  (try simp only [Act.put, List.setIfInBounds_toArray, List.set_cons_zero, List.set_cons_succ])
                                  go_cut [132] (fun v132 wc => ∃ (kq : Nat) (x132_36 : Bool), v132 = .bool x132_36 ∧ Aside0 (sinewlaw01_OctetTwo.j5 kq l2 t234 AL t237 t240 x132_36 = some r) ∧ Aside0 (kq ≤ kj29) ∧ Aside0 (Below w.heap.size w wc))
                                  case first =>
                                    have H := HC37.out
                                    clear HC37
                                    by_cases c38 : t239.toList = a1.toList
                                    · rw [if_pos c38] at H
                                      have c38b0 : (t239.toList == a1.toList) = true := beq_iff_eq.mpr c38
                                      try (have c38b5 := c38b0; simp only [ByteArray.size_extract, ByteArray.size_append, Int.natCast_add] at c38b5; (try simp only [Int.natCast_one, Int.cast_ofNat_Int] at c38b5))
                                      have c38b1 : (t239.toList != a1.toList) = false := bne_eq_false_iff_eq.mpr c38
                                      try (have c38b6 := c38b1; simp only [ByteArray.size_extract, ByteArray.size_append, Int.natCast_add] at c38b6; (try simp only [Int.natCast_one, Int.cast_ofNat_Int] at c38b6))
                                      clear c38
                                      (first | rw [c38b0] | (simp only [i64_w, i32_w]; rw [c38b0]) | skip)
                                      by_cases c39 : t240 = (t232.size : Int)
                                      · rw [if_pos c39] at H
                                        have c39b0 : (t240 == (t232.size : Int)) = true := beq_iff_eq.mpr c39
                                        try (have c39b5 := c39b0; simp only [ByteArray.size_extract, ByteArray.size_append, Int.natCast_add] at c39b5; (try simp only [Int.natCast_one, Int.cast_ofNat_Int] at c39b5))
                                        have c39b1 : (t240 != (t232.size : Int)) = false := bne_eq_false_iff_eq.mpr c39
                                        try (have c39b6 := c39b1; simp only [ByteArray.size_extract, ByteArray.size_append, Int.natCast_add] at c39b6; (try simp only [Int.natCast_one, Int.cast_ofNat_Int] at c39b6))
                                        clear c39
                                        have H' := Aside0.mk H
                                        clear H
                                        go_wp2
                                        go_meet
                                        case rel => exact ⟨_, ((t241 != 0)), (by first | rfl | (simp; done) | (simp [*]; done) | (simp only [ByteArray.size_append, Int.natCast_add]; rfl)), H', ⟨by have := HJ3.out; have := HJ8.out; have := HJ18.out; have := HJ29.out; first | omega | exact Nat.le_refl _⟩, ⟨by repeat (first | (with_reducible first | exact HB.out | apply below_alloc | apply pw_below_drewN | apply below_drew1) | exact HB.out)⟩⟩
                                      · rw [if_neg c39] at H
                                        have c39b0 : (t240 == (t232.size : Int)) = false := beq_eq_false_iff_ne.mpr c39
                                        try (have c39b5 := c39b0; simp only [ByteArray.size_extract, ByteArray.size_append, Int.natCast_add] at c39b5; (try simp only [Int.natCast_one, Int.cast_ofNat_Int] at c39b5))
                                        have c39b1 : (t240 != (t232.size : Int)) = true := bne_iff_ne.mpr c39
                                        try (have c39b6 := c39b1; simp only [ByteArray.size_extract, ByteArray.size_append, Int.natCast_add] at c39b6; (try simp only [Int.natCast_one, Int.cast_ofNat_Int] at c39b6))
                                        have H' := Aside0.mk H
                                        clear H
                                        go_wp2
                                        go_meet
                                        case rel => exact ⟨_, (true), (by first | rfl | (simp; done) | (simp [*]; done) | (simp only [ByteArray.size_append, Int.natCast_add]; rfl)), H', ⟨by have := HJ3.out; have := HJ8.out; have := HJ18.out; have := HJ29.out; first | omega | exact Nat.le_refl _⟩, ⟨by repeat (first | (with_reducible first | exact HB.out | apply below_alloc | apply pw_below_drewN | apply below_drew1) | exact HB.out)⟩⟩
                                    · rw [if_neg c38] at H
                                      have c38b0 : (t239.toList == a1.toList) = false := beq_eq_false_iff_ne.mpr c38
                                      try (have c38b5 := c38b0; simp only [ByteArray.size_extract, ByteArray.size_append, Int.natCast_add] at c38b5; (try simp only [Int.natCast_one, Int.cast_ofNat_Int] at c38b5))
                                      have c38b1 : (t239.toList != a1.toList) = true := bne_iff_ne.mpr c38
                                      try (have c38b6 := c38b1; simp only [ByteArray.size_extract, ByteArray.size_append, Int.natCast_add] at c38b6; (try simp only [Int.natCast_one, Int.cast_ofNat_Int] at c38b6))
                                      (first | rw [c38b0] | (simp only [i64_w, i32_w]; rw [c38b0]) | skip)
                                      have H' := Aside0.mk H
                                      clear H
                                      go_wp2
                                      go_meet
                                      case rel => exact ⟨_, (true), (by first | rfl | (simp; done) | (simp [*]; done) | (simp only [ByteArray.size_append, Int.natCast_add]; rfl)), H', ⟨by have := HJ3.out; have := HJ8.out; have := HJ18.out; have := HJ29.out; first | omega | exact Nat.le_refl _⟩, ⟨by repeat (first | (with_reducible first | exact HB.out | apply below_alloc | apply pw_below_drewN | apply below_drew1) | exact HB.out)⟩⟩
                                  case rest =>
                                    clear HC37
                                    try clear c1
                                    try clear c2
                                    try clear p2
                                    try clear q2
                                    try clear hx2
                                    try clear c3
                                    try clear c5
                                    try clear c5b0
                                    try clear c6
                                    try clear c6b0
                                    try clear p6
                                    try clear c7
                                    try clear c7b0
                                    try clear c10
                                    try clear c10b0
                                    try clear c10b1
                                    try clear c11
                                    try clear c11b0
                                    try clear c11b1
                                    try clear c12
                                    try clear c12b0
                                    try clear c13
                                    try clear c17
                                    try clear c18
                                    try clear c20
                                    try clear p22
                                    try clear q22
                                    try clear hx22
                                    try clear c23
                                    try clear c23b0
                                    try clear c23b1
                                    try clear c24
                                    try clear c24b0
                                    try clear c24b1
                                    try clear c25
                                    try clear c26
                                    try clear c26b0
                                    try clear c26b1
                                    try clear c26b2
                                    try clear c27
                                    try clear c27b0
                                    try clear c27b1
                                    try clear c27b2
                                    try clear c28
                                    try clear c28b0
                                    try clear c28b1
                                    try clear c28b2
                                    try clear c31
                                    try clear c31b0
                                    try clear c31b1
                                    try clear c32
                                    try clear c32b0
                                    try clear c32b1
                                    try clear c33
                                    try clear c34
                                    try clear c34b0
                                    try clear c34b1
                                    try clear c35
                                    try clear c35b0
                                    try clear c35b1
                                    try clear c38
                                    try clear c38b0
                                    try clear c38b1
                                    try clear c39
                                    try clear c39b0
                                    try clear c39b1
                                    try clear hx228_0
                                    try clear p2
                                    try clear p22
                                    try clear p228
                                    try clear p6
                                    try clear q2
                                    try clear q22
                                    try clear q228
                                    obtain ⟨kq, x132_36, rfl, HA, HJ36, HB⟩ := hcut
                                    cases kq with
                                    | zero => exact absurd HA.out (by simp [sinewlaw01_OctetTwo.j5])
                                    | succ kj36 =>
                                      have H := HA.out
                                      clear HA
                                      simp only [sinewlaw01_OctetTwo.j5] at H
                                      by_cases c40 : x132_36 = true
                                      · subst c40
                                        have H1 : (some false) = some r := by rw [if_pos rfl] at H; exact H
                                        clear H
                                        have H := H1
                                        clear H1
                                        obtain rfl := Option.some.inj H
                                        go_wp2
                                        go_ret
                                        exact ⟨by first | rfl | (simp [errW_none, errW_some] <;> rfl) | (simp [*, errW_none, errW_some] <;> rfl), by repeat (first | (with_reducible first | exact HB.out | apply below_alloc | apply pw_below_drewN | apply below_drew1) | exact HB.out)⟩
                                      · replace c40 := Bool.eq_false_iff.mpr c40
                                        subst c40
                                        have H1 : (if 0 ≤ (wrap64 (t237 + t240)) then (if (wrap64 (t237 + t240)) ≤ (AL.size : Int) then ((octet_List.f kj36 (AL.extract ((wrap64 (t237 + t240)) : Int).toNat AL.size)).bind fun bt242 => ((sinewref01_Same.f kj36 bt242.1 l2).bind fun t247 => (if t247 = true then (if bt242.2.1 = (t234.size : Int) then (if bt242.2.2 = 0 then ((sinewlaw01_texts.f kj36).bind fun t248 => (some t248)) else (some false)) else (some false)) else (some false)))) else (none)) else (none)) = some r := by rw [if_neg (show ¬ (false = true) by decide)] at H; exact H
                                        clear H
                                        have H := H1
                                        clear H1
                                        obtain ⟨ji41, hji41⟩ : ∃ j_ : Int, (wrap64 (t237 + t240)) = j_ := ⟨_, rfl⟩
                                        replace H : (if 0 ≤ (ji41) then (if (ji41) ≤ (AL.size : Int) then ((octet_List.f kj36 (AL.extract ((ji41) : Int).toNat AL.size)).bind fun bt242 => ((sinewref01_Same.f kj36 bt242.1 l2).bind fun t247 => (if t247 = true then (if bt242.2.1 = (t234.size : Int) then (if bt242.2.2 = 0 then ((sinewlaw01_texts.f kj36).bind fun t248 => (some t248)) else (some false)) else (some false)) else (some false)))) else (none)) else (none)) = some r := by first | (rw [hji41] at H; exact H) | (simp only [hji41] at H ⊢; exact H)
                                        have hji41w : (IntKind.i64.wrap (t237 + t240)) = ji41 := (i64_w _).trans hji41
                                        by_cases c42 : 0 ≤ (ji41)
                                        · rw [if_pos c42] at H
                                          have c42b0 := eq_true c42
                                          try (have c42b5 := c42b0; simp only [ByteArray.size_extract, ByteArray.size_append, Int.natCast_add] at c42b5; (try simp only [Int.natCast_one, Int.cast_ofNat_Int] at c42b5))
                                          have c42b1 : decide (0 ≤ (ji41)) = true := decide_eq_true c42
                                          try (have c42b6 := c42b1; simp only [ByteArray.size_extract, ByteArray.size_append, Int.natCast_add] at c42b6; (try simp only [Int.natCast_one, Int.cast_ofNat_Int] at c42b6))
                                          clear c42
                                          by_cases c43 : (ji41) ≤ (AL.size : Int)
                                          · rw [if_pos c43] at H
                                            have c43b0 := eq_true c43
                                            try (have c43b5 := c43b0; simp only [ByteArray.size_extract, ByteArray.size_append, Int.natCast_add] at c43b5; (try simp only [Int.natCast_one, Int.cast_ofNat_Int] at c43b5))
                                            have c43b1 : decide ((ji41) ≤ (AL.size : Int)) = true := decide_eq_true c43
                                            try (have c43b6 := c43b1; simp only [ByteArray.size_extract, ByteArray.size_append, Int.natCast_add] at c43b6; (try simp only [Int.natCast_one, Int.cast_ofNat_Int] at c43b6))
                                            replace H := Option.bind_eq_some_iff.mp H
                                            obtain ⟨⟨t242, t243, t244⟩, A440, H⟩ := H
                                            replace H : ((sinewref01_Same.f kj36 t242 l2).bind fun t247 => (if t247 = true then (if t243 = (t234.size : Int) then (if t244 = 0 then ((sinewlaw01_texts.f kj36).bind fun t248 => (some t248)) else (some false)) else (some false)) else (some false))) = some r := H
                                            have A44 := Aside0.mk A440
                                            clear A440
                                            replace H := Option.bind_eq_some_iff.mp H
                                            obtain ⟨t247, A450, H⟩ := H
                                            replace H : (if t247 = true then (if t243 = (t234.size : Int) then (if t244 = 0 then ((sinewlaw01_texts.f kj36).bind fun t248 => (some t248)) else (some false)) else (some false)) else (some false)) = some r := H
                                            have A45 := Aside0.mk A450
                                            clear A450
                                            by_cases c46 : t247 = true
                                            · subst c46
                                              have H1 : (if t243 = (t234.size : Int) then (if t244 = 0 then ((sinewlaw01_texts.f kj36).bind fun t248 => (some t248)) else (some false)) else (some false)) = some r := by rw [if_pos rfl] at H; exact H
                                              clear H
                                              have H := H1
                                              clear H1
                                              by_cases c47 : t243 = (t234.size : Int)
                                              · rw [if_pos c47] at H
                                                have c47b0 : (t243 == (t234.size : Int)) = true := beq_iff_eq.mpr c47
                                                try (have c47b5 := c47b0; simp only [ByteArray.size_extract, ByteArray.size_append, Int.natCast_add] at c47b5; (try simp only [Int.natCast_one, Int.cast_ofNat_Int] at c47b5))
                                                have c47b1 : (t243 != (t234.size : Int)) = false := bne_eq_false_iff_eq.mpr c47
                                                try (have c47b6 := c47b1; simp only [ByteArray.size_extract, ByteArray.size_append, Int.natCast_add] at c47b6; (try simp only [Int.natCast_one, Int.cast_ofNat_Int] at c47b6))
                                                clear c47
                                                by_cases c48 : t244 = 0
                                                · rw [if_pos c48] at H
                                                  have c48b0 : (t244 == 0) = true := beq_iff_eq.mpr c48
                                                  try (have c48b5 := c48b0; simp only [ByteArray.size_extract, ByteArray.size_append, Int.natCast_add] at c48b5; (try simp only [Int.natCast_one, Int.cast_ofNat_Int] at c48b5))
                                                  have c48b1 : (t244 != 0) = false := bne_eq_false_iff_eq.mpr c48
                                                  try (have c48b6 := c48b1; simp only [ByteArray.size_extract, ByteArray.size_append, Int.natCast_add] at c48b6; (try simp only [Int.natCast_one, Int.cast_ofNat_Int] at c48b6))
                                                  clear c48
                                                  replace H := Option.bind_eq_some_iff.mp H
                                                  obtain ⟨t248, A490, H⟩ := H
                                                  replace H : (some t248) = some r := H
                                                  have A49 := Aside0.mk A490
                                                  clear A490
                                                  obtain rfl := Option.some.inj H
                                                  go_wp2_with (first | ((with_reducible refine gate_callee (f := 23) rfl ?_); refine goesL_ (some 139) rfl rfl Try.func23 (by kernel_rfl) rfl #[.string (AL.extract ((ji41) : Int).toNat AL.size)] rfl (by (try simp only [List.map_toArray, List.map_cons, List.map_nil]); first | done | (simp only [hji41]; rfl) | rfl | (simp only [List.length_drop, List.length_take]; rfl)) ?_; (with_reducible refine (octet_List.calls kj36 (AL.extract ((ji41) : Int).toNat AL.size) t242 t243 t244 _ A44.out).mono ?_); rintro e w50 ⟨v245, rfl, ho0, hb⟩; refine ⟨_, rfl, ?_⟩; have n0_ := Aside0.mk (Kd.R_lower ho0 (below_size (by repeat (first | (with_reducible first | exact HB.out | apply below_alloc | apply pw_below_drewN | apply below_drew1) | exact HB.out)))); have n1_ := Aside0.mk (below_step (by repeat (first | (with_reducible first | exact HB.out | apply below_alloc | apply pw_below_drewN | apply below_drew1) | exact HB.out)) hb); clear HB; have HO246 := n0_; have HB := n1_; clear n0_ n1_; (try clear hb); (try clear hb2); (try clear hk); (try clear hi); (try clear ho0); obtain ⟨Ao51, co51, eo51⟩ := Kd.R_slice HO246.out; subst eo51) | ((with_reducible refine gate_callee (f := 25) rfl ?_); refine goesL_ (some 145) rfl rfl Try.func25 (by kernel_rfl) rfl #[.slice Ao51 t242.length co51, .slice A2 l2.length c2] rfl (by (try simp only [List.map_toArray, List.map_cons, List.map_nil]); first | done | rfl | (simp only [List.length_drop, List.length_take]; rfl)) ?_; (with_reducible refine (sinewref01_Same.calls kj36 _ _ t242 _ _ l2 true _ ?side1 ?side2 ?side3 ?side4 A45.out).mono ?_); (case side1 => repeat (first | exact (Kd.R_reads' HO246.out).2.2 | (with_reducible refine Kd.C_alloc ?_ _) | (with_reducible refine Kd.C_drewN ?_ _) | (with_reducible refine Kd.C_drew ?_))); (case side2 => exact (Kd.R_reads' HO246.out).2.1); (case side3 => repeat (first | exact (Kd.C_below HR2.out HB.out) | (with_reducible refine Kd.C_alloc ?_ _) | (with_reducible refine Kd.C_drewN ?_ _) | (with_reducible refine Kd.C_drew ?_))); (case side4 => exact HC2.out); rintro e w' ⟨rfl, ⟨nd, rfl⟩⟩; refine ⟨_, rfl, ?_⟩) | (go_at_call 17; (with_reducible refine (sinewlaw01_texts.calls kj36  t248 _ A49.out).mono ?_); rintro e w52 ⟨rfl, hb⟩; have n0_ := Aside0.mk (Kd.R_below (by (with_reducible repeat (first | apply Kd.R_alloc | apply Kd.R_drewN | apply Kd.R_drew)); exact HO246.out) hb); have n1_ := Aside0.mk (below_step (by repeat (first | (with_reducible first | exact HB.out | apply below_alloc | apply pw_below_drewN | apply below_drew1) | exact HB.out)) hb); clear HO246; clear HB; have HO246 := n0_; have HB := n1_; clear n0_ n1_; (try clear hb); (try clear hb2); (try clear hk); (try clear hi)))
                                                  go_ret
                                                  exact ⟨by first | rfl | (simp [errW_none, errW_some] <;> rfl) | (simp only [← hji41]; first | rfl | (simp [errW_none, errW_some] <;> rfl)) | (simp [*, errW_none, errW_some] <;> rfl), by repeat (first | (with_reducible first | exact HB.out | apply below_alloc | apply pw_below_drewN | apply below_drew1) | exact HB.out)⟩
                                                · rw [if_neg c48] at H
                                                  have c48b0 : (t244 == 0) = false := beq_eq_false_iff_ne.mpr c48
                                                  try (have c48b5 := c48b0; simp only [ByteArray.size_extract, ByteArray.size_append, Int.natCast_add] at c48b5; (try simp only [Int.natCast_one, Int.cast_ofNat_Int] at c48b5))
                                                  have c48b1 : (t244 != 0) = true := bne_iff_ne.mpr c48
                                                  try (have c48b6 := c48b1; simp only [ByteArray.size_extract, ByteArray.size_append, Int.natCast_add] at c48b6; (try simp only [Int.natCast_one, Int.cast_ofNat_Int] at c48b6))
                                                  obtain rfl := Option.some.inj H
                                                  go_wp2_with (first | ((with_reducible refine gate_callee (f := 23) rfl ?_); refine goesL_ (some 139) rfl rfl Try.func23 (by kernel_rfl) rfl #[.string (AL.extract ((ji41) : Int).toNat AL.size)] rfl (by (try simp only [List.map_toArray, List.map_cons, List.map_nil]); first | done | (simp only [hji41]; rfl) | rfl | (simp only [List.length_drop, List.length_take]; rfl)) ?_; (with_reducible refine (octet_List.calls kj36 (AL.extract ((ji41) : Int).toNat AL.size) t242 t243 t244 _ A44.out).mono ?_); rintro e w53 ⟨v245, rfl, ho0, hb⟩; refine ⟨_, rfl, ?_⟩; have n0_ := Aside0.mk (Kd.R_lower ho0 (below_size (by repeat (first | (with_reducible first | exact HB.out | apply below_alloc | apply pw_below_drewN | apply below_drew1) | exact HB.out)))); have n1_ := Aside0.mk (below_step (by repeat (first | (with_reducible first | exact HB.out | apply below_alloc | apply pw_below_drewN | apply below_drew1) | exact HB.out)) hb); clear HB; have HO246 := n0_; have HB := n1_; clear n0_ n1_; (try clear hb); (try clear hb2); (try clear hk); (try clear hi); (try clear ho0); obtain ⟨Ao54, co54, eo54⟩ := Kd.R_slice HO246.out; subst eo54) | ((with_reducible refine gate_callee (f := 25) rfl ?_); refine goesL_ (some 145) rfl rfl Try.func25 (by kernel_rfl) rfl #[.slice Ao54 t242.length co54, .slice A2 l2.length c2] rfl (by (try simp only [List.map_toArray, List.map_cons, List.map_nil]); first | done | rfl | (simp only [List.length_drop, List.length_take]; rfl)) ?_; (with_reducible refine (sinewref01_Same.calls kj36 _ _ t242 _ _ l2 true _ ?side1 ?side2 ?side3 ?side4 A45.out).mono ?_); (case side1 => repeat (first | exact (Kd.R_reads' HO246.out).2.2 | (with_reducible refine Kd.C_alloc ?_ _) | (with_reducible refine Kd.C_drewN ?_ _) | (with_reducible refine Kd.C_drew ?_))); (case side2 => exact (Kd.R_reads' HO246.out).2.1); (case side3 => repeat (first | exact (Kd.C_below HR2.out HB.out) | (with_reducible refine Kd.C_alloc ?_ _) | (with_reducible refine Kd.C_drewN ?_ _) | (with_reducible refine Kd.C_drew ?_))); (case side4 => exact HC2.out); rintro e w' ⟨rfl, ⟨nd, rfl⟩⟩; refine ⟨_, rfl, ?_⟩))
                                                  go_ret
                                                  exact ⟨by first | rfl | (simp [errW_none, errW_some] <;> rfl) | (simp only [← hji41]; first | rfl | (simp [errW_none, errW_some] <;> rfl)) | (simp [*, errW_none, errW_some] <;> rfl), by repeat (first | (with_reducible first | exact HB.out | apply below_alloc | apply pw_below_drewN | apply below_drew1) | exact HB.out)⟩
                                              · rw [if_neg c47] at H
                                                have c47b0 : (t243 == (t234.size : Int)) = false := beq_eq_false_iff_ne.mpr c47
                                                try (have c47b5 := c47b0; simp only [ByteArray.size_extract, ByteArray.size_append, Int.natCast_add] at c47b5; (try simp only [Int.natCast_one, Int.cast_ofNat_Int] at c47b5))
                                                have c47b1 : (t243 != (t234.size : Int)) = true := bne_iff_ne.mpr c47
                                                try (have c47b6 := c47b1; simp only [ByteArray.size_extract, ByteArray.size_append, Int.natCast_add] at c47b6; (try simp only [Int.natCast_one, Int.cast_ofNat_Int] at c47b6))
                                                obtain rfl := Option.some.inj H
                                                go_wp2_with (first | ((with_reducible refine gate_callee (f := 23) rfl ?_); refine goesL_ (some 139) rfl rfl Try.func23 (by kernel_rfl) rfl #[.string (AL.extract ((ji41) : Int).toNat AL.size)] rfl (by (try simp only [List.map_toArray, List.map_cons, List.map_nil]); first | done | (simp only [hji41]; rfl) | rfl | (simp only [List.length_drop, List.length_take]; rfl)) ?_; (with_reducible refine (octet_List.calls kj36 (AL.extract ((ji41) : Int).toNat AL.size) t242 t243 t244 _ A44.out).mono ?_); rintro e w55 ⟨v245, rfl, ho0, hb⟩; refine ⟨_, rfl, ?_⟩; have n0_ := Aside0.mk (Kd.R_lower ho0 (below_size (by repeat (first | (with_reducible first | exact HB.out | apply below_alloc | apply pw_below_drewN | apply below_drew1) | exact HB.out)))); have n1_ := Aside0.mk (below_step (by repeat (first | (with_reducible first | exact HB.out | apply below_alloc | apply pw_below_drewN | apply below_drew1) | exact HB.out)) hb); clear HB; have HO246 := n0_; have HB := n1_; clear n0_ n1_; (try clear hb); (try clear hb2); (try clear hk); (try clear hi); (try clear ho0); obtain ⟨Ao56, co56, eo56⟩ := Kd.R_slice HO246.out; subst eo56) | ((with_reducible refine gate_callee (f := 25) rfl ?_); refine goesL_ (some 145) rfl rfl Try.func25 (by kernel_rfl) rfl #[.slice Ao56 t242.length co56, .slice A2 l2.length c2] rfl (by (try simp only [List.map_toArray, List.map_cons, List.map_nil]); first | done | rfl | (simp only [List.length_drop, List.length_take]; rfl)) ?_; (with_reducible refine (sinewref01_Same.calls kj36 _ _ t242 _ _ l2 true _ ?side1 ?side2 ?side3 ?side4 A45.out).mono ?_); (case side1 => repeat (first | exact (Kd.R_reads' HO246.out).2.2 | (with_reducible refine Kd.C_alloc ?_ _) | (with_reducible refine Kd.C_drewN ?_ _) | (with_reducible refine Kd.C_drew ?_))); (case side2 => exact (Kd.R_reads' HO246.out).2.1); (case side3 => repeat (first | exact (Kd.C_below HR2.out HB.out) | (with_reducible refine Kd.C_alloc ?_ _) | (with_reducible refine Kd.C_drewN ?_ _) | (with_reducible refine Kd.C_drew ?_))); (case side4 => exact HC2.out); rintro e w' ⟨rfl, ⟨nd, rfl⟩⟩; refine ⟨_, rfl, ?_⟩))
                                                go_ret
                                                exact ⟨by first | rfl | (simp [errW_none, errW_some] <;> rfl) | (simp only [← hji41]; first | rfl | (simp [errW_none, errW_some] <;> rfl)) | (simp [*, errW_none, errW_some] <;> rfl), by repeat (first | (with_reducible first | exact HB.out | apply below_alloc | apply pw_below_drewN | apply below_drew1) | exact HB.out)⟩
                                            · replace c46 := Bool.eq_false_iff.mpr c46
                                              subst c46
                                              have H1 : (some false) = some r := by rw [if_neg (show ¬ (false = true) by decide)] at H; exact H
                                              clear H
                                              have H := H1
                                              clear H1
                                              obtain rfl := Option.some.inj H
                                              go_wp2_with (first | ((with_reducible refine gate_callee (f := 23) rfl ?_); refine goesL_ (some 139) rfl rfl Try.func23 (by kernel_rfl) rfl #[.string (AL.extract ((ji41) : Int).toNat AL.size)] rfl (by (try simp only [List.map_toArray, List.map_cons, List.map_nil]); first | done | (simp only [hji41]; rfl) | rfl | (simp only [List.length_drop, List.length_take]; rfl)) ?_; (with_reducible refine (octet_List.calls kj36 (AL.extract ((ji41) : Int).toNat AL.size) t242 t243 t244 _ A44.out).mono ?_); rintro e w57 ⟨v245, rfl, ho0, hb⟩; refine ⟨_, rfl, ?_⟩; have n0_ := Aside0.mk (Kd.R_lower ho0 (below_size (by repeat (first | (with_reducible first | exact HB.out | apply below_alloc | apply pw_below_drewN | apply below_drew1) | exact HB.out)))); have n1_ := Aside0.mk (below_step (by repeat (first | (with_reducible first | exact HB.out | apply below_alloc | apply pw_below_drewN | apply below_drew1) | exact HB.out)) hb); clear HB; have HO246 := n0_; have HB := n1_; clear n0_ n1_; (try clear hb); (try clear hb2); (try clear hk); (try clear hi); (try clear ho0); obtain ⟨Ao58, co58, eo58⟩ := Kd.R_slice HO246.out; subst eo58) | ((with_reducible refine gate_callee (f := 25) rfl ?_); refine goesL_ (some 145) rfl rfl Try.func25 (by kernel_rfl) rfl #[.slice Ao58 t242.length co58, .slice A2 l2.length c2] rfl (by (try simp only [List.map_toArray, List.map_cons, List.map_nil]); first | done | rfl | (simp only [List.length_drop, List.length_take]; rfl)) ?_; (with_reducible refine (sinewref01_Same.calls kj36 _ _ t242 _ _ l2 false _ ?side1 ?side2 ?side3 ?side4 A45.out).mono ?_); (case side1 => repeat (first | exact (Kd.R_reads' HO246.out).2.2 | (with_reducible refine Kd.C_alloc ?_ _) | (with_reducible refine Kd.C_drewN ?_ _) | (with_reducible refine Kd.C_drew ?_))); (case side2 => exact (Kd.R_reads' HO246.out).2.1); (case side3 => repeat (first | exact (Kd.C_below HR2.out HB.out) | (with_reducible refine Kd.C_alloc ?_ _) | (with_reducible refine Kd.C_drewN ?_ _) | (with_reducible refine Kd.C_drew ?_))); (case side4 => exact HC2.out); rintro e w' ⟨rfl, ⟨nd, rfl⟩⟩; refine ⟨_, rfl, ?_⟩))
                                              go_ret
                                              exact ⟨by first | rfl | (simp [errW_none, errW_some] <;> rfl) | (simp only [← hji41]; first | rfl | (simp [errW_none, errW_some] <;> rfl)) | (simp [*, errW_none, errW_some] <;> rfl), by repeat (first | (with_reducible first | exact HB.out | apply below_alloc | apply pw_below_drewN | apply below_drew1) | exact HB.out)⟩
                                          · rw [if_neg c43] at H
                                            exact absurd H (by simp)
                                        · rw [if_neg c42] at H
                                          exact absurd H (by simp)
                                · rw [if_neg c35] at H
                                  exact absurd H (by simp)
                              · rw [if_neg c34] at H
                                exact absurd H (by simp)
                      · rw [if_neg c28] at H
                        exact absurd H (by simp)
                    · rw [if_neg c27] at H
                      exact absurd H (by simp)
                  · rw [if_neg c26] at H
                    exact absurd H (by simp)

end Go.Proofs.Ytjeoenpkhfmafaa.Px
-- fixji
-- fix01
