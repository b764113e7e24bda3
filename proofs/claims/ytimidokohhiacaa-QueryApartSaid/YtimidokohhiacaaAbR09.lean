import Derived.Test.YtimidokohhiacaaAbConst
import Derived.Test.YtimidokohhiacaaAbI09b
/- The closed call of function 13, run by the kernel; its law for every world. Printed by evalgen.py (our own program). -/
namespace Go.Ab.Run13
open Go.Proofs Go.RowKit
set_option maxRecDepth 100000
set_option linter.unusedVariables false
theorem hm : Try.prog.follows .mixedOrders = true := by kernel_rfl
noncomputable def e73 : Fn := a73
theorem m73 : Sim Try.prog 73 e73 := simu73
noncomputable def e48 : Fn := a48
theorem m48 : Sim Try.prog 48 e48 := simu48
noncomputable def e32 : Fn := a32
theorem m32 : Sim Try.prog 32 e32 := simu32
noncomputable def t50 : Tbl := tget []
theorem tt50 : SimT Try.prog t50 := simT_nil
noncomputable def e50 : Fn := afn Try.prog (fun _ => false) t50 60 (areg Try.prog (fun _ => false) t50) 50
theorem m50 : Sim Try.prog 50 e50 := afn_sim tt50 (fun m => areg_sound tt50 hm m) 50 (by kernel_rfl)
noncomputable def t83 : Tbl := tget [(50, e50)]
theorem tt83 : SimT Try.prog t83 := simT_cons m50 (simT_nil)
noncomputable def e83 : Fn := afn Try.prog (fun _ => false) t83 60 (areg Try.prog (fun _ => false) t83) 83
theorem m83 : Sim Try.prog 83 e83 := afn_sim tt83 (fun m => areg_sound tt83 hm m) 83 (by kernel_rfl)
noncomputable def t78 : Tbl := tget []
theorem tt78 : SimT Try.prog t78 := simT_nil
noncomputable def e78 : Fn := afn Try.prog (fun _ => false) t78 60 (areg Try.prog (fun _ => false) t78) 78
theorem m78 : Sim Try.prog 78 e78 := afn_sim tt78 (fun m => areg_sound tt78 hm m) 78 (by kernel_rfl)
noncomputable def t44 : Tbl := tget [(78, e78)]
theorem tt44 : SimT Try.prog t44 := simT_cons m78 (simT_nil)
noncomputable def e44 : Fn := afn Try.prog (fun _ => false) t44 60 (areg Try.prog (fun _ => false) t44) 44
theorem m44 : Sim Try.prog 44 e44 := afn_sim tt44 (fun m => areg_sound tt44 hm m) 44 (by kernel_rfl)
noncomputable def t80 : Tbl := tget [(44, e44), (50, e50)]
theorem tt80 : SimT Try.prog t80 := simT_cons m44 ( simT_cons m50 (simT_nil))
noncomputable def e80 : Fn := afn Try.prog (fun _ => false) t80 60 (areg Try.prog (fun _ => false) t80) 80
theorem m80 : Sim Try.prog 80 e80 := afn_sim tt80 (fun m => areg_sound tt80 hm m) 80 (by kernel_rfl)
noncomputable def t81 : Tbl := tget [(50, e50), (80, e80)]
theorem tt81 : SimT Try.prog t81 := simT_cons m50 ( simT_cons m80 (simT_nil))
noncomputable def e81 : Fn := afn Try.prog (fun _ => false) t81 60 (areg Try.prog (fun _ => false) t81) 81
theorem m81 : Sim Try.prog 81 e81 := afn_sim tt81 (fun m => areg_sound tt81 hm m) 81 (by kernel_rfl)
noncomputable def t82 (R : Nat → Fn) : Tbl := tget [(95, R 95)]
theorem tt82 {R : Nat → Fn} (hR : ∀ j, j ∈ [82, 95, 96, 102, 104] → Sim Try.prog j (R j)) : SimT Try.prog (t82 R) := simT_cons (hR 95 (by decide)) (simT_nil)
noncomputable def t95 (R : Nat → Fn) : Tbl := tget [(96, R 96), (102, R 102), (83, e83)]
theorem tt95 {R : Nat → Fn} (hR : ∀ j, j ∈ [82, 95, 96, 102, 104] → Sim Try.prog j (R j)) : SimT Try.prog (t95 R) := simT_cons (hR 96 (by decide)) ( simT_cons (hR 102 (by decide)) ( simT_cons m83 (simT_nil)))
noncomputable def t96 (R : Nat → Fn) : Tbl := tget [(95, R 95)]
theorem tt96 {R : Nat → Fn} (hR : ∀ j, j ∈ [82, 95, 96, 102, 104] → Sim Try.prog j (R j)) : SimT Try.prog (t96 R) := simT_cons (hR 95 (by decide)) (simT_nil)
noncomputable def t102 (R : Nat → Fn) : Tbl := tget [(104, R 104), (83, e83)]
theorem tt102 {R : Nat → Fn} (hR : ∀ j, j ∈ [82, 95, 96, 102, 104] → Sim Try.prog j (R j)) : SimT Try.prog (t102 R) := simT_cons (hR 104 (by decide)) ( simT_cons m83 (simT_nil))
noncomputable def t104 (R : Nat → Fn) : Tbl := tget [(82, R 82), (80, e80), (83, e83)]
theorem tt104 {R : Nat → Fn} (hR : ∀ j, j ∈ [82, 95, 96, 102, 104] → Sim Try.prog j (R j)) : SimT Try.prog (t104 R) := simT_cons (hR 82 (by decide)) ( simT_cons m80 ( simT_cons m83 (simT_nil)))
noncomputable def en82 : Nat → Nat → Fn
| 0 => fun _ _ _ => none
| n + 1 => fun j => ((tget [(82, afn Try.prog (fun _ => false) (t82 (en82 n)) 60 (areg Try.prog (fun _ => false) (t82 (en82 n))) 82), (95, afn Try.prog (fun _ => false) (t95 (en82 n)) 60 (areg Try.prog (fun _ => false) (t95 (en82 n))) 95), (96, afn Try.prog (fun _ => false) (t96 (en82 n)) 60 (areg Try.prog (fun _ => false) (t96 (en82 n))) 96), (102, afn Try.prog (fun _ => false) (t102 (en82 n)) 60 (areg Try.prog (fun _ => false) (t102 (en82 n))) 102), (104, afn Try.prog (fun _ => false) (t104 (en82 n)) 60 (areg Try.prog (fun _ => false) (t104 (en82 n))) 104)]) j).getD (fun _ _ => none)
theorem en82_82 (n : Nat) : en82 (n + 1) 82 = afn Try.prog (fun _ => false) (t82 (en82 n)) 60 (areg Try.prog (fun _ => false) (t82 (en82 n))) 82 := by kernel_rfl
theorem en82_95 (n : Nat) : en82 (n + 1) 95 = afn Try.prog (fun _ => false) (t95 (en82 n)) 60 (areg Try.prog (fun _ => false) (t95 (en82 n))) 95 := by kernel_rfl
theorem en82_96 (n : Nat) : en82 (n + 1) 96 = afn Try.prog (fun _ => false) (t96 (en82 n)) 60 (areg Try.prog (fun _ => false) (t96 (en82 n))) 96 := by kernel_rfl
theorem en82_102 (n : Nat) : en82 (n + 1) 102 = afn Try.prog (fun _ => false) (t102 (en82 n)) 60 (areg Try.prog (fun _ => false) (t102 (en82 n))) 102 := by kernel_rfl
theorem en82_104 (n : Nat) : en82 (n + 1) 104 = afn Try.prog (fun _ => false) (t104 (en82 n)) 60 (areg Try.prog (fun _ => false) (t104 (en82 n))) 104 := by kernel_rfl
theorem en82_ok : ∀ j, j ∈ [82, 95, 96, 102, 104] → okFn Try.prog j = true := by
  intro j hj
  simp only [List.mem_cons, List.not_mem_nil, or_false] at hj
  rcases hj with rfl | rfl | rfl | rfl | rfl <;> kernel_rfl
theorem men82 : ∀ n j, j ∈ [82, 95, 96, 102, 104] → Sim Try.prog j (en82 n j)
| 0, j, hj => ⟨en82_ok j hj, fun _ _ _ _ _ _ _ h => by cases h⟩
| n + 1, j, hj => by
  have ih := men82 n
  simp only [List.mem_cons, List.not_mem_nil, or_false] at hj
  rcases hj with rfl | rfl | rfl | rfl | rfl
  · rw [en82_82]; exact afn_sim (tt82 ih) (fun m => areg_sound (tt82 ih) hm m) 82 (by kernel_rfl)
  · rw [en82_95]; exact afn_sim (tt95 ih) (fun m => areg_sound (tt95 ih) hm m) 95 (by kernel_rfl)
  · rw [en82_96]; exact afn_sim (tt96 ih) (fun m => areg_sound (tt96 ih) hm m) 96 (by kernel_rfl)
  · rw [en82_102]; exact afn_sim (tt102 ih) (fun m => areg_sound (tt102 ih) hm m) 102 (by kernel_rfl)
  · rw [en82_104]; exact afn_sim (tt104 ih) (fun m => areg_sound (tt104 ih) hm m) 104 (by kernel_rfl)
noncomputable def e82 : Fn := en82 60 82
theorem m82 : Sim Try.prog 82 e82 := men82 60 82 (by decide)
noncomputable def e95 : Fn := en82 60 95
theorem m95 : Sim Try.prog 95 e95 := men82 60 95 (by decide)
noncomputable def e96 : Fn := en82 60 96
theorem m96 : Sim Try.prog 96 e96 := men82 60 96 (by decide)
noncomputable def e102 : Fn := en82 60 102
theorem m102 : Sim Try.prog 102 e102 := men82 60 102 (by decide)
noncomputable def e104 : Fn := en82 60 104
theorem m104 : Sim Try.prog 104 e104 := men82 60 104 (by decide)
noncomputable def t51 : Tbl := tget [(50, e50), (80, e80), (81, e81), (82, e82), (83, e83)]
theorem tt51 : SimT Try.prog t51 := simT_cons m50 ( simT_cons m80 ( simT_cons m81 ( simT_cons m82 ( simT_cons m83 (simT_nil)))))
noncomputable def e51 : Fn := afn Try.prog (fun _ => false) t51 60 (areg Try.prog (fun _ => false) t51) 51
theorem m51 : Sim Try.prog 51 e51 := afn_sim tt51 (fun m => areg_sound tt51 hm m) 51 (by kernel_rfl)
noncomputable def t52 : Tbl := tget [(80, e80), (83, e83)]
theorem tt52 : SimT Try.prog t52 := simT_cons m80 ( simT_cons m83 (simT_nil))
noncomputable def e52 : Fn := afn Try.prog (fun _ => false) t52 60 (areg Try.prog (fun _ => false) t52) 52
theorem m52 : Sim Try.prog 52 e52 := afn_sim tt52 (fun m => areg_sound tt52 hm m) 52 (by kernel_rfl)
noncomputable def t25 : Tbl := tget [(50, e50), (51, e51), (52, e52)]
theorem tt25 : SimT Try.prog t25 := simT_cons m50 ( simT_cons m51 ( simT_cons m52 (simT_nil)))
noncomputable def e25 : Fn := a25 t25 60 (fun m => areg Try.prog (fun _ => false) t25 m)
theorem m25 : Sim Try.prog 25 e25 := simA25 tt25 (fun m => areg_sound tt25 hm m) 60
noncomputable def t46 : Tbl := tget []
theorem tt46 : SimT Try.prog t46 := simT_nil
noncomputable def e46 : Fn := afn Try.prog (fun _ => false) t46 60 (areg Try.prog (fun _ => false) t46) 46
theorem m46 : Sim Try.prog 46 e46 := afn_sim tt46 (fun m => areg_sound tt46 hm m) 46 (by kernel_rfl)
noncomputable def t47 : Tbl := tget [(46, e46)]
theorem tt47 : SimT Try.prog t47 := simT_cons m46 (simT_nil)
noncomputable def e47 : Fn := afn Try.prog (fun _ => false) t47 60 (areg Try.prog (fun _ => false) t47) 47
theorem m47 : Sim Try.prog 47 e47 := afn_sim tt47 (fun m => areg_sound tt47 hm m) 47 (by kernel_rfl)
noncomputable def t24 : Tbl := tget [(46, e46), (47, e47), (48, e48)]
theorem tt24 : SimT Try.prog t24 := simT_cons m46 ( simT_cons m47 ( simT_cons m48 (simT_nil)))
noncomputable def e24 : Fn := afn Try.prog (fun _ => false) t24 60 (areg Try.prog (fun _ => false) t24) 24
theorem m24 : Sim Try.prog 24 e24 := afn_sim tt24 (fun m => areg_sound tt24 hm m) 24 (by kernel_rfl)
noncomputable def t53 (R : Fn) : Tbl := tget [(53, R)]
theorem tt53 {R : Fn} (h : Sim Try.prog 53 R) : SimT Try.prog (t53 R) := simT_cons h (simT_nil)
noncomputable def e53n : Nat → Fn
| 0 => fun _ _ => none
| n + 1 => afn Try.prog (fun _ => false) (t53 (e53n n)) 60 (areg Try.prog (fun _ => false) (t53 (e53n n))) 53
noncomputable def e53 : Fn := e53n 60
theorem m53n : ∀ n, Sim Try.prog 53 (e53n n)
| 0 => ⟨by kernel_rfl, fun _ _ _ _ _ _ _ h => by cases h⟩
| n + 1 => afn_sim (tt53 (m53n n)) (fun m => areg_sound (tt53 (m53n n)) hm m) 53 (by kernel_rfl)
theorem m53 : Sim Try.prog 53 e53 := m53n 60
noncomputable def t21 : Tbl := tget [(44, e44)]
theorem tt21 : SimT Try.prog t21 := simT_cons m44 (simT_nil)
noncomputable def e21 : Fn := afn Try.prog (fun _ => false) t21 60 (areg Try.prog (fun _ => false) t21) 21
theorem m21 : Sim Try.prog 21 e21 := afn_sim tt21 (fun m => areg_sound tt21 hm m) 21 (by kernel_rfl)
noncomputable def t26 : Tbl := tget [(21, e21), (44, e44), (53, e53)]
theorem tt26 : SimT Try.prog t26 := simT_cons m21 ( simT_cons m44 ( simT_cons m53 (simT_nil)))
noncomputable def e26 : Fn := afn Try.prog (fun _ => false) t26 60 (areg Try.prog (fun _ => false) t26) 26
theorem m26 : Sim Try.prog 26 e26 := afn_sim tt26 (fun m => areg_sound tt26 hm m) 26 (by kernel_rfl)
noncomputable def t12 : Tbl := tget [(24, e24), (25, e25), (26, e26)]
theorem tt12 : SimT Try.prog t12 := simT_cons m24 ( simT_cons m25 ( simT_cons m26 (simT_nil)))
noncomputable def e12 : Fn := afn Try.prog (fun _ => false) t12 60 (areg Try.prog (fun _ => false) t12) 12
theorem m12 : Sim Try.prog 12 e12 := afn_sim tt12 (fun m => areg_sound tt12 hm m) 12 (by kernel_rfl)
noncomputable def t39 : Tbl := tget [(73, e73)]
theorem tt39 : SimT Try.prog t39 := simT_cons m73 (simT_nil)
noncomputable def e39 : Fn := afn Try.prog (fun _ => false) t39 60 (areg Try.prog (fun _ => false) t39) 39
theorem m39 : Sim Try.prog 39 e39 := afn_sim tt39 (fun m => areg_sound tt39 hm m) 39 (by kernel_rfl)
noncomputable def t38 : Tbl := tget [(39, e39)]
theorem tt38 : SimT Try.prog t38 := simT_cons m39 (simT_nil)
noncomputable def e38 : Fn := afn Try.prog (fun _ => false) t38 60 (areg Try.prog (fun _ => false) t38) 38
theorem m38 : Sim Try.prog 38 e38 := afn_sim tt38 (fun m => areg_sound tt38 hm m) 38 (by kernel_rfl)
noncomputable def t74 : Tbl := tget [(38, e38)]
theorem tt74 : SimT Try.prog t74 := simT_cons m38 (simT_nil)
noncomputable def e74 : Fn := afn Try.prog (fun _ => false) t74 60 (areg Try.prog (fun _ => false) t74) 74
theorem m74 : Sim Try.prog 74 e74 := afn_sim tt74 (fun m => areg_sound tt74 hm m) 74 (by kernel_rfl)
noncomputable def t40 : Tbl := tget [(74, e74)]
theorem tt40 : SimT Try.prog t40 := simT_cons m74 (simT_nil)
noncomputable def e40 : Fn := afn Try.prog (fun _ => false) t40 60 (areg Try.prog (fun _ => false) t40) 40
theorem m40 : Sim Try.prog 40 e40 := afn_sim tt40 (fun m => areg_sound tt40 hm m) 40 (by kernel_rfl)
noncomputable def t41 : Tbl := tget [(39, e39)]
theorem tt41 : SimT Try.prog t41 := simT_cons m39 (simT_nil)
noncomputable def e41 : Fn := afn Try.prog (fun _ => false) t41 60 (areg Try.prog (fun _ => false) t41) 41
theorem m41 : Sim Try.prog 41 e41 := afn_sim tt41 (fun m => areg_sound tt41 hm m) 41 (by kernel_rfl)
noncomputable def t75 : Tbl := tget [(41, e41)]
theorem tt75 : SimT Try.prog t75 := simT_cons m41 (simT_nil)
noncomputable def e75 : Fn := afn Try.prog (fun _ => false) t75 60 (areg Try.prog (fun _ => false) t75) 75
theorem m75 : Sim Try.prog 75 e75 := afn_sim tt75 (fun m => areg_sound tt75 hm m) 75 (by kernel_rfl)
noncomputable def t42 : Tbl := tget [(75, e75)]
theorem tt42 : SimT Try.prog t42 := simT_cons m75 (simT_nil)
noncomputable def e42 : Fn := afn Try.prog (fun _ => false) t42 60 (areg Try.prog (fun _ => false) t42) 42
theorem m42 : Sim Try.prog 42 e42 := afn_sim tt42 (fun m => areg_sound tt42 hm m) 42 (by kernel_rfl)
noncomputable def t43 (R : Nat → Fn) : Tbl := tget [(76, R 76), (39, e39)]
theorem tt43 {R : Nat → Fn} (hR : ∀ j, j ∈ [43, 76, 93, 77] → Sim Try.prog j (R j)) : SimT Try.prog (t43 R) := simT_cons (hR 76 (by decide)) ( simT_cons m39 (simT_nil))
noncomputable def t76 (R : Nat → Fn) : Tbl := tget [(93, R 93)]
theorem tt76 {R : Nat → Fn} (hR : ∀ j, j ∈ [43, 76, 93, 77] → Sim Try.prog j (R j)) : SimT Try.prog (t76 R) := simT_cons (hR 93 (by decide)) (simT_nil)
noncomputable def t93 (R : Nat → Fn) : Tbl := tget [(77, R 77)]
theorem tt93 {R : Nat → Fn} (hR : ∀ j, j ∈ [43, 76, 93, 77] → Sim Try.prog j (R j)) : SimT Try.prog (t93 R) := simT_cons (hR 77 (by decide)) (simT_nil)
noncomputable def t77 (R : Nat → Fn) : Tbl := tget [(43, R 43)]
theorem tt77 {R : Nat → Fn} (hR : ∀ j, j ∈ [43, 76, 93, 77] → Sim Try.prog j (R j)) : SimT Try.prog (t77 R) := simT_cons (hR 43 (by decide)) (simT_nil)
noncomputable def en43 : Nat → Nat → Fn
| 0 => fun _ _ _ => none
| n + 1 => fun j => ((tget [(43, afn Try.prog (fun _ => false) (t43 (en43 n)) 60 (areg Try.prog (fun _ => false) (t43 (en43 n))) 43), (76, afn Try.prog (fun _ => false) (t76 (en43 n)) 60 (areg Try.prog (fun _ => false) (t76 (en43 n))) 76), (93, afn Try.prog (fun _ => false) (t93 (en43 n)) 60 (areg Try.prog (fun _ => false) (t93 (en43 n))) 93), (77, afn Try.prog (fun _ => false) (t77 (en43 n)) 60 (areg Try.prog (fun _ => false) (t77 (en43 n))) 77)]) j).getD (fun _ _ => none)
theorem en43_43 (n : Nat) : en43 (n + 1) 43 = afn Try.prog (fun _ => false) (t43 (en43 n)) 60 (areg Try.prog (fun _ => false) (t43 (en43 n))) 43 := by kernel_rfl
theorem en43_76 (n : Nat) : en43 (n + 1) 76 = afn Try.prog (fun _ => false) (t76 (en43 n)) 60 (areg Try.prog (fun _ => false) (t76 (en43 n))) 76 := by kernel_rfl
theorem en43_93 (n : Nat) : en43 (n + 1) 93 = afn Try.prog (fun _ => false) (t93 (en43 n)) 60 (areg Try.prog (fun _ => false) (t93 (en43 n))) 93 := by kernel_rfl
theorem en43_77 (n : Nat) : en43 (n + 1) 77 = afn Try.prog (fun _ => false) (t77 (en43 n)) 60 (areg Try.prog (fun _ => false) (t77 (en43 n))) 77 := by kernel_rfl
theorem en43_ok : ∀ j, j ∈ [43, 76, 93, 77] → okFn Try.prog j = true := by
  intro j hj
  simp only [List.mem_cons, List.not_mem_nil, or_false] at hj
  rcases hj with rfl | rfl | rfl | rfl <;> kernel_rfl
theorem men43 : ∀ n j, j ∈ [43, 76, 93, 77] → Sim Try.prog j (en43 n j)
| 0, j, hj => ⟨en43_ok j hj, fun _ _ _ _ _ _ _ h => by cases h⟩
| n + 1, j, hj => by
  have ih := men43 n
  simp only [List.mem_cons, List.not_mem_nil, or_false] at hj
  rcases hj with rfl | rfl | rfl | rfl
  · rw [en43_43]; exact afn_sim (tt43 ih) (fun m => areg_sound (tt43 ih) hm m) 43 (by kernel_rfl)
  · rw [en43_76]; exact afn_sim (tt76 ih) (fun m => areg_sound (tt76 ih) hm m) 76 (by kernel_rfl)
  · rw [en43_93]; exact afn_sim (tt93 ih) (fun m => areg_sound (tt93 ih) hm m) 93 (by kernel_rfl)
  · rw [en43_77]; exact afn_sim (tt77 ih) (fun m => areg_sound (tt77 ih) hm m) 77 (by kernel_rfl)
noncomputable def e43 : Fn := en43 60 43
theorem m43 : Sim Try.prog 43 e43 := men43 60 43 (by decide)
noncomputable def e76 : Fn := en43 60 76
theorem m76 : Sim Try.prog 76 e76 := men43 60 76 (by decide)
noncomputable def e93 : Fn := en43 60 93
theorem m93 : Sim Try.prog 93 e93 := men43 60 93 (by decide)
noncomputable def e77 : Fn := en43 60 77
theorem m77 : Sim Try.prog 77 e77 := men43 60 77 (by decide)
noncomputable def t19 : Tbl := tget [(26, e26), (40, e40), (41, e41), (42, e42), (43, e43)]
theorem tt19 : SimT Try.prog t19 := simT_cons m26 ( simT_cons m40 ( simT_cons m41 ( simT_cons m42 ( simT_cons m43 (simT_nil)))))
noncomputable def e19 : Fn := afn Try.prog (fun _ => false) t19 60 (areg Try.prog (fun _ => false) t19) 19
theorem m19 : Sim Try.prog 19 e19 := afn_sim tt19 (fun m => areg_sound tt19 hm m) 19 (by kernel_rfl)
noncomputable def t33 : Tbl := tget []
theorem tt33 : SimT Try.prog t33 := simT_nil
noncomputable def e33 : Fn := afn Try.prog (fun _ => false) t33 60 (areg Try.prog (fun _ => false) t33) 33
theorem m33 : Sim Try.prog 33 e33 := afn_sim tt33 (fun m => areg_sound tt33 hm m) 33 (by kernel_rfl)
noncomputable def t90 : Tbl := tget []
theorem tt90 : SimT Try.prog t90 := simT_nil
noncomputable def e90 : Fn := afn Try.prog (fun _ => false) t90 60 (areg Try.prog (fun _ => false) t90) 90
theorem m90 : Sim Try.prog 90 e90 := afn_sim tt90 (fun m => areg_sound tt90 hm m) 90 (by kernel_rfl)
noncomputable def t68 : Tbl := tget [(90, e90)]
theorem tt68 : SimT Try.prog t68 := simT_cons m90 (simT_nil)
noncomputable def e68 : Fn := afn Try.prog (fun _ => false) t68 60 (areg Try.prog (fun _ => false) t68) 68
theorem m68 : Sim Try.prog 68 e68 := afn_sim tt68 (fun m => areg_sound tt68 hm m) 68 (by kernel_rfl)
noncomputable def t34 (R : Nat → Fn) : Tbl := tget [(67, R 67), (32, e32)]
theorem tt34 {R : Nat → Fn} (hR : ∀ j, j ∈ [34, 67] → Sim Try.prog j (R j)) : SimT Try.prog (t34 R) := simT_cons (hR 67 (by decide)) ( simT_cons m32 (simT_nil))
noncomputable def t67 (R : Nat → Fn) : Tbl := tget [(34, R 34), (68, e68)]
theorem tt67 {R : Nat → Fn} (hR : ∀ j, j ∈ [34, 67] → Sim Try.prog j (R j)) : SimT Try.prog (t67 R) := simT_cons (hR 34 (by decide)) ( simT_cons m68 (simT_nil))
noncomputable def en34 : Nat → Nat → Fn
| 0 => fun _ _ _ => none
| n + 1 => fun j => ((tget [(34, afn Try.prog (fun _ => false) (t34 (en34 n)) 60 (areg Try.prog (fun _ => false) (t34 (en34 n))) 34), (67, afn Try.prog (fun _ => false) (t67 (en34 n)) 60 (areg Try.prog (fun _ => false) (t67 (en34 n))) 67)]) j).getD (fun _ _ => none)
theorem en34_34 (n : Nat) : en34 (n + 1) 34 = afn Try.prog (fun _ => false) (t34 (en34 n)) 60 (areg Try.prog (fun _ => false) (t34 (en34 n))) 34 := by kernel_rfl
theorem en34_67 (n : Nat) : en34 (n + 1) 67 = afn Try.prog (fun _ => false) (t67 (en34 n)) 60 (areg Try.prog (fun _ => false) (t67 (en34 n))) 67 := by kernel_rfl
theorem en34_ok : ∀ j, j ∈ [34, 67] → okFn Try.prog j = true := by
  intro j hj
  simp only [List.mem_cons, List.not_mem_nil, or_false] at hj
  rcases hj with rfl | rfl <;> kernel_rfl
theorem men34 : ∀ n j, j ∈ [34, 67] → Sim Try.prog j (en34 n j)
| 0, j, hj => ⟨en34_ok j hj, fun _ _ _ _ _ _ _ h => by cases h⟩
| n + 1, j, hj => by
  have ih := men34 n
  simp only [List.mem_cons, List.not_mem_nil, or_false] at hj
  rcases hj with rfl | rfl
  · rw [en34_34]; exact afn_sim (tt34 ih) (fun m => areg_sound (tt34 ih) hm m) 34 (by kernel_rfl)
  · rw [en34_67]; exact afn_sim (tt67 ih) (fun m => areg_sound (tt67 ih) hm m) 67 (by kernel_rfl)
noncomputable def e34 : Fn := en34 60 34
theorem m34 : Sim Try.prog 34 e34 := men34 60 34 (by decide)
noncomputable def e67 : Fn := en34 60 67
theorem m67 : Sim Try.prog 67 e67 := men34 60 67 (by decide)
noncomputable def t17 : Tbl := tget [(19, e19), (32, e32), (33, e33), (34, e34)]
theorem tt17 : SimT Try.prog t17 := simT_cons m19 ( simT_cons m32 ( simT_cons m33 ( simT_cons m34 (simT_nil))))
noncomputable def e17 : Fn := afn Try.prog (fun _ => false) t17 60 (areg Try.prog (fun _ => false) t17) 17
theorem m17 : Sim Try.prog 17 e17 := afn_sim tt17 (fun m => areg_sound tt17 hm m) 17 (by kernel_rfl)
noncomputable def t13 : Tbl := tget [(12, e12), (17, e17)]
theorem tt13 : SimT Try.prog t13 := simT_cons m12 ( simT_cons m17 (simT_nil))
noncomputable def e13 : Fn := afn Try.prog (fun _ => false) t13 60 (areg Try.prog (fun _ => false) t13) 13
theorem m13 : Sim Try.prog 13 e13 := afn_sim tt13 (fun m => areg_sound tt13 hm m) 13 (by kernel_rfl)
def isV (x : Res) (v : V) : Bool := match x with | some (.ret w, _) => V.eqB w v | _ => false
def val : V := (.bool true)
theorem run : isV (e13 [] St0) val = true := by kernel_rfl
theorem conc_some : (conc val).isSome = true := by kernel_rfl
theorem sim : Sim Try.prog 13 (fun args st => match args with | [] => some (.ret val, st) | _ => none) := by
  obtain ⟨v', hv⟩ := Option.isSome_iff_exists.1 conc_some
  have h : ∃ st', e13 [] St0 = some (.ret val, st') := by
    have := run
    unfold isV at this
    split at this
    · rename_i h; rw [V.eqB_eq _ _ this] at h; exact ⟨_, h⟩
    · cases this
  obtain ⟨st', h⟩ := h
  exact Sim.constV hv (by kernel_rfl) fun W => val_row m13 W hv h
end Go.Ab.Run13
namespace Go.Ab
open Go.Proofs
noncomputable def s13 : Fn := sealF (fun args st => match args with | [] => some (.ret Run13.val, st) | _ => none)
theorem sim13 : Sim Try.prog 13 s13 := Run13.sim.sealed
@[simp] theorem s13_val (st : St) : s13 [] st = some (.ret (.bool true), st) := by rw [s13, sealF_eq]; rfl
end Go.Ab
