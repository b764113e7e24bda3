import Derived.Test.YtimicmlpaaohoaaAbConst
import Derived.Test.YtimicmlpaaohoaaAbB15
/- The closed call of function 11, run by the kernel; its law for every world. Printed by evalgen.py (our own program). -/
namespace Go.Ab.Run11
open Go.Proofs Go.RowKit
set_option maxRecDepth 100000
set_option linter.unusedVariables false
theorem hm : Try.prog.follows .mixedOrders = true := by kernel_rfl
noncomputable def e72 : Fn := A.cpchk 98
theorem m72 : Sim Try.prog 72 e72 := simu72
noncomputable def t9 : Tbl := tget []
theorem tt9 : SimT Try.prog t9 := simT_nil
noncomputable def e9 : Fn := afn Try.prog (fun _ => false) t9 60 (areg Try.prog (fun _ => false) t9) 9
theorem m9 : Sim Try.prog 9 e9 := afn_sim tt9 (fun m => areg_sound tt9 hm m) 9 (by kernel_rfl)
noncomputable def t67 : Tbl := tget []
theorem tt67 : SimT Try.prog t67 := simT_nil
noncomputable def e67 : Fn := afn Try.prog (fun _ => false) t67 60 (areg Try.prog (fun _ => false) t67) 67
theorem m67 : Sim Try.prog 67 e67 := afn_sim tt67 (fun m => areg_sound tt67 hm m) 67 (by kernel_rfl)
noncomputable def t68 : Tbl := tget []
theorem tt68 : SimT Try.prog t68 := simT_nil
noncomputable def e68 : Fn := afn Try.prog (fun _ => false) t68 60 (areg Try.prog (fun _ => false) t68) 68
theorem m68 : Sim Try.prog 68 e68 := afn_sim tt68 (fun m => areg_sound tt68 hm m) 68 (by kernel_rfl)
noncomputable def t79 : Tbl := tget [(67, e67), (68, e68)]
theorem tt79 : SimT Try.prog t79 := simT_cons m67 ( simT_cons m68 (simT_nil))
noncomputable def e79 : Fn := afn Try.prog (fun _ => false) t79 60 (areg Try.prog (fun _ => false) t79) 79
theorem m79 : Sim Try.prog 79 e79 := afn_sim tt79 (fun m => areg_sound tt79 hm m) 79 (by kernel_rfl)
noncomputable def t69 : Tbl := tget [(79, e79)]
theorem tt69 : SimT Try.prog t69 := simT_cons m79 (simT_nil)
noncomputable def e69 : Fn := afn Try.prog (fun _ => false) t69 60 (areg Try.prog (fun _ => false) t69) 69
theorem m69 : Sim Try.prog 69 e69 := afn_sim tt69 (fun m => areg_sound tt69 hm m) 69 (by kernel_rfl)
noncomputable def t80 : Tbl := tget [(67, e67), (68, e68)]
theorem tt80 : SimT Try.prog t80 := simT_cons m67 ( simT_cons m68 (simT_nil))
noncomputable def e80 : Fn := afn Try.prog (fun _ => false) t80 60 (areg Try.prog (fun _ => false) t80) 80
theorem m80 : Sim Try.prog 80 e80 := afn_sim tt80 (fun m => areg_sound tt80 hm m) 80 (by kernel_rfl)
noncomputable def t70 : Tbl := tget [(80, e80)]
theorem tt70 : SimT Try.prog t70 := simT_cons m80 (simT_nil)
noncomputable def e70 : Fn := afn Try.prog (fun _ => false) t70 60 (areg Try.prog (fun _ => false) t70) 70
theorem m70 : Sim Try.prog 70 e70 := afn_sim tt70 (fun m => areg_sound tt70 hm m) 70 (by kernel_rfl)
noncomputable def t51 : Tbl := tget [(69, e69), (70, e70)]
theorem tt51 : SimT Try.prog t51 := simT_cons m69 ( simT_cons m70 (simT_nil))
noncomputable def e51 : Fn := afn Try.prog (fun _ => false) t51 60 (areg Try.prog (fun _ => false) t51) 51
theorem m51 : Sim Try.prog 51 e51 := afn_sim tt51 (fun m => areg_sound tt51 hm m) 51 (by kernel_rfl)
noncomputable def t53 : Tbl := tget []
theorem tt53 : SimT Try.prog t53 := simT_nil
noncomputable def e53 : Fn := afn Try.prog (fun _ => false) t53 60 (areg Try.prog (fun _ => false) t53) 53
theorem m53 : Sim Try.prog 53 e53 := afn_sim tt53 (fun m => areg_sound tt53 hm m) 53 (by kernel_rfl)
noncomputable def t58 : Tbl := tget []
theorem tt58 : SimT Try.prog t58 := simT_nil
noncomputable def e58 : Fn := afn Try.prog (fun _ => false) t58 60 (areg Try.prog (fun _ => false) t58) 58
theorem m58 : Sim Try.prog 58 e58 := afn_sim tt58 (fun m => areg_sound tt58 hm m) 58 (by kernel_rfl)
noncomputable def t55 : Tbl := tget [(72, e72)]
theorem tt55 : SimT Try.prog t55 := simT_cons m72 (simT_nil)
noncomputable def e55 : Fn := afn Try.prog (fun _ => false) t55 60 (areg Try.prog (fun _ => false) t55) 55
theorem m55 : Sim Try.prog 55 e55 := afn_sim tt55 (fun m => areg_sound tt55 hm m) 55 (by kernel_rfl)
noncomputable def t57 : Tbl := tget []
theorem tt57 : SimT Try.prog t57 := simT_nil
noncomputable def e57 : Fn := afn Try.prog (fun _ => false) t57 60 (areg Try.prog (fun _ => false) t57) 57
theorem m57 : Sim Try.prog 57 e57 := afn_sim tt57 (fun m => areg_sound tt57 hm m) 57 (by kernel_rfl)
noncomputable def t71 : Tbl := tget [(57, e57)]
theorem tt71 : SimT Try.prog t71 := simT_cons m57 (simT_nil)
noncomputable def e71 : Fn := afn Try.prog (fun _ => false) t71 60 (areg Try.prog (fun _ => false) t71) 71
theorem m71 : Sim Try.prog 71 e71 := afn_sim tt71 (fun m => areg_sound tt71 hm m) 71 (by kernel_rfl)
noncomputable def t54 : Tbl := tget [(55, e55), (57, e57), (58, e58), (71, e71)]
theorem tt54 : SimT Try.prog t54 := simT_cons m55 ( simT_cons m57 ( simT_cons m58 ( simT_cons m71 (simT_nil))))
noncomputable def e54 : Fn := afn Try.prog (fun _ => false) t54 60 (areg Try.prog (fun _ => false) t54) 54
theorem m54 : Sim Try.prog 54 e54 := afn_sim tt54 (fun m => areg_sound tt54 hm m) 54 (by kernel_rfl)
noncomputable def t52 : Tbl := tget [(53, e53), (54, e54), (55, e55)]
theorem tt52 : SimT Try.prog t52 := simT_cons m53 ( simT_cons m54 ( simT_cons m55 (simT_nil)))
noncomputable def e52 : Fn := afn Try.prog (fun _ => false) t52 60 (areg Try.prog (fun _ => false) t52) 52
theorem m52 : Sim Try.prog 52 e52 := afn_sim tt52 (fun m => areg_sound tt52 hm m) 52 (by kernel_rfl)
noncomputable def t56 : Tbl := tget [(55, e55), (57, e57)]
theorem tt56 : SimT Try.prog t56 := simT_cons m55 ( simT_cons m57 (simT_nil))
noncomputable def e56 : Fn := afn Try.prog (fun _ => false) t56 60 (areg Try.prog (fun _ => false) t56) 56
theorem m56 : Sim Try.prog 56 e56 := afn_sim tt56 (fun m => areg_sound tt56 hm m) 56 (by kernel_rfl)
noncomputable def t41 : Tbl := tget [(51, e51), (52, e52), (53, e53), (56, e56), (58, e58)]
theorem tt41 : SimT Try.prog t41 := simT_cons m51 ( simT_cons m52 ( simT_cons m53 ( simT_cons m56 ( simT_cons m58 (simT_nil)))))
noncomputable def e41 : Fn := afn Try.prog (fun _ => false) t41 60 (areg Try.prog (fun _ => false) t41) 41
theorem m41 : Sim Try.prog 41 e41 := afn_sim tt41 (fun m => areg_sound tt41 hm m) 41 (by kernel_rfl)
noncomputable def t42 : Tbl := tget []
theorem tt42 : SimT Try.prog t42 := simT_nil
noncomputable def e42 : Fn := afn Try.prog (fun _ => false) t42 60 (areg Try.prog (fun _ => false) t42) 42
theorem m42 : Sim Try.prog 42 e42 := afn_sim tt42 (fun m => areg_sound tt42 hm m) 42 (by kernel_rfl)
noncomputable def t59 : Tbl := tget []
theorem tt59 : SimT Try.prog t59 := simT_nil
noncomputable def e59 : Fn := afn Try.prog (fun _ => false) t59 60 (areg Try.prog (fun _ => false) t59) 59
theorem m59 : Sim Try.prog 59 e59 := afn_sim tt59 (fun m => areg_sound tt59 hm m) 59 (by kernel_rfl)
noncomputable def t43 : Tbl := tget [(59, e59)]
theorem tt43 : SimT Try.prog t43 := simT_cons m59 (simT_nil)
noncomputable def e43 : Fn := afn Try.prog (fun _ => false) t43 60 (areg Try.prog (fun _ => false) t43) 43
theorem m43 : Sim Try.prog 43 e43 := afn_sim tt43 (fun m => areg_sound tt43 hm m) 43 (by kernel_rfl)
noncomputable def t30 : Tbl := tget [(41, e41), (42, e42), (43, e43)]
theorem tt30 : SimT Try.prog t30 := simT_cons m41 ( simT_cons m42 ( simT_cons m43 (simT_nil)))
noncomputable def e30 : Fn := afn Try.prog (fun _ => false) t30 60 (areg Try.prog (fun _ => false) t30) 30
theorem m30 : Sim Try.prog 30 e30 := afn_sim tt30 (fun m => areg_sound tt30 hm m) 30 (by kernel_rfl)
noncomputable def t31 : Tbl := tget []
theorem tt31 : SimT Try.prog t31 := simT_nil
noncomputable def e31 : Fn := afn Try.prog (fun _ => false) t31 60 (areg Try.prog (fun _ => false) t31) 31
theorem m31 : Sim Try.prog 31 e31 := afn_sim tt31 (fun m => areg_sound tt31 hm m) 31 (by kernel_rfl)
noncomputable def t44 : Tbl := tget [(30, e30)]
theorem tt44 : SimT Try.prog t44 := simT_cons m30 (simT_nil)
noncomputable def e44 : Fn := afn Try.prog (fun _ => false) t44 60 (areg Try.prog (fun _ => false) t44) 44
theorem m44 : Sim Try.prog 44 e44 := afn_sim tt44 (fun m => areg_sound tt44 hm m) 44 (by kernel_rfl)
noncomputable def t32 : Tbl := tget [(44, e44)]
theorem tt32 : SimT Try.prog t32 := simT_cons m44 (simT_nil)
noncomputable def e32 : Fn := afn Try.prog (fun _ => false) t32 60 (areg Try.prog (fun _ => false) t32) 32
theorem m32 : Sim Try.prog 32 e32 := afn_sim tt32 (fun m => areg_sound tt32 hm m) 32 (by kernel_rfl)
noncomputable def t13 : Tbl := tget [(30, e30), (31, e31), (32, e32)]
theorem tt13 : SimT Try.prog t13 := simT_cons m30 ( simT_cons m31 ( simT_cons m32 (simT_nil)))
noncomputable def e13 : Fn := afn Try.prog (fun _ => false) t13 60 (areg Try.prog (fun _ => false) t13) 13
theorem m13 : Sim Try.prog 13 e13 := afn_sim tt13 (fun m => areg_sound tt13 hm m) 13 (by kernel_rfl)
noncomputable def t75 : Tbl := tget []
theorem tt75 : SimT Try.prog t75 := simT_nil
noncomputable def e75 : Fn := afn Try.prog (fun _ => false) t75 60 (areg Try.prog (fun _ => false) t75) 75
theorem m75 : Sim Try.prog 75 e75 := afn_sim tt75 (fun m => areg_sound tt75 hm m) 75 (by kernel_rfl)
noncomputable def t83 : Tbl := tget []
theorem tt83 : SimT Try.prog t83 := simT_nil
noncomputable def e83 : Fn := afn Try.prog (fun _ => false) t83 60 (areg Try.prog (fun _ => false) t83) 83
theorem m83 : Sim Try.prog 83 e83 := afn_sim tt83 (fun m => areg_sound tt83 hm m) 83 (by kernel_rfl)
noncomputable def t82 : Tbl := tget [(83, e83)]
theorem tt82 : SimT Try.prog t82 := simT_cons m83 (simT_nil)
noncomputable def e82 : Fn := afn Try.prog (fun _ => false) t82 60 (areg Try.prog (fun _ => false) t82) 82
theorem m82 : Sim Try.prog 82 e82 := afn_sim tt82 (fun m => areg_sound tt82 hm m) 82 (by kernel_rfl)
noncomputable def t87 : Tbl := tget [(83, e83)]
theorem tt87 : SimT Try.prog t87 := simT_cons m83 (simT_nil)
noncomputable def e87 : Fn := afn Try.prog (fun _ => false) t87 60 (areg Try.prog (fun _ => false) t87) 87
theorem m87 : Sim Try.prog 87 e87 := afn_sim tt87 (fun m => areg_sound tt87 hm m) 87 (by kernel_rfl)
noncomputable def t85 : Tbl := tget [(83, e83), (87, e87)]
theorem tt85 : SimT Try.prog t85 := simT_cons m83 ( simT_cons m87 (simT_nil))
noncomputable def e85 : Fn := afn Try.prog (fun _ => false) t85 60 (areg Try.prog (fun _ => false) t85) 85
theorem m85 : Sim Try.prog 85 e85 := afn_sim tt85 (fun m => areg_sound tt85 hm m) 85 (by kernel_rfl)
noncomputable def t84 : Tbl := tget [(85, e85)]
theorem tt84 : SimT Try.prog t84 := simT_cons m85 (simT_nil)
noncomputable def e84 : Fn := afn Try.prog (fun _ => false) t84 60 (areg Try.prog (fun _ => false) t84) 84
theorem m84 : Sim Try.prog 84 e84 := afn_sim tt84 (fun m => areg_sound tt84 hm m) 84 (by kernel_rfl)
noncomputable def t76 : Tbl := tget [(51, e51), (82, e82), (84, e84)]
theorem tt76 : SimT Try.prog t76 := simT_cons m51 ( simT_cons m82 ( simT_cons m84 (simT_nil)))
noncomputable def e76 : Fn := afn Try.prog (fun _ => false) t76 60 (areg Try.prog (fun _ => false) t76) 76
theorem m76 : Sim Try.prog 76 e76 := afn_sim tt76 (fun m => areg_sound tt76 hm m) 76 (by kernel_rfl)
noncomputable def t64 : Tbl := tget [(43, e43), (75, e75), (76, e76)]
theorem tt64 : SimT Try.prog t64 := simT_cons m43 ( simT_cons m75 ( simT_cons m76 (simT_nil)))
noncomputable def e64 : Fn := afn Try.prog (fun _ => false) t64 60 (areg Try.prog (fun _ => false) t64) 64
theorem m64 : Sim Try.prog 64 e64 := afn_sim tt64 (fun m => areg_sound tt64 hm m) 64 (by kernel_rfl)
noncomputable def t48 : Tbl := tget [(64, e64)]
theorem tt48 : SimT Try.prog t48 := simT_cons m64 (simT_nil)
noncomputable def e48 : Fn := afn Try.prog (fun _ => false) t48 60 (areg Try.prog (fun _ => false) t48) 48
theorem m48 : Sim Try.prog 48 e48 := afn_sim tt48 (fun m => areg_sound tt48 hm m) 48 (by kernel_rfl)
noncomputable def t35 : Tbl := tget [(48, e48)]
theorem tt35 : SimT Try.prog t35 := simT_cons m48 (simT_nil)
noncomputable def e35 : Fn := afn Try.prog (fun _ => false) t35 60 (areg Try.prog (fun _ => false) t35) 35
theorem m35 : Sim Try.prog 35 e35 := afn_sim tt35 (fun m => areg_sound tt35 hm m) 35 (by kernel_rfl)
noncomputable def t36 : Tbl := tget [(44, e44)]
theorem tt36 : SimT Try.prog t36 := simT_cons m44 (simT_nil)
noncomputable def e36 : Fn := afn Try.prog (fun _ => false) t36 60 (areg Try.prog (fun _ => false) t36) 36
theorem m36 : Sim Try.prog 36 e36 := afn_sim tt36 (fun m => areg_sound tt36 hm m) 36 (by kernel_rfl)
noncomputable def t19 : Tbl := tget [(31, e31), (35, e35), (36, e36)]
theorem tt19 : SimT Try.prog t19 := simT_cons m31 ( simT_cons m35 ( simT_cons m36 (simT_nil)))
noncomputable def e19 : Fn := afn Try.prog (fun _ => false) t19 60 (areg Try.prog (fun _ => false) t19) 19
theorem m19 : Sim Try.prog 19 e19 := afn_sim tt19 (fun m => areg_sound tt19 hm m) 19 (by kernel_rfl)
noncomputable def t22 : Tbl := tget [(31, e31)]
theorem tt22 : SimT Try.prog t22 := simT_cons m31 (simT_nil)
noncomputable def e22 : Fn := afn Try.prog (fun _ => false) t22 60 (areg Try.prog (fun _ => false) t22) 22
theorem m22 : Sim Try.prog 22 e22 := afn_sim tt22 (fun m => areg_sound tt22 hm m) 22 (by kernel_rfl)
noncomputable def t23 : Tbl := tget [(31, e31)]
theorem tt23 : SimT Try.prog t23 := simT_cons m31 (simT_nil)
noncomputable def e23 : Fn := afn Try.prog (fun _ => false) t23 60 (areg Try.prog (fun _ => false) t23) 23
theorem m23 : Sim Try.prog 23 e23 := afn_sim tt23 (fun m => areg_sound tt23 hm m) 23 (by kernel_rfl)
noncomputable def t16 : Tbl := tget [(31, e31), (32, e32)]
theorem tt16 : SimT Try.prog t16 := simT_cons m31 ( simT_cons m32 (simT_nil))
noncomputable def e16 : Fn := afn Try.prog (fun _ => false) t16 60 (areg Try.prog (fun _ => false) t16) 16
theorem m16 : Sim Try.prog 16 e16 := afn_sim tt16 (fun m => areg_sound tt16 hm m) 16 (by kernel_rfl)
noncomputable def t29 : Tbl := tget [(16, e16), (19, e19)]
theorem tt29 : SimT Try.prog t29 := simT_cons m16 ( simT_cons m19 (simT_nil))
noncomputable def e29 : Fn := afn Try.prog (fun _ => false) t29 60 (areg Try.prog (fun _ => false) t29) 29
theorem m29 : Sim Try.prog 29 e29 := afn_sim tt29 (fun m => areg_sound tt29 hm m) 29 (by kernel_rfl)
noncomputable def t11 : Tbl := tget [(9, e9), (13, e13), (19, e19), (22, e22), (23, e23), (29, e29)]
theorem tt11 : SimT Try.prog t11 := simT_cons m9 ( simT_cons m13 ( simT_cons m19 ( simT_cons m22 ( simT_cons m23 ( simT_cons m29 (simT_nil))))))
noncomputable def e11 : Fn := afn Try.prog (fun _ => false) t11 60 (areg Try.prog (fun _ => false) t11) 11
theorem m11 : Sim Try.prog 11 e11 := afn_sim tt11 (fun m => areg_sound tt11 hm m) 11 (by kernel_rfl)
def isV (x : Res) (v : V) : Bool := match x with | some (.ret w, _) => V.eqB w v | _ => false
def val : V := (.bool true)
theorem run : isV (e11 [] St0) val = true := by kernel_rfl
theorem conc_some : (conc val).isSome = true := by kernel_rfl
theorem sim : Sim Try.prog 11 (fun args st => match args with | [] => some (.ret val, st) | _ => none) := by
  obtain ⟨v', hv⟩ := Option.isSome_iff_exists.1 conc_some
  have h : ∃ st', e11 [] St0 = some (.ret val, st') := by
    have := run
    unfold isV at this
    split at this
    · rename_i h; rw [V.eqB_eq _ _ this] at h; exact ⟨_, h⟩
    · cases this
  obtain ⟨st', h⟩ := h
  exact Sim.constV hv (by kernel_rfl) fun W => val_row m11 W hv h
end Go.Ab.Run11
namespace Go.Ab
open Go.Proofs
noncomputable def s11 : Fn := sealF (fun args st => match args with | [] => some (.ret Run11.val, st) | _ => none)
theorem sim11 : Sim Try.prog 11 s11 := Run11.sim.sealed
@[simp] theorem s11_val (st : St) : s11 [] st = some (.ret (.bool true), st) := by rw [s11, sealF_eq]; rfl
end Go.Ab
