import Derived.Test.YtjdgaphjjhhjeaaAbConst
import Derived.Test.YtjdgaphjjhhjeaaAbB04
/- The closed call of function 11, run by the kernel; its law for every world. Printed by evalgen.py (our own program). -/
namespace Go.Ab.Run11
open Go.Proofs Go.RowKit
set_option maxRecDepth 100000
set_option linter.unusedVariables false
theorem hm : Try.prog.follows .mixedOrders = true := by kernel_rfl
noncomputable def e61 : Fn := A.cpchk 80
theorem m61 : Sim Try.prog 61 e61 := simu61
noncomputable def t9 : Tbl := tget []
theorem tt9 : SimT Try.prog t9 := simT_nil
noncomputable def e9 : Fn := afn Try.prog (fun _ => false) t9 60 (areg Try.prog (fun _ => false) t9) 9
theorem m9 : Sim Try.prog 9 e9 := afn_sim tt9 (fun m => areg_sound tt9 hm m) 9 (by kernel_rfl)
noncomputable def t56 : Tbl := tget []
theorem tt56 : SimT Try.prog t56 := simT_nil
noncomputable def e56 : Fn := afn Try.prog (fun _ => false) t56 60 (areg Try.prog (fun _ => false) t56) 56
theorem m56 : Sim Try.prog 56 e56 := afn_sim tt56 (fun m => areg_sound tt56 hm m) 56 (by kernel_rfl)
noncomputable def t57 : Tbl := tget []
theorem tt57 : SimT Try.prog t57 := simT_nil
noncomputable def e57 : Fn := afn Try.prog (fun _ => false) t57 60 (areg Try.prog (fun _ => false) t57) 57
theorem m57 : Sim Try.prog 57 e57 := afn_sim tt57 (fun m => areg_sound tt57 hm m) 57 (by kernel_rfl)
noncomputable def t70 : Tbl := tget [(56, e56), (57, e57)]
theorem tt70 : SimT Try.prog t70 := simT_cons m56 ( simT_cons m57 (simT_nil))
noncomputable def e70 : Fn := afn Try.prog (fun _ => false) t70 60 (areg Try.prog (fun _ => false) t70) 70
theorem m70 : Sim Try.prog 70 e70 := afn_sim tt70 (fun m => areg_sound tt70 hm m) 70 (by kernel_rfl)
noncomputable def t58 : Tbl := tget [(70, e70)]
theorem tt58 : SimT Try.prog t58 := simT_cons m70 (simT_nil)
noncomputable def e58 : Fn := afn Try.prog (fun _ => false) t58 60 (areg Try.prog (fun _ => false) t58) 58
theorem m58 : Sim Try.prog 58 e58 := afn_sim tt58 (fun m => areg_sound tt58 hm m) 58 (by kernel_rfl)
noncomputable def t71 : Tbl := tget [(56, e56), (57, e57)]
theorem tt71 : SimT Try.prog t71 := simT_cons m56 ( simT_cons m57 (simT_nil))
noncomputable def e71 : Fn := afn Try.prog (fun _ => false) t71 60 (areg Try.prog (fun _ => false) t71) 71
theorem m71 : Sim Try.prog 71 e71 := afn_sim tt71 (fun m => areg_sound tt71 hm m) 71 (by kernel_rfl)
noncomputable def t59 : Tbl := tget [(71, e71)]
theorem tt59 : SimT Try.prog t59 := simT_cons m71 (simT_nil)
noncomputable def e59 : Fn := afn Try.prog (fun _ => false) t59 60 (areg Try.prog (fun _ => false) t59) 59
theorem m59 : Sim Try.prog 59 e59 := afn_sim tt59 (fun m => areg_sound tt59 hm m) 59 (by kernel_rfl)
noncomputable def t42 : Tbl := tget [(58, e58), (59, e59)]
theorem tt42 : SimT Try.prog t42 := simT_cons m58 ( simT_cons m59 (simT_nil))
noncomputable def e42 : Fn := afn Try.prog (fun _ => false) t42 60 (areg Try.prog (fun _ => false) t42) 42
theorem m42 : Sim Try.prog 42 e42 := afn_sim tt42 (fun m => areg_sound tt42 hm m) 42 (by kernel_rfl)
noncomputable def t44 : Tbl := tget []
theorem tt44 : SimT Try.prog t44 := simT_nil
noncomputable def e44 : Fn := afn Try.prog (fun _ => false) t44 60 (areg Try.prog (fun _ => false) t44) 44
theorem m44 : Sim Try.prog 44 e44 := afn_sim tt44 (fun m => areg_sound tt44 hm m) 44 (by kernel_rfl)
noncomputable def t49 : Tbl := tget []
theorem tt49 : SimT Try.prog t49 := simT_nil
noncomputable def e49 : Fn := afn Try.prog (fun _ => false) t49 60 (areg Try.prog (fun _ => false) t49) 49
theorem m49 : Sim Try.prog 49 e49 := afn_sim tt49 (fun m => areg_sound tt49 hm m) 49 (by kernel_rfl)
noncomputable def t46 : Tbl := tget [(61, e61)]
theorem tt46 : SimT Try.prog t46 := simT_cons m61 (simT_nil)
noncomputable def e46 : Fn := afn Try.prog (fun _ => false) t46 60 (areg Try.prog (fun _ => false) t46) 46
theorem m46 : Sim Try.prog 46 e46 := afn_sim tt46 (fun m => areg_sound tt46 hm m) 46 (by kernel_rfl)
noncomputable def t48 : Tbl := tget []
theorem tt48 : SimT Try.prog t48 := simT_nil
noncomputable def e48 : Fn := afn Try.prog (fun _ => false) t48 60 (areg Try.prog (fun _ => false) t48) 48
theorem m48 : Sim Try.prog 48 e48 := afn_sim tt48 (fun m => areg_sound tt48 hm m) 48 (by kernel_rfl)
noncomputable def t60 : Tbl := tget [(48, e48)]
theorem tt60 : SimT Try.prog t60 := simT_cons m48 (simT_nil)
noncomputable def e60 : Fn := afn Try.prog (fun _ => false) t60 60 (areg Try.prog (fun _ => false) t60) 60
theorem m60 : Sim Try.prog 60 e60 := afn_sim tt60 (fun m => areg_sound tt60 hm m) 60 (by kernel_rfl)
noncomputable def t45 : Tbl := tget [(46, e46), (48, e48), (49, e49), (60, e60)]
theorem tt45 : SimT Try.prog t45 := simT_cons m46 ( simT_cons m48 ( simT_cons m49 ( simT_cons m60 (simT_nil))))
noncomputable def e45 : Fn := afn Try.prog (fun _ => false) t45 60 (areg Try.prog (fun _ => false) t45) 45
theorem m45 : Sim Try.prog 45 e45 := afn_sim tt45 (fun m => areg_sound tt45 hm m) 45 (by kernel_rfl)
noncomputable def t43 : Tbl := tget [(44, e44), (45, e45), (46, e46)]
theorem tt43 : SimT Try.prog t43 := simT_cons m44 ( simT_cons m45 ( simT_cons m46 (simT_nil)))
noncomputable def e43 : Fn := afn Try.prog (fun _ => false) t43 60 (areg Try.prog (fun _ => false) t43) 43
theorem m43 : Sim Try.prog 43 e43 := afn_sim tt43 (fun m => areg_sound tt43 hm m) 43 (by kernel_rfl)
noncomputable def t47 : Tbl := tget [(46, e46), (48, e48)]
theorem tt47 : SimT Try.prog t47 := simT_cons m46 ( simT_cons m48 (simT_nil))
noncomputable def e47 : Fn := afn Try.prog (fun _ => false) t47 60 (areg Try.prog (fun _ => false) t47) 47
theorem m47 : Sim Try.prog 47 e47 := afn_sim tt47 (fun m => areg_sound tt47 hm m) 47 (by kernel_rfl)
noncomputable def t33 : Tbl := tget [(42, e42), (43, e43), (44, e44), (47, e47), (49, e49)]
theorem tt33 : SimT Try.prog t33 := simT_cons m42 ( simT_cons m43 ( simT_cons m44 ( simT_cons m47 ( simT_cons m49 (simT_nil)))))
noncomputable def e33 : Fn := afn Try.prog (fun _ => false) t33 60 (areg Try.prog (fun _ => false) t33) 33
theorem m33 : Sim Try.prog 33 e33 := afn_sim tt33 (fun m => areg_sound tt33 hm m) 33 (by kernel_rfl)
noncomputable def t34 : Tbl := tget []
theorem tt34 : SimT Try.prog t34 := simT_nil
noncomputable def e34 : Fn := afn Try.prog (fun _ => false) t34 60 (areg Try.prog (fun _ => false) t34) 34
theorem m34 : Sim Try.prog 34 e34 := afn_sim tt34 (fun m => areg_sound tt34 hm m) 34 (by kernel_rfl)
noncomputable def t50 : Tbl := tget []
theorem tt50 : SimT Try.prog t50 := simT_nil
noncomputable def e50 : Fn := afn Try.prog (fun _ => false) t50 60 (areg Try.prog (fun _ => false) t50) 50
theorem m50 : Sim Try.prog 50 e50 := afn_sim tt50 (fun m => areg_sound tt50 hm m) 50 (by kernel_rfl)
noncomputable def t35 : Tbl := tget [(50, e50)]
theorem tt35 : SimT Try.prog t35 := simT_cons m50 (simT_nil)
noncomputable def e35 : Fn := afn Try.prog (fun _ => false) t35 60 (areg Try.prog (fun _ => false) t35) 35
theorem m35 : Sim Try.prog 35 e35 := afn_sim tt35 (fun m => areg_sound tt35 hm m) 35 (by kernel_rfl)
noncomputable def t22 : Tbl := tget [(33, e33), (34, e34), (35, e35)]
theorem tt22 : SimT Try.prog t22 := simT_cons m33 ( simT_cons m34 ( simT_cons m35 (simT_nil)))
noncomputable def e22 : Fn := afn Try.prog (fun _ => false) t22 60 (areg Try.prog (fun _ => false) t22) 22
theorem m22 : Sim Try.prog 22 e22 := afn_sim tt22 (fun m => areg_sound tt22 hm m) 22 (by kernel_rfl)
noncomputable def t23 : Tbl := tget []
theorem tt23 : SimT Try.prog t23 := simT_nil
noncomputable def e23 : Fn := afn Try.prog (fun _ => false) t23 60 (areg Try.prog (fun _ => false) t23) 23
theorem m23 : Sim Try.prog 23 e23 := afn_sim tt23 (fun m => areg_sound tt23 hm m) 23 (by kernel_rfl)
noncomputable def t12 : Tbl := tget [(22, e22), (23, e23)]
theorem tt12 : SimT Try.prog t12 := simT_cons m22 ( simT_cons m23 (simT_nil))
noncomputable def e12 : Fn := afn Try.prog (fun i => Nat.beq i 40) t12 60 (areg Try.prog (fun i => Nat.beq i 40) t12) 12
theorem m12 : Sim Try.prog 12 e12 := afn_sim tt12 (fun m => areg_sound tt12 hm m) 12 (by kernel_rfl)
noncomputable def t13 : Tbl := tget [(23, e23)]
theorem tt13 : SimT Try.prog t13 := simT_cons m23 (simT_nil)
noncomputable def e13 : Fn := afn Try.prog (fun _ => false) t13 60 (areg Try.prog (fun _ => false) t13) 13
theorem m13 : Sim Try.prog 13 e13 := afn_sim tt13 (fun m => areg_sound tt13 hm m) 13 (by kernel_rfl)
noncomputable def t51 : Tbl := tget []
theorem tt51 : SimT Try.prog t51 := simT_nil
noncomputable def e51 : Fn := afn Try.prog (fun _ => false) t51 60 (areg Try.prog (fun _ => false) t51) 51
theorem m51 : Sim Try.prog 51 e51 := afn_sim tt51 (fun m => areg_sound tt51 hm m) 51 (by kernel_rfl)
noncomputable def t63 : Tbl := tget []
theorem tt63 : SimT Try.prog t63 := simT_nil
noncomputable def e63 : Fn := afn Try.prog (fun _ => false) t63 60 (areg Try.prog (fun _ => false) t63) 63
theorem m63 : Sim Try.prog 63 e63 := afn_sim tt63 (fun m => areg_sound tt63 hm m) 63 (by kernel_rfl)
noncomputable def t62 : Tbl := tget [(63, e63)]
theorem tt62 : SimT Try.prog t62 := simT_cons m63 (simT_nil)
noncomputable def e62 : Fn := afn Try.prog (fun _ => false) t62 60 (areg Try.prog (fun _ => false) t62) 62
theorem m62 : Sim Try.prog 62 e62 := afn_sim tt62 (fun m => areg_sound tt62 hm m) 62 (by kernel_rfl)
noncomputable def t73 : Tbl := tget [(63, e63)]
theorem tt73 : SimT Try.prog t73 := simT_cons m63 (simT_nil)
noncomputable def e73 : Fn := afn Try.prog (fun _ => false) t73 60 (areg Try.prog (fun _ => false) t73) 73
theorem m73 : Sim Try.prog 73 e73 := afn_sim tt73 (fun m => areg_sound tt73 hm m) 73 (by kernel_rfl)
noncomputable def t65 : Tbl := tget [(63, e63), (73, e73)]
theorem tt65 : SimT Try.prog t65 := simT_cons m63 ( simT_cons m73 (simT_nil))
noncomputable def e65 : Fn := afn Try.prog (fun _ => false) t65 60 (areg Try.prog (fun _ => false) t65) 65
theorem m65 : Sim Try.prog 65 e65 := afn_sim tt65 (fun m => areg_sound tt65 hm m) 65 (by kernel_rfl)
noncomputable def t64 : Tbl := tget [(65, e65)]
theorem tt64 : SimT Try.prog t64 := simT_cons m65 (simT_nil)
noncomputable def e64 : Fn := afn Try.prog (fun _ => false) t64 60 (areg Try.prog (fun _ => false) t64) 64
theorem m64 : Sim Try.prog 64 e64 := afn_sim tt64 (fun m => areg_sound tt64 hm m) 64 (by kernel_rfl)
noncomputable def t52 : Tbl := tget [(42, e42), (62, e62), (64, e64)]
theorem tt52 : SimT Try.prog t52 := simT_cons m42 ( simT_cons m62 ( simT_cons m64 (simT_nil)))
noncomputable def e52 : Fn := afn Try.prog (fun _ => false) t52 60 (areg Try.prog (fun _ => false) t52) 52
theorem m52 : Sim Try.prog 52 e52 := afn_sim tt52 (fun m => areg_sound tt52 hm m) 52 (by kernel_rfl)
noncomputable def t36 : Tbl := tget [(35, e35), (51, e51), (52, e52)]
theorem tt36 : SimT Try.prog t36 := simT_cons m35 ( simT_cons m51 ( simT_cons m52 (simT_nil)))
noncomputable def e36 : Fn := afn Try.prog (fun _ => false) t36 60 (areg Try.prog (fun _ => false) t36) 36
theorem m36 : Sim Try.prog 36 e36 := afn_sim tt36 (fun m => areg_sound tt36 hm m) 36 (by kernel_rfl)
noncomputable def t24 : Tbl := tget [(36, e36)]
theorem tt24 : SimT Try.prog t24 := simT_cons m36 (simT_nil)
noncomputable def e24 : Fn := afn Try.prog (fun _ => false) t24 60 (areg Try.prog (fun _ => false) t24) 24
theorem m24 : Sim Try.prog 24 e24 := afn_sim tt24 (fun m => areg_sound tt24 hm m) 24 (by kernel_rfl)
noncomputable def t14 : Tbl := tget [(13, e13), (23, e23), (24, e24)]
theorem tt14 : SimT Try.prog t14 := simT_cons m13 ( simT_cons m23 ( simT_cons m24 (simT_nil)))
noncomputable def e14 : Fn := afn Try.prog (fun _ => false) t14 60 (areg Try.prog (fun _ => false) t14) 14
theorem m14 : Sim Try.prog 14 e14 := afn_sim tt14 (fun m => areg_sound tt14 hm m) 14 (by kernel_rfl)
noncomputable def t15 : Tbl := tget [(23, e23), (24, e24)]
theorem tt15 : SimT Try.prog t15 := simT_cons m23 ( simT_cons m24 (simT_nil))
noncomputable def e15 : Fn := afn Try.prog (fun _ => false) t15 60 (areg Try.prog (fun _ => false) t15) 15
theorem m15 : Sim Try.prog 15 e15 := afn_sim tt15 (fun m => areg_sound tt15 hm m) 15 (by kernel_rfl)
noncomputable def t17 : Tbl := tget [(23, e23)]
theorem tt17 : SimT Try.prog t17 := simT_cons m23 (simT_nil)
noncomputable def e17 : Fn := afn Try.prog (fun _ => false) t17 60 (areg Try.prog (fun _ => false) t17) 17
theorem m17 : Sim Try.prog 17 e17 := afn_sim tt17 (fun m => areg_sound tt17 hm m) 17 (by kernel_rfl)
noncomputable def t11 : Tbl := tget [(9, e9), (12, e12), (13, e13), (14, e14), (15, e15), (17, e17)]
theorem tt11 : SimT Try.prog t11 := simT_cons m9 ( simT_cons m12 ( simT_cons m13 ( simT_cons m14 ( simT_cons m15 ( simT_cons m17 (simT_nil))))))
noncomputable def e11 : Fn := afn Try.prog (fun _ => false) t11 60 (areg Try.prog (fun _ => false) t11) 11
theorem m11 : Sim Try.prog 11 e11 := afn_sim tt11 (fun m => areg_sound tt11 hm m) 11 (by kernel_rfl)
def isV (x : Res) (v : V) : Bool := match x with | some (.ret w, _) => V.eqB w v | _ => false
def val : V := (.bool true)
theorem run : isV (e11 [] St0) val = true := by kernel_rfl
theorem conc_some : (conc val).isSome = true := by kernel_rfl
theorem sim : Sim Try.prog 11 (fun args st => match args with | [] => some (.ret val, st) | _ => none) := by
  obtain ⟨v', hv⟩ := Option.isSome_iff_exists.1 conc_some
  have h : ∃ st', e11 [] St0 = some (.ret val, st') := by
    have := run
    unfold isV at this
    split at this
    · rename_i h; rw [V.eqB_eq _ _ this] at h; exact ⟨_, h⟩
    · cases this
  obtain ⟨st', h⟩ := h
  exact Sim.constV hv (by kernel_rfl) fun W => val_row m11 W hv h
end Go.Ab.Run11
namespace Go.Ab
open Go.Proofs
noncomputable def s11 : Fn := sealF (fun args st => match args with | [] => some (.ret Run11.val, st) | _ => none)
theorem sim11 : Sim Try.prog 11 s11 := Run11.sim.sealed
@[simp] theorem s11_val (st : St) : s11 [] st = some (.ret (.bool true), st) := by rw [s11, sealF_eq]; rfl
end Go.Ab
