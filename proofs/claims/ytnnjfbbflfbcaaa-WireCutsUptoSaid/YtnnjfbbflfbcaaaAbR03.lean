import Derived.Test.YtnnjfbbflfbcaaaAbConst
import Derived.Test.YtnnjfbbflfbcaaaAbB03
/- The closed call of function 10, run by the kernel; its law for every world. Printed by evalgen.py (our own program). -/
namespace Go.Ab.Run10
open Go.Proofs Go.RowKit
set_option maxRecDepth 100000
set_option linter.unusedVariables false
theorem hm : Try.prog.follows .mixedOrders = true := by kernel_rfl
noncomputable def e61 : Fn := A.cpchk 66
theorem m61 : Sim Try.prog 61 e61 := simu61
noncomputable def t22 : Tbl := tget []
theorem tt22 : SimT Try.prog t22 := simT_nil
noncomputable def e22 : Fn := afn Try.prog (fun _ => false) t22 40 (areg Try.prog (fun _ => false) t22) 22
theorem m22 : Sim Try.prog 22 e22 := afn_sim tt22 (fun m => areg_sound tt22 hm m) 22 (by kernel_rfl)
noncomputable def t34 : Tbl := tget []
theorem tt34 : SimT Try.prog t34 := simT_nil
noncomputable def e34 : Fn := afn Try.prog (fun _ => false) t34 40 (areg Try.prog (fun _ => false) t34) 34
theorem m34 : Sim Try.prog 34 e34 := afn_sim tt34 (fun m => areg_sound tt34 hm m) 34 (by kernel_rfl)
noncomputable def t23 : Tbl := tget [(34, e34)]
theorem tt23 : SimT Try.prog t23 := simT_cons m34 (simT_nil)
noncomputable def e23 : Fn := afn Try.prog (fun _ => false) t23 40 (areg Try.prog (fun _ => false) t23) 23
theorem m23 : Sim Try.prog 23 e23 := afn_sim tt23 (fun m => areg_sound tt23 hm m) 23 (by kernel_rfl)
noncomputable def t54 : Tbl := tget []
theorem tt54 : SimT Try.prog t54 := simT_nil
noncomputable def e54 : Fn := afn Try.prog (fun _ => false) t54 40 (areg Try.prog (fun _ => false) t54) 54
theorem m54 : Sim Try.prog 54 e54 := afn_sim tt54 (fun m => areg_sound tt54 hm m) 54 (by kernel_rfl)
noncomputable def t55 : Tbl := tget []
theorem tt55 : SimT Try.prog t55 := simT_nil
noncomputable def e55 : Fn := afn Try.prog (fun _ => false) t55 40 (areg Try.prog (fun _ => false) t55) 55
theorem m55 : Sim Try.prog 55 e55 := afn_sim tt55 (fun m => areg_sound tt55 hm m) 55 (by kernel_rfl)
noncomputable def t63 : Tbl := tget [(54, e54), (55, e55)]
theorem tt63 : SimT Try.prog t63 := simT_cons m54 ( simT_cons m55 (simT_nil))
noncomputable def e63 : Fn := afn Try.prog (fun _ => false) t63 40 (areg Try.prog (fun _ => false) t63) 63
theorem m63 : Sim Try.prog 63 e63 := afn_sim tt63 (fun m => areg_sound tt63 hm m) 63 (by kernel_rfl)
noncomputable def t56 : Tbl := tget [(63, e63)]
theorem tt56 : SimT Try.prog t56 := simT_cons m63 (simT_nil)
noncomputable def e56 : Fn := afn Try.prog (fun _ => false) t56 40 (areg Try.prog (fun _ => false) t56) 56
theorem m56 : Sim Try.prog 56 e56 := afn_sim tt56 (fun m => areg_sound tt56 hm m) 56 (by kernel_rfl)
noncomputable def t64 : Tbl := tget [(54, e54), (55, e55)]
theorem tt64 : SimT Try.prog t64 := simT_cons m54 ( simT_cons m55 (simT_nil))
noncomputable def e64 : Fn := afn Try.prog (fun _ => false) t64 40 (areg Try.prog (fun _ => false) t64) 64
theorem m64 : Sim Try.prog 64 e64 := afn_sim tt64 (fun m => areg_sound tt64 hm m) 64 (by kernel_rfl)
noncomputable def t57 : Tbl := tget [(64, e64)]
theorem tt57 : SimT Try.prog t57 := simT_cons m64 (simT_nil)
noncomputable def e57 : Fn := afn Try.prog (fun _ => false) t57 40 (areg Try.prog (fun _ => false) t57) 57
theorem m57 : Sim Try.prog 57 e57 := afn_sim tt57 (fun m => areg_sound tt57 hm m) 57 (by kernel_rfl)
noncomputable def t39 : Tbl := tget [(56, e56), (57, e57)]
theorem tt39 : SimT Try.prog t39 := simT_cons m56 ( simT_cons m57 (simT_nil))
noncomputable def e39 : Fn := afn Try.prog (fun _ => false) t39 40 (areg Try.prog (fun _ => false) t39) 39
theorem m39 : Sim Try.prog 39 e39 := afn_sim tt39 (fun m => areg_sound tt39 hm m) 39 (by kernel_rfl)
noncomputable def t36 : Tbl := tget []
theorem tt36 : SimT Try.prog t36 := simT_nil
noncomputable def e36 : Fn := afn Try.prog (fun _ => false) t36 40 (areg Try.prog (fun _ => false) t36) 36
theorem m36 : Sim Try.prog 36 e36 := afn_sim tt36 (fun m => areg_sound tt36 hm m) 36 (by kernel_rfl)
noncomputable def t35 : Tbl := tget [(36, e36)]
theorem tt35 : SimT Try.prog t35 := simT_cons m36 (simT_nil)
noncomputable def e35 : Fn := afn Try.prog (fun _ => false) t35 40 (areg Try.prog (fun _ => false) t35) 35
theorem m35 : Sim Try.prog 35 e35 := afn_sim tt35 (fun m => areg_sound tt35 hm m) 35 (by kernel_rfl)
noncomputable def t53 : Tbl := tget [(36, e36)]
theorem tt53 : SimT Try.prog t53 := simT_cons m36 (simT_nil)
noncomputable def e53 : Fn := afn Try.prog (fun _ => false) t53 40 (areg Try.prog (fun _ => false) t53) 53
theorem m53 : Sim Try.prog 53 e53 := afn_sim tt53 (fun m => areg_sound tt53 hm m) 53 (by kernel_rfl)
noncomputable def t38 : Tbl := tget [(36, e36), (53, e53)]
theorem tt38 : SimT Try.prog t38 := simT_cons m36 ( simT_cons m53 (simT_nil))
noncomputable def e38 : Fn := afn Try.prog (fun _ => false) t38 40 (areg Try.prog (fun _ => false) t38) 38
theorem m38 : Sim Try.prog 38 e38 := afn_sim tt38 (fun m => areg_sound tt38 hm m) 38 (by kernel_rfl)
noncomputable def t37 : Tbl := tget [(38, e38)]
theorem tt37 : SimT Try.prog t37 := simT_cons m38 (simT_nil)
noncomputable def e37 : Fn := afn Try.prog (fun _ => false) t37 40 (areg Try.prog (fun _ => false) t37) 37
theorem m37 : Sim Try.prog 37 e37 := afn_sim tt37 (fun m => areg_sound tt37 hm m) 37 (by kernel_rfl)
noncomputable def t24 : Tbl := tget [(35, e35), (37, e37), (39, e39)]
theorem tt24 : SimT Try.prog t24 := simT_cons m35 ( simT_cons m37 ( simT_cons m39 (simT_nil)))
noncomputable def e24 : Fn := afn Try.prog (fun _ => false) t24 40 (areg Try.prog (fun _ => false) t24) 24
theorem m24 : Sim Try.prog 24 e24 := afn_sim tt24 (fun m => areg_sound tt24 hm m) 24 (by kernel_rfl)
noncomputable def t11 : Tbl := tget [(22, e22), (23, e23), (24, e24)]
theorem tt11 : SimT Try.prog t11 := simT_cons m22 ( simT_cons m23 ( simT_cons m24 (simT_nil)))
noncomputable def e11 : Fn := afn Try.prog (fun _ => false) t11 40 (areg Try.prog (fun _ => false) t11) 11
theorem m11 : Sim Try.prog 11 e11 := afn_sim tt11 (fun m => areg_sound tt11 hm m) 11 (by kernel_rfl)
noncomputable def t13 : Tbl := tget [(11, e11)]
theorem tt13 : SimT Try.prog t13 := simT_cons m11 (simT_nil)
noncomputable def e13 : Fn := afn Try.prog (fun _ => false) t13 40 (areg Try.prog (fun _ => false) t13) 13
theorem m13 : Sim Try.prog 13 e13 := afn_sim tt13 (fun m => areg_sound tt13 hm m) 13 (by kernel_rfl)
noncomputable def t44 : Tbl := tget []
theorem tt44 : SimT Try.prog t44 := simT_nil
noncomputable def e44 : Fn := afn Try.prog (fun _ => false) t44 40 (areg Try.prog (fun _ => false) t44) 44
theorem m44 : Sim Try.prog 44 e44 := afn_sim tt44 (fun m => areg_sound tt44 hm m) 44 (by kernel_rfl)
noncomputable def t49 : Tbl := tget []
theorem tt49 : SimT Try.prog t49 := simT_nil
noncomputable def e49 : Fn := afn Try.prog (fun _ => false) t49 40 (areg Try.prog (fun _ => false) t49) 49
theorem m49 : Sim Try.prog 49 e49 := afn_sim tt49 (fun m => areg_sound tt49 hm m) 49 (by kernel_rfl)
noncomputable def t46 : Tbl := tget [(61, e61)]
theorem tt46 : SimT Try.prog t46 := simT_cons m61 (simT_nil)
noncomputable def e46 : Fn := afn Try.prog (fun _ => false) t46 40 (areg Try.prog (fun _ => false) t46) 46
theorem m46 : Sim Try.prog 46 e46 := afn_sim tt46 (fun m => areg_sound tt46 hm m) 46 (by kernel_rfl)
noncomputable def t48 : Tbl := tget []
theorem tt48 : SimT Try.prog t48 := simT_nil
noncomputable def e48 : Fn := afn Try.prog (fun _ => false) t48 40 (areg Try.prog (fun _ => false) t48) 48
theorem m48 : Sim Try.prog 48 e48 := afn_sim tt48 (fun m => areg_sound tt48 hm m) 48 (by kernel_rfl)
noncomputable def t60 : Tbl := tget [(48, e48)]
theorem tt60 : SimT Try.prog t60 := simT_cons m48 (simT_nil)
noncomputable def e60 : Fn := afn Try.prog (fun _ => false) t60 40 (areg Try.prog (fun _ => false) t60) 60
theorem m60 : Sim Try.prog 60 e60 := afn_sim tt60 (fun m => areg_sound tt60 hm m) 60 (by kernel_rfl)
noncomputable def t45 : Tbl := tget [(46, e46), (48, e48), (49, e49), (60, e60)]
theorem tt45 : SimT Try.prog t45 := simT_cons m46 ( simT_cons m48 ( simT_cons m49 ( simT_cons m60 (simT_nil))))
noncomputable def e45 : Fn := afn Try.prog (fun _ => false) t45 40 (areg Try.prog (fun _ => false) t45) 45
theorem m45 : Sim Try.prog 45 e45 := afn_sim tt45 (fun m => areg_sound tt45 hm m) 45 (by kernel_rfl)
noncomputable def t43 : Tbl := tget [(44, e44), (45, e45), (46, e46)]
theorem tt43 : SimT Try.prog t43 := simT_cons m44 ( simT_cons m45 ( simT_cons m46 (simT_nil)))
noncomputable def e43 : Fn := afn Try.prog (fun _ => false) t43 40 (areg Try.prog (fun _ => false) t43) 43
theorem m43 : Sim Try.prog 43 e43 := afn_sim tt43 (fun m => areg_sound tt43 hm m) 43 (by kernel_rfl)
noncomputable def t47 : Tbl := tget [(46, e46), (48, e48)]
theorem tt47 : SimT Try.prog t47 := simT_cons m46 ( simT_cons m48 (simT_nil))
noncomputable def e47 : Fn := afn Try.prog (fun _ => false) t47 40 (areg Try.prog (fun _ => false) t47) 47
theorem m47 : Sim Try.prog 47 e47 := afn_sim tt47 (fun m => areg_sound tt47 hm m) 47 (by kernel_rfl)
noncomputable def t30 : Tbl := tget [(39, e39), (43, e43), (44, e44), (47, e47), (49, e49)]
theorem tt30 : SimT Try.prog t30 := simT_cons m39 ( simT_cons m43 ( simT_cons m44 ( simT_cons m47 ( simT_cons m49 (simT_nil)))))
noncomputable def e30 : Fn := afn Try.prog (fun _ => false) t30 40 (areg Try.prog (fun _ => false) t30) 30
theorem m30 : Sim Try.prog 30 e30 := afn_sim tt30 (fun m => areg_sound tt30 hm m) 30 (by kernel_rfl)
noncomputable def t31 : Tbl := tget []
theorem tt31 : SimT Try.prog t31 := simT_nil
noncomputable def e31 : Fn := afn Try.prog (fun _ => false) t31 40 (areg Try.prog (fun _ => false) t31) 31
theorem m31 : Sim Try.prog 31 e31 := afn_sim tt31 (fun m => areg_sound tt31 hm m) 31 (by kernel_rfl)
noncomputable def t18 : Tbl := tget [(23, e23), (30, e30), (31, e31)]
theorem tt18 : SimT Try.prog t18 := simT_cons m23 ( simT_cons m30 ( simT_cons m31 (simT_nil)))
noncomputable def e18 : Fn := afn Try.prog (fun _ => false) t18 40 (areg Try.prog (fun _ => false) t18) 18
theorem m18 : Sim Try.prog 18 e18 := afn_sim tt18 (fun m => areg_sound tt18 hm m) 18 (by kernel_rfl)
noncomputable def t10 : Tbl := tget [(11, e11), (13, e13), (18, e18)]
theorem tt10 : SimT Try.prog t10 := simT_cons m11 ( simT_cons m13 ( simT_cons m18 (simT_nil)))
noncomputable def e10 : Fn := afn Try.prog (fun _ => false) t10 40 (areg Try.prog (fun _ => false) t10) 10
theorem m10 : Sim Try.prog 10 e10 := afn_sim tt10 (fun m => areg_sound tt10 hm m) 10 (by kernel_rfl)
def isV (x : Res) (v : V) : Bool := match x with | some (.ret w, _) => V.eqB w v | _ => false
def val : V := (.bool true)
theorem run : isV (e10 [] St0) val = true := by kernel_rfl
theorem conc_some : (conc val).isSome = true := by kernel_rfl
theorem sim : Sim Try.prog 10 (fun args st => match args with | [] => some (.ret val, st) | _ => none) := by
  obtain ⟨v', hv⟩ := Option.isSome_iff_exists.1 conc_some
  have h : ∃ st', e10 [] St0 = some (.ret val, st') := by
    have := run
    unfold isV at this
    split at this
    · rename_i h; rw [V.eqB_eq _ _ this] at h; exact ⟨_, h⟩
    · cases this
  obtain ⟨st', h⟩ := h
  exact Sim.constV hv (by kernel_rfl) fun W => val_row m10 W hv h
end Go.Ab.Run10
namespace Go.Ab
open Go.Proofs
noncomputable def s10 : Fn := sealF (fun args st => match args with | [] => some (.ret Run10.val, st) | _ => none)
theorem sim10 : Sim Try.prog 10 s10 := Run10.sim.sealed
@[simp] theorem s10_val (st : St) : s10 [] st = some (.ret (.bool true), st) := by rw [s10, sealF_eq]; rfl
end Go.Ab
