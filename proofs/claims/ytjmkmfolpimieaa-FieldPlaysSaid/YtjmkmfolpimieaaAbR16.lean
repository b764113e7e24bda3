import Derived.Test.YtjmkmfolpimieaaAbConst
import Derived.Test.YtjmkmfolpimieaaAbI16
/- The closed call of function 13, run by the kernel; its law for every world. Printed by evalgen.py (our own program). -/
namespace Go.Ab.Run13
open Go.Proofs Go.RowKit
set_option maxRecDepth 100000
set_option linter.unusedVariables false
theorem hm : Try.prog.follows .mixedOrders = true := by kernel_rfl
noncomputable def e24 : Fn := a24
theorem m24 : Sim Try.prog 24 e24 := simu24
noncomputable def t22 : Tbl := tget []
theorem tt22 : SimT Try.prog t22 := simT_nil
noncomputable def e22 : Fn := afn Try.prog (fun _ => false) t22 40 (areg Try.prog (fun _ => false) t22) 22
theorem m22 : Sim Try.prog 22 e22 := afn_sim tt22 (fun m => areg_sound tt22 hm m) 22 (by kernel_rfl)
noncomputable def t7 : Tbl := tget []
theorem tt7 : SimT Try.prog t7 := simT_nil
noncomputable def e7 : Fn := afn Try.prog (fun _ => false) t7 40 (areg Try.prog (fun _ => false) t7) 7
theorem m7 : Sim Try.prog 7 e7 := afn_sim tt7 (fun m => areg_sound tt7 hm m) 7 (by kernel_rfl)
noncomputable def t23 : Tbl := tget [(22, e22)]
theorem tt23 : SimT Try.prog t23 := simT_cons m22 (simT_nil)
noncomputable def e23 : Fn := afn Try.prog (fun _ => false) t23 40 (areg Try.prog (fun _ => false) t23) 23
theorem m23 : Sim Try.prog 23 e23 := afn_sim tt23 (fun m => areg_sound tt23 hm m) 23 (by kernel_rfl)
noncomputable def t9 : Tbl := tget [(22, e22)]
theorem tt9 : SimT Try.prog t9 := simT_cons m22 (simT_nil)
noncomputable def e9 : Fn := afn Try.prog (fun _ => false) t9 40 (areg Try.prog (fun _ => false) t9) 9
theorem m9 : Sim Try.prog 9 e9 := afn_sim tt9 (fun m => areg_sound tt9 hm m) 9 (by kernel_rfl)
noncomputable def t10 : Tbl := tget [(9, e9), (23, e23)]
theorem tt10 : SimT Try.prog t10 := simT_cons m9 ( simT_cons m23 (simT_nil))
noncomputable def e10 : Fn := afn Try.prog (fun _ => false) t10 40 (areg Try.prog (fun _ => false) t10) 10
theorem m10 : Sim Try.prog 10 e10 := afn_sim tt10 (fun m => areg_sound tt10 hm m) 10 (by kernel_rfl)
noncomputable def t11 : Tbl := tget [(23, e23)]
theorem tt11 : SimT Try.prog t11 := simT_cons m23 (simT_nil)
noncomputable def e11 : Fn := afn Try.prog (fun _ => false) t11 40 (areg Try.prog (fun _ => false) t11) 11
theorem m11 : Sim Try.prog 11 e11 := afn_sim tt11 (fun m => areg_sound tt11 hm m) 11 (by kernel_rfl)
noncomputable def t25 : Tbl := tget []
theorem tt25 : SimT Try.prog t25 := simT_nil
noncomputable def e25 : Fn := afn Try.prog (fun _ => false) t25 40 (areg Try.prog (fun _ => false) t25) 25
theorem m25 : Sim Try.prog 25 e25 := afn_sim tt25 (fun m => areg_sound tt25 hm m) 25 (by kernel_rfl)
noncomputable def t12 : Tbl := tget [(22, e22), (24, e24), (25, e25)]
theorem tt12 : SimT Try.prog t12 := simT_cons m22 ( simT_cons m24 ( simT_cons m25 (simT_nil)))
noncomputable def e12 : Fn := afn Try.prog (fun _ => false) t12 40 (areg Try.prog (fun _ => false) t12) 12
theorem m12 : Sim Try.prog 12 e12 := afn_sim tt12 (fun m => areg_sound tt12 hm m) 12 (by kernel_rfl)
noncomputable def t8 : Tbl := tget [(12, e12)]
theorem tt8 : SimT Try.prog t8 := simT_cons m12 (simT_nil)
noncomputable def e8 : Fn := afn Try.prog (fun _ => false) t8 40 (areg Try.prog (fun _ => false) t8) 8
theorem m8 : Sim Try.prog 8 e8 := afn_sim tt8 (fun m => areg_sound tt8 hm m) 8 (by kernel_rfl)
noncomputable def t13 : Tbl := tget [(7, e7), (8, e8), (9, e9), (10, e10), (11, e11)]
theorem tt13 : SimT Try.prog t13 := simT_cons m7 ( simT_cons m8 ( simT_cons m9 ( simT_cons m10 ( simT_cons m11 (simT_nil)))))
noncomputable def e13 : Fn := afn Try.prog (fun _ => false) t13 40 (areg Try.prog (fun _ => false) t13) 13
theorem m13 : Sim Try.prog 13 e13 := afn_sim tt13 (fun m => areg_sound tt13 hm m) 13 (by kernel_rfl)
def isV (x : Res) (v : V) : Bool := match x with | some (.ret w, _) => V.eqB w v | _ => false
def val : V := (.bool true)
theorem run : isV (e13 [] St0) val = true := by kernel_rfl
theorem conc_some : (conc val).isSome = true := by kernel_rfl
theorem sim : Sim Try.prog 13 (fun args st => match args with | [] => some (.ret val, st) | _ => none) := by
  obtain ⟨v', hv⟩ := Option.isSome_iff_exists.1 conc_some
  have h : ∃ st', e13 [] St0 = some (.ret val, st') := by
    have := run
    unfold isV at this
    split at this
    · rename_i h; rw [V.eqB_eq _ _ this] at h; exact ⟨_, h⟩
    · cases this
  obtain ⟨st', h⟩ := h
  exact Sim.constV hv (by kernel_rfl) fun W => val_row m13 W hv h
end Go.Ab.Run13
namespace Go.Ab
open Go.Proofs
noncomputable def s13 : Fn := sealF (fun args st => match args with | [] => some (.ret Run13.val, st) | _ => none)
theorem sim13 : Sim Try.prog 13 s13 := Run13.sim.sealed
@[simp] theorem s13_val (st : St) : s13 [] st = some (.ret (.bool true), st) := by rw [s13, sealF_eq]; rfl
end Go.Ab
