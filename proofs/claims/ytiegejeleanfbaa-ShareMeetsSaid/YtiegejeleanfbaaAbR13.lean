import Derived.Test.YtiegejeleanfbaaAbConst
import Derived.Test.YtiegejeleanfbaaProg
/- The closed call of function 11, run by the kernel; its law for every world. Printed by evalgen.py (our own program). -/
namespace Go.Ab.Run11
open Go.Proofs Go.RowKit
set_option maxRecDepth 100000
set_option linter.unusedVariables false
theorem hm : Try.prog.follows .mixedOrders = true := by kernel_rfl
noncomputable def t39 : Tbl := tget []
theorem tt39 : SimT Try.prog t39 := simT_nil
noncomputable def e39 : Fn := afn Try.prog (fun _ => false) t39 40 (areg Try.prog (fun _ => false) t39) 39
theorem m39 : Sim Try.prog 39 e39 := afn_sim tt39 (fun m => areg_sound tt39 hm m) 39 (by kernel_rfl)
noncomputable def t33 : Tbl := tget []
theorem tt33 : SimT Try.prog t33 := simT_nil
noncomputable def e33 : Fn := afn Try.prog (fun _ => false) t33 40 (areg Try.prog (fun _ => false) t33) 33
theorem m33 : Sim Try.prog 33 e33 := afn_sim tt33 (fun m => areg_sound tt33 hm m) 33 (by kernel_rfl)
noncomputable def t23 : Tbl := tget []
theorem tt23 : SimT Try.prog t23 := simT_nil
noncomputable def e23 : Fn := afn Try.prog (fun _ => false) t23 40 (areg Try.prog (fun _ => false) t23) 23
theorem m23 : Sim Try.prog 23 e23 := afn_sim tt23 (fun m => areg_sound tt23 hm m) 23 (by kernel_rfl)
noncomputable def t37 : Tbl := tget [(23, e23), (33, e33), (39, e39)]
theorem tt37 : SimT Try.prog t37 := simT_cons m23 ( simT_cons m33 ( simT_cons m39 (simT_nil)))
noncomputable def e37 : Fn := afn Try.prog (fun _ => false) t37 40 (areg Try.prog (fun _ => false) t37) 37
theorem m37 : Sim Try.prog 37 e37 := afn_sim tt37 (fun m => areg_sound tt37 hm m) 37 (by kernel_rfl)
noncomputable def t24 : Tbl := tget [(37, e37)]
theorem tt24 : SimT Try.prog t24 := simT_cons m37 (simT_nil)
noncomputable def e24 : Fn := afn Try.prog (fun _ => false) t24 40 (areg Try.prog (fun _ => false) t24) 24
theorem m24 : Sim Try.prog 24 e24 := afn_sim tt24 (fun m => areg_sound tt24 hm m) 24 (by kernel_rfl)
noncomputable def t26 : Tbl := tget []
theorem tt26 : SimT Try.prog t26 := simT_nil
noncomputable def e26 : Fn := afn Try.prog (fun _ => false) t26 40 (areg Try.prog (fun _ => false) t26) 26
theorem m26 : Sim Try.prog 26 e26 := afn_sim tt26 (fun m => areg_sound tt26 hm m) 26 (by kernel_rfl)
noncomputable def t31 : Tbl := tget [(24, e24), (26, e26)]
theorem tt31 : SimT Try.prog t31 := simT_cons m24 ( simT_cons m26 (simT_nil))
noncomputable def e31 : Fn := afn Try.prog (fun _ => false) t31 40 (areg Try.prog (fun _ => false) t31) 31
theorem m31 : Sim Try.prog 31 e31 := afn_sim tt31 (fun m => areg_sound tt31 hm m) 31 (by kernel_rfl)
noncomputable def t41 : Tbl := tget []
theorem tt41 : SimT Try.prog t41 := simT_nil
noncomputable def e41 : Fn := afn Try.prog (fun _ => false) t41 40 (areg Try.prog (fun _ => false) t41) 41
theorem m41 : Sim Try.prog 41 e41 := afn_sim tt41 (fun m => areg_sound tt41 hm m) 41 (by kernel_rfl)
noncomputable def t38 : Tbl := tget [(41, e41)]
theorem tt38 : SimT Try.prog t38 := simT_cons m41 (simT_nil)
noncomputable def e38 : Fn := afn Try.prog (fun _ => false) t38 40 (areg Try.prog (fun _ => false) t38) 38
theorem m38 : Sim Try.prog 38 e38 := afn_sim tt38 (fun m => areg_sound tt38 hm m) 38 (by kernel_rfl)
noncomputable def t28 : Tbl := tget [(38, e38)]
theorem tt28 : SimT Try.prog t28 := simT_cons m38 (simT_nil)
noncomputable def e28 : Fn := afn Try.prog (fun _ => false) t28 40 (areg Try.prog (fun _ => false) t28) 28
theorem m28 : Sim Try.prog 28 e28 := afn_sim tt28 (fun m => areg_sound tt28 hm m) 28 (by kernel_rfl)
noncomputable def t27 : Tbl := tget []
theorem tt27 : SimT Try.prog t27 := simT_nil
noncomputable def e27 : Fn := afn Try.prog (fun _ => false) t27 40 (areg Try.prog (fun _ => false) t27) 27
theorem m27 : Sim Try.prog 27 e27 := afn_sim tt27 (fun m => areg_sound tt27 hm m) 27 (by kernel_rfl)
noncomputable def t25 (R : Fn) : Tbl := tget [(25, R), (26, e26), (27, e27), (28, e28)]
theorem tt25 {R : Fn} (h : Sim Try.prog 25 R) : SimT Try.prog (t25 R) := simT_cons h (simT_cons m26 ( simT_cons m27 ( simT_cons m28 (simT_nil))))
noncomputable def e25n : Nat → Fn
| 0 => fun _ _ => none
| n + 1 => afn Try.prog (fun _ => false) (t25 (e25n n)) 40 (areg Try.prog (fun _ => false) (t25 (e25n n))) 25
noncomputable def e25 : Fn := e25n 40
theorem m25n : ∀ n, Sim Try.prog 25 (e25n n)
| 0 => ⟨by kernel_rfl, fun _ _ _ _ _ _ _ h => by cases h⟩
| n + 1 => afn_sim (tt25 (m25n n)) (fun m => areg_sound (tt25 (m25n n)) hm m) 25 (by kernel_rfl)
theorem m25 : Sim Try.prog 25 e25 := m25n 40
noncomputable def t12 : Tbl := tget [(23, e23), (24, e24), (25, e25)]
theorem tt12 : SimT Try.prog t12 := simT_cons m23 ( simT_cons m24 ( simT_cons m25 (simT_nil)))
noncomputable def e12 : Fn := afn Try.prog (fun _ => false) t12 40 (areg Try.prog (fun _ => false) t12) 12
theorem m12 : Sim Try.prog 12 e12 := afn_sim tt12 (fun m => areg_sound tt12 hm m) 12 (by kernel_rfl)
noncomputable def t14 : Tbl := tget []
theorem tt14 : SimT Try.prog t14 := simT_nil
noncomputable def e14 : Fn := afn Try.prog (fun _ => false) t14 40 (areg Try.prog (fun _ => false) t14) 14
theorem m14 : Sim Try.prog 14 e14 := afn_sim tt14 (fun m => areg_sound tt14 hm m) 14 (by kernel_rfl)
noncomputable def t16 : Tbl := tget [(26, e26), (31, e31)]
theorem tt16 : SimT Try.prog t16 := simT_cons m26 ( simT_cons m31 (simT_nil))
noncomputable def e16 : Fn := afn Try.prog (fun _ => false) t16 40 (areg Try.prog (fun _ => false) t16) 16
theorem m16 : Sim Try.prog 16 e16 := afn_sim tt16 (fun m => areg_sound tt16 hm m) 16 (by kernel_rfl)
noncomputable def t40 : Tbl := tget []
theorem tt40 : SimT Try.prog t40 := simT_nil
noncomputable def e40 : Fn := afn Try.prog (fun _ => false) t40 40 (areg Try.prog (fun _ => false) t40) 40
theorem m40 : Sim Try.prog 40 e40 := afn_sim tt40 (fun m => areg_sound tt40 hm m) 40 (by kernel_rfl)
noncomputable def t35 : Tbl := tget [(40, e40)]
theorem tt35 : SimT Try.prog t35 := simT_cons m40 (simT_nil)
noncomputable def e35 : Fn := afn Try.prog (fun _ => false) t35 40 (areg Try.prog (fun _ => false) t35) 35
theorem m35 : Sim Try.prog 35 e35 := afn_sim tt35 (fun m => areg_sound tt35 hm m) 35 (by kernel_rfl)
noncomputable def t21 : Tbl := tget [(35, e35)]
theorem tt21 : SimT Try.prog t21 := simT_cons m35 (simT_nil)
noncomputable def e21 : Fn := afn Try.prog (fun _ => false) t21 40 (areg Try.prog (fun _ => false) t21) 21
theorem m21 : Sim Try.prog 21 e21 := afn_sim tt21 (fun m => areg_sound tt21 hm m) 21 (by kernel_rfl)
noncomputable def t18 : Tbl := tget [(21, e21), (24, e24), (31, e31)]
theorem tt18 : SimT Try.prog t18 := simT_cons m21 ( simT_cons m24 ( simT_cons m31 (simT_nil)))
noncomputable def e18 : Fn := afn Try.prog (fun i => Nat.beq i 44) t18 40 (areg Try.prog (fun i => Nat.beq i 44) t18) 18
theorem m18 : Sim Try.prog 18 e18 := afn_sim tt18 (fun m => areg_sound tt18 hm m) 18 (by kernel_rfl)
noncomputable def t11 : Tbl := tget [(12, e12), (14, e14), (16, e16), (18, e18)]
theorem tt11 : SimT Try.prog t11 := simT_cons m12 ( simT_cons m14 ( simT_cons m16 ( simT_cons m18 (simT_nil))))
noncomputable def e11 : Fn := afn Try.prog (fun _ => false) t11 40 (areg Try.prog (fun _ => false) t11) 11
theorem m11 : Sim Try.prog 11 e11 := afn_sim tt11 (fun m => areg_sound tt11 hm m) 11 (by kernel_rfl)
def isV (x : Res) (v : V) : Bool := match x with | some (.ret w, _) => V.eqB w v | _ => false
def val : V := (.bool true)
theorem run : isV (e11 [] St0) val = true := by kernel_rfl
theorem conc_some : (conc val).isSome = true := by kernel_rfl
theorem sim : Sim Try.prog 11 (fun args st => match args with | [] => some (.ret val, st) | _ => none) := by
  obtain ⟨v', hv⟩ := Option.isSome_iff_exists.1 conc_some
  have h : ∃ st', e11 [] St0 = some (.ret val, st') := by
    have := run
    unfold isV at this
    split at this
    · rename_i h; rw [V.eqB_eq _ _ this] at h; exact ⟨_, h⟩
    · cases this
  obtain ⟨st', h⟩ := h
  exact Sim.constV hv (by kernel_rfl) fun W => val_row m11 W hv h
end Go.Ab.Run11
namespace Go.Ab
open Go.Proofs
noncomputable def s11 : Fn := sealF (fun args st => match args with | [] => some (.ret Run11.val, st) | _ => none)
theorem sim11 : Sim Try.prog 11 s11 := Run11.sim.sealed
@[simp] theorem s11_val (st : St) : s11 [] st = some (.ret (.bool true), st) := by rw [s11, sealF_eq]; rfl
end Go.Ab
