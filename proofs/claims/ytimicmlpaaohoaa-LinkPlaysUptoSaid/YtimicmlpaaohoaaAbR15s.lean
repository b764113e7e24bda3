import Derived.Test.YtimicmlpaaohoaaAbConst
import Derived.Test.YtimicmlpaaohoaaAbB15
/- The closed call of function 59, run by the kernel; its law for every world. Printed by evalgen.py (our own program). -/
namespace Go.Ab.Run59
open Go.Proofs Go.RowKit
set_option maxRecDepth 100000
set_option linter.unusedVariables false
theorem hm : Try.prog.follows .mixedOrders = true := by kernel_rfl
noncomputable def t59 : Tbl := tget []
theorem tt59 : SimT Try.prog t59 := simT_nil
noncomputable def e59 : Fn := afn Try.prog (fun _ => false) t59 40 (areg Try.prog (fun _ => false) t59) 59
theorem m59 : Sim Try.prog 59 e59 := afn_sim tt59 (fun m => areg_sound tt59 hm m) 59 (by kernel_rfl)
def isV (x : Res) (v : V) : Bool := match x with | some (.ret w, _) => V.eqB w v | _ => false
def val : V := (.agg [.int .u32 0, .int .u32 79764919, .int .u32 159529838, .int .u32 222504665, .int .u32 319059676, .int .u32 398814059, .int .u32 445009330, .int .u32 507990021, .int .u32 638119352, .int .u32 583659535, .int .u32 797628118, .int .u32 726387553, .int .u32 890018660, .int .u32 835552979, .int .u32 1015980042, .int .u32 944750013])
theorem run : isV (e59 [] St0) val = true := by kernel_rfl
theorem conc_some : (conc val).isSome = true := by kernel_rfl
theorem sim : Sim Try.prog 59 (fun args st => match args with | [] => some (.ret val, st) | _ => none) := by
  obtain ⟨v', hv⟩ := Option.isSome_iff_exists.1 conc_some
  have h : ∃ st', e59 [] St0 = some (.ret val, st') := by
    have := run
    unfold isV at this
    split at this
    · rename_i h; rw [V.eqB_eq _ _ this] at h; exact ⟨_, h⟩
    · cases this
  obtain ⟨st', h⟩ := h
  exact Sim.constV hv (by kernel_rfl) fun W => val_row m59 W hv h
end Go.Ab.Run59
namespace Go.Ab
open Go.Proofs
noncomputable def s59 : Fn := sealF (fun args st => match args with | [] => some (.ret Run59.val, st) | _ => none)
theorem sim59 : Sim Try.prog 59 s59 := Run59.sim.sealed
@[simp] theorem s59_val (st : St) : s59 [] st = some (.ret (.agg [.int .u32 0, .int .u32 79764919, .int .u32 159529838, .int .u32 222504665, .int .u32 319059676, .int .u32 398814059, .int .u32 445009330, .int .u32 507990021, .int .u32 638119352, .int .u32 583659535, .int .u32 797628118, .int .u32 726387553, .int .u32 890018660, .int .u32 835552979, .int .u32 1015980042, .int .u32 944750013]), st) := by rw [s59, sealF_eq]; rfl
end Go.Ab
