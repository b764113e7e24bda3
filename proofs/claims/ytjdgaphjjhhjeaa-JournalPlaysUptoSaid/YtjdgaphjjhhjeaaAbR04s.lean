import Derived.Test.YtjdgaphjjhhjeaaAbConst
import Derived.Test.YtjdgaphjjhhjeaaAbB04
/- The closed call of function 50, run by the kernel; its law for every world. Printed by evalgen.py (our own program). -/
namespace Go.Ab.Run50
open Go.Proofs Go.RowKit
set_option maxRecDepth 100000
set_option linter.unusedVariables false
theorem hm : Try.prog.follows .mixedOrders = true := by kernel_rfl
noncomputable def t50 : Tbl := tget []
theorem tt50 : SimT Try.prog t50 := simT_nil
noncomputable def e50 : Fn := afn Try.prog (fun _ => false) t50 40 (areg Try.prog (fun _ => false) t50) 50
theorem m50 : Sim Try.prog 50 e50 := afn_sim tt50 (fun m => areg_sound tt50 hm m) 50 (by kernel_rfl)
def isV (x : Res) (v : V) : Bool := match x with | some (.ret w, _) => V.eqB w v | _ => false
def val : V := (.agg [.int .u32 0, .int .u32 79764919, .int .u32 159529838, .int .u32 222504665, .int .u32 319059676, .int .u32 398814059, .int .u32 445009330, .int .u32 507990021, .int .u32 638119352, .int .u32 583659535, .int .u32 797628118, .int .u32 726387553, .int .u32 890018660, .int .u32 835552979, .int .u32 1015980042, .int .u32 944750013])
theorem run : isV (e50 [] St0) val = true := by kernel_rfl
theorem conc_some : (conc val).isSome = true := by kernel_rfl
theorem sim : Sim Try.prog 50 (fun args st => match args with | [] => some (.ret val, st) | _ => none) := by
  obtain ⟨v', hv⟩ := Option.isSome_iff_exists.1 conc_some
  have h : ∃ st', e50 [] St0 = some (.ret val, st') := by
    have := run
    unfold isV at this
    split at this
    · rename_i h; rw [V.eqB_eq _ _ this] at h; exact ⟨_, h⟩
    · cases this
  obtain ⟨st', h⟩ := h
  exact Sim.constV hv (by kernel_rfl) fun W => val_row m50 W hv h
end Go.Ab.Run50
namespace Go.Ab
open Go.Proofs
noncomputable def s50 : Fn := sealF (fun args st => match args with | [] => some (.ret Run50.val, st) | _ => none)
theorem sim50 : Sim Try.prog 50 s50 := Run50.sim.sealed
@[simp] theorem s50_val (st : St) : s50 [] st = some (.ret (.agg [.int .u32 0, .int .u32 79764919, .int .u32 159529838, .int .u32 222504665, .int .u32 319059676, .int .u32 398814059, .int .u32 445009330, .int .u32 507990021, .int .u32 638119352, .int .u32 583659535, .int .u32 797628118, .int .u32 726387553, .int .u32 890018660, .int .u32 835552979, .int .u32 1015980042, .int .u32 944750013]), st) := by rw [s50, sealF_eq]; rfl
end Go.Ab
