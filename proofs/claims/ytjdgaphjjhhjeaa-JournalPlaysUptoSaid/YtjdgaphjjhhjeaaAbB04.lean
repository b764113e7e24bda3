import Derived.Test.YtjdgaphjjhhjeaaAbBld
import Derived.Test.YtjdgaphjjhhjeaaProg
/- strings.Builder by the library's contracts, at this translation's numbers. -/
namespace Go.Ab.Bld
open Go.Shelf Go.RowKit Go.Proofs
def bldRen : Go.Shelf.Ren := ⟨fun | 166 => 46 | 169 => 49 | 240 => 61 | 276 => 72 | n => n, fun | 0 => 0 | 3 => 3 | 4 => 4 | 5 => 5 | 9 => 9 | 20 => 20 | 37 => 40 | 70 => 78 | 72 => 80 | 75 => 84 | 80 => 90 | 127 => 105 | 164 => 115 | n => n, fun | n => n⟩
theorem lays166 : Go.Proofs.Lays.n166 Try.prog bldRen := {
  mixed := by kernel_rfl
  f166 := Try.func46.trans (congrArg some (by kernel_rfl))
  f240 := Try.func61.trans (congrArg some (by kernel_rfl))
  f276 := Try.func72.trans (congrArg some (by kernel_rfl))
  t0 := Try.underlying0
  a0 := Try.isAgg0
  z0 := Try.sizeOf0
  v0 := Try.zeroValue0
  t3 := Try.underlying3
  a3 := Try.isAgg3
  z3 := Try.sizeOf3
  v3 := Try.zeroValue3
  t4 := Try.underlying4
  a4 := Try.isAgg4
  z4 := Try.sizeOf4
  v4 := Try.zeroValue4
  t9 := Try.underlying9
  a9 := Try.isAgg9
  z9 := Try.sizeOf9
  v9 := Try.zeroValue9
  t20 := Try.underlying20
  a20 := Try.isAgg20
  z20 := Try.sizeOf20
  v20 := Try.zeroValue20
  t37 := Try.underlying40
  a37 := Try.isAgg40
  z37 := Try.sizeOf40
  v37 := Try.zeroValue40
  t70 := Try.underlying78
  a70 := Try.isAgg78
  z70 := Try.sizeOf78
  v70 := Try.zeroValue78
  t72 := Try.underlying80
  a72 := Try.isAgg80
  z72 := Try.sizeOf80
  v72 := Try.zeroValue80
  t75 := Try.underlying84
  a75 := Try.isAgg84
  z75 := Try.sizeOf84
  v75 := Try.zeroValue84
  t164 := Try.underlying115
  a164 := Try.isAgg115
  z164 := Try.sizeOf115
  v164 := Try.zeroValue115 }
theorem bldExtra : Builder.Extra Try.prog bldRen := {
  sizeBuilder := by kernel_rfl
  liesBuilder := by kernel_rfl
  t5 := Try.underlying5
  a5 := Try.isAgg5
  z5 := Try.sizeOf5
  v5 := Try.zeroValue5
  infoByte := by kernel_rfl
  cellsByte := by kernel_rfl
  sizeByte := by kernel_rfl
  neB5 := by decide }
end Go.Ab.Bld
namespace Go.Ab
open Go.Proofs
noncomputable def s61 : Fn := sealF (A.cpchk 80)
theorem simu61 : Sim Try.prog 61 (A.cpchk 80) :=
  cpchk_sim (by kernel_rfl) (fun b w h => Any.Builder_copyCheck_used { Bld.lays166 with } Bld.bldExtra.toX72 b w h) (fun b w h0 h1 h2 => Any.Builder_copyCheck_fresh { Bld.lays166 with } Bld.bldExtra.toX72 b w h0 h1 h2)
theorem sim61 : Sim Try.prog 61 s61 := simu61.sealed
theorem s61_val {id : Nat} {x : List V} {st : St} (h : st.ob id = some (.cells (.bld 80 :: x))) : s61 [.ptr id 0] st = some (.ret (.tup []), st) := by
  rw [s61, sealF_eq]; simp [A.cpchk, h]
end Go.Ab
