import Derived.Test.YtimicmlpaaohoaaAbBld
import Derived.Test.YtimicmlpaaohoaaProg
/- strings.Builder by the library's contracts, at this translation's numbers. -/
namespace Go.Ab.Bld
open Go.Shelf Go.RowKit Go.Proofs
def bldRen : Go.Shelf.Ren := ⟨fun | 166 => 55 | 169 => 58 | 240 => 72 | 276 => 81 | n => n, fun | 0 => 0 | 3 => 3 | 4 => 4 | 5 => 5 | 9 => 9 | 20 => 20 | 37 => 96 | 70 => 95 | 72 => 98 | 75 => 101 | 80 => 106 | 127 => 116 | 164 => 124 | n => n, fun | n => n⟩
theorem lays166 : Go.Proofs.Lays.n166 Try.prog bldRen := {
  mixed := by kernel_rfl
  f166 := Try.func55.trans (congrArg some (by kernel_rfl))
  f240 := Try.func72.trans (congrArg some (by kernel_rfl))
  f276 := Try.func81.trans (congrArg some (by kernel_rfl))
  t0 := Try.underlying0
  a0 := Try.isAgg0
  z0 := Try.sizeOf0
  v0 := Try.zeroValue0
  t3 := Try.underlying3
  a3 := Try.isAgg3
  z3 := Try.sizeOf3
  v3 := Try.zeroValue3
  t4 := Try.underlying4
  a4 := Try.isAgg4
  z4 := Try.sizeOf4
  v4 := Try.zeroValue4
  t9 := Try.underlying9
  a9 := Try.isAgg9
  z9 := Try.sizeOf9
  v9 := Try.zeroValue9
  t20 := Try.underlying20
  a20 := Try.isAgg20
  z20 := Try.sizeOf20
  v20 := Try.zeroValue20
  t37 := Try.underlying96
  a37 := Try.isAgg96
  z37 := Try.sizeOf96
  v37 := Try.zeroValue96
  t70 := Try.underlying95
  a70 := Try.isAgg95
  z70 := Try.sizeOf95
  v70 := Try.zeroValue95
  t72 := Try.underlying98
  a72 := Try.isAgg98
  z72 := Try.sizeOf98
  v72 := Try.zeroValue98
  t75 := Try.underlying101
  a75 := Try.isAgg101
  z75 := Try.sizeOf101
  v75 := Try.zeroValue101
  t164 := Try.underlying124
  a164 := Try.isAgg124
  z164 := Try.sizeOf124
  v164 := Try.zeroValue124 }
theorem bldExtra : Builder.Extra Try.prog bldRen := {
  sizeBuilder := by kernel_rfl
  liesBuilder := by kernel_rfl
  t5 := Try.underlying5
  a5 := Try.isAgg5
  z5 := Try.sizeOf5
  v5 := Try.zeroValue5
  infoByte := by kernel_rfl
  cellsByte := by kernel_rfl
  sizeByte := by kernel_rfl
  neB5 := by decide }
end Go.Ab.Bld
namespace Go.Ab
open Go.Proofs
noncomputable def s72 : Fn := sealF (A.cpchk 98)
theorem simu72 : Sim Try.prog 72 (A.cpchk 98) :=
  cpchk_sim (by kernel_rfl) (fun b w h => Any.Builder_copyCheck_used { Bld.lays166 with } Bld.bldExtra.toX72 b w h) (fun b w h0 h1 h2 => Any.Builder_copyCheck_fresh { Bld.lays166 with } Bld.bldExtra.toX72 b w h0 h1 h2)
theorem sim72 : Sim Try.prog 72 s72 := simu72.sealed
theorem s72_val {id : Nat} {x : List V} {st : St} (h : st.ob id = some (.cells (.bld 98 :: x))) : s72 [.ptr id 0] st = some (.ret (.tup []), st) := by
  rw [s72, sealF_eq]; simp [A.cpchk, h]
end Go.Ab
