import Derived.Test.YtnnjfbbflfbcaaaAbW03merged0
import Derived.Test.YtnnjfbbflfbcaaaAbDeep
/- Pack and Same, of notes whose rows still have tokens. -/
namespace Go.Ab
open Go.RowKit Go.Proofs
noncomputable def s18d : Fn := sealF (fun args st => s18 (args.map V.erD) st)
theorem sim18d : Sim Try.prog 18 s18d := sim18.deep.sealed
theorem s18d_eq (args : List V) (st : St) : s18d args st = s18 (args.map V.erD) st := by rw [s18d, sealF_eq]
noncomputable def s15d : Fn := sealF (fun args st => s15 (args.map V.erD) st)
theorem sim15d : Sim Try.prog 15 s15d := sim15.deep.sealed
theorem s15d_eq (args : List V) (st : St) : s15d args st = s15 (args.map V.erD) st := by rw [s15d, sealF_eq]
end Go.Ab
