import Derived.Test.YtmbaebedkobijaaAbS05
import Derived.Test.YtmbaebedkobijaaHsort
/- sinew/words: slices.SortFunc is what it is. -/
namespace Go.Ab
open Go.RowKit Go.Proofs Go.Sort Go.Lib Go.Shelf
set_option linter.unusedVariables false
set_option linter.unusedSimpArgs false
def encF {m : Nat} (x : Fin m) : Value := .int .i64 ((x.val : Nat) : Int)
theorem sortTotal {m : Nat} [Inhabited (Fin m)] (cf : Fin m → Fin m → Int) (hO : SWO (ltOf cf)) (cb : Array Value) (blk off cap : Nat) (d : Array (Fin m)) (w : World) (hcmp : CmpLays1 Try.prog 25 cb encF cf blk off d.size w) (hH : Holds encF w blk off d) (hblk : blk < w.heap.size) (hsz : d.size < 4611686018427387904) (hT : ∀ x y, (ltOf cf) x y = false → (ltOf cf) y x = false → x = y) :
    Calls Try.prog 24 #[.slice (some ⟨blk, off, none⟩) d.size cap, .func (.func 25) #[] cb] w fun e w' => e = .returned (.tuple #[]) ∧ ∃ n os, w' = sortWorld encF w blk off n (d.toList.mergeSort fun x y => !(ltOf cf) y x).toArray os := by
  have eg : ∀ args w, (callFunc 25 args).run Try.prog w = .ok (.enter 25 args) w := enters_of Try.func25 (by kernel_rfl) rfl
  exact Any.slices_SortFunc_total Try.sortL encF (fun _ => rfl) cf hO 25 cb blk off cap d w eg hcmp hH hblk hsz hT
theorem sortNone (p : Option Addr) (cap : Nat) (fv : Value) (w : World) : Calls Try.prog 24 #[.slice p 0 cap, fv] w fun e w' => e = .returned (.tuple #[]) ∧ w' = w := by
  exact AnyF.slices_SortFunc_none { Try.sortL with } p cap fv w
end Go.Ab
