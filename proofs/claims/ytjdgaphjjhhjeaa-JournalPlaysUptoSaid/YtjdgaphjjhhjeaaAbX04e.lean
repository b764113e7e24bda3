import Derived.Test.YtjdgaphjjhhjeaaAbX04d
import Derived.Test.YtjdgaphjjhhjeaaAbX04b
/- Light notes are of few bytes. -/
namespace Go.Ab
open Go.Proofs Go.RowKit Go.Oct
set_option linter.unusedVariables false
set_option linter.unusedSimpArgs false
set_option maxRecDepth 100000
def lightT (l : List (List UInt8)) : Nat := (l.map fun s => min s.length 4096).sum
def lightR (r : List (List (List UInt8))) : Nat := (r.map lightT).sum
def lightN (n : Note) : Nat := lightT n.texts + lightR n.rows
end Go.Ab
