/- Both dictionaries behind deeds. -/
import Derived.Test.YtnagbdodcjlbjaaZDP3
set_option linter.unusedSimpArgs false
set_option linter.unusedVariables false
set_option maxRecDepth 4000
namespace Go.Proofs.Ytnagbdodcjlbjaa.ZJM.DC
open Go.Proofs.Ytnagbdodcjlbjaa.ZJM Go.RowKit

section
variable (m : Mem) (nl : Bool) (l : List Deed) (hl : ∀ x ∈ l, x.ok)
end
end Go.Proofs.Ytnagbdodcjlbjaa.ZJM.DC
