/- Both dictionaries behind deeds. -/
import Derived.Test.YtmffcpiffkclgaaZEP3
set_option linter.unusedSimpArgs false
set_option linter.unusedVariables false
set_option maxRecDepth 4000
namespace Go.Proofs.Ytmffcpiffkclgaa.ZJM.DC
open Go.Proofs.Ytmffcpiffkclgaa.ZJM Go.RowKit

section
variable (m : Mem) (nl : Bool) (l : List Deed) (hl : ∀ x ∈ l, x.ok)
end
end Go.Proofs.Ytmffcpiffkclgaa.ZJM.DC
