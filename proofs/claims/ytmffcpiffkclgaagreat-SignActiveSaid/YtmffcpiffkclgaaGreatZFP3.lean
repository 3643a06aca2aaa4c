/- DictPlays: its function. -/
import Derived.Test.YtmffcpiffkclgaaGreatZFP1
import Derived.Test.YtmffcpiffkclgaaGreatZFL14
set_option linter.unusedSimpArgs false
set_option linter.unusedVariables false
set_option maxRecDepth 4000
namespace Go.Proofs.YtmffcpiffkclgaaGreat.ZJM.DC
open Go.Proofs.YtmffcpiffkclgaaGreat.ZJM Go.RowKit
attribute [simp] shC_names shC_ren shC_okn shC_rec
section
variable (nl:Bool) (l:List Deed) (hl:∀ x∈l,x.ok)
end
end Go.Proofs.YtmffcpiffkclgaaGreat.ZJM.DC
