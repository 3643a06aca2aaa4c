/- ImageSlots: the law. -/
import Derived.Test.YtmffcpiffkclgaaGreatZFI1
import Derived.Test.YtmffcpiffkclgaaGreatZFW1
set_option linter.unusedSimpArgs false
set_option linter.unusedVariables false
set_option maxRecDepth 10000
namespace Go.Proofs.YtmffcpiffkclgaaGreat.ZJM.DC
open Go.Proofs.YtmffcpiffkclgaaGreat.ZJM Go.RowKit
end Go.Proofs.YtmffcpiffkclgaaGreat.ZJM.DC
