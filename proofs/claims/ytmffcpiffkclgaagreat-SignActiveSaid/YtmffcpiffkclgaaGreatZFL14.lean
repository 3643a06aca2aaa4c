/- law14's live. -/
import Derived.Test.YtmffcpiffkclgaaGreatZF1
set_option linter.unusedSimpArgs false
set_option linter.unusedVariables false
namespace Go.Proofs.YtmffcpiffkclgaaGreat.ZJM.DC
open Go.Proofs.YtmffcpiffkclgaaGreat.ZJM Go.RowKit
end Go.Proofs.YtmffcpiffkclgaaGreat.ZJM.DC
