/- law14's live. -/
import Derived.Test.YtmffcpiffkclgaaZY1
set_option linter.unusedSimpArgs false
set_option linter.unusedVariables false
namespace Go.Proofs.Ytmffcpiffkclgaa.ZJM.DC
open Go.Proofs.Ytmffcpiffkclgaa.ZJM Go.RowKit
end Go.Proofs.Ytmffcpiffkclgaa.ZJM.DC
