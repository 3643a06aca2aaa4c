/- PmapPacks: the law. -/
import Derived.Test.YtmffcpiffkclgaaZYP3
import Derived.Test.YtmffcpiffkclgaaZYM4
set_option linter.unusedSimpArgs false
set_option linter.unusedVariables false
namespace Go.Proofs.Ytmffcpiffkclgaa.ZJM.DC
open Go.Proofs.Ytmffcpiffkclgaa.ZJM Go.RowKit
end Go.Proofs.Ytmffcpiffkclgaa.ZJM.DC
