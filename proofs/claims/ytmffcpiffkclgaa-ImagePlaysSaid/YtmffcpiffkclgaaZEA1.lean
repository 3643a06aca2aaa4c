/- Slots' words. -/
import Derived.Test.YtmffcpiffkclgaaZES1
set_option linter.unusedSimpArgs false
set_option linter.unusedVariables false
set_option maxRecDepth 4000
namespace Go.Proofs.Ytmffcpiffkclgaa.ZJM.DC
open Go.Proofs.Ytmffcpiffkclgaa.ZJM Go.RowKit

abbrev slt (i s n : Int) : PV := .agg [.int .i64 i, .int .i64 s, .int .i64 n]
section
variable (hlive : app E false (.fn 24 []) [] [] = some (.bool true, emptyBag, []))
include hlive
end
end Go.Proofs.Ytmffcpiffkclgaa.ZJM.DC
