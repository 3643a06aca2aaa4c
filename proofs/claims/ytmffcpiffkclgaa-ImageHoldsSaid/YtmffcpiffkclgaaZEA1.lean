/- Slots' words. -/
import Derived.Test.YtmffcpiffkclgaaZES1
set_option linter.unusedSimpArgs false
set_option linter.unusedVariables false
set_option maxRecDepth 4000
namespace Go.Proofs.Ytmffcpiffkclgaa.ZJM.DC
open Go.Proofs.Ytmffcpiffkclgaa.ZJM Go.RowKit

abbrev slt (i s n : Int) : PV := .agg [.int .i64 i, .int .i64 s, .int .i64 n]
def okS (i s n : Int) : Bool := decide (0 ≤ i) && decide (i ≤ 65535) && decide (0 ≤ s) && decide (s ≤ 255) && decide (0 ≤ n) && decide (n ≤ 255)
def wordA (i s n : Int) : Int × Int := if okS i s n = true then (i * 65536 + s * 256 + n, 0) else (0, 2)
section
variable (hlive : app E false (.fn 24 []) [] [] = some (.bool true, emptyBag, []))
include hlive
end
end Go.Proofs.Ytmffcpiffkclgaa.ZJM.DC
