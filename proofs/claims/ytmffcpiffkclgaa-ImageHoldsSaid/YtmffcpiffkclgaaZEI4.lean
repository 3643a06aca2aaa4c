/- ImageSlots: the law. -/
import Derived.Test.YtmffcpiffkclgaaZEI1
import Derived.Test.YtmffcpiffkclgaaZEW1
set_option linter.unusedSimpArgs false
set_option linter.unusedVariables false
set_option maxRecDepth 10000
namespace Go.Proofs.Ytmffcpiffkclgaa.ZJM.DC
open Go.Proofs.Ytmffcpiffkclgaa.ZJM Go.RowKit

def rNil : RD := ⟨true, [], 0⟩
theorem sim_rNil : Sim [] 0 rNil := sim_new
end Go.Proofs.Ytmffcpiffkclgaa.ZJM.DC

set_option linter.unusedSimpArgs false
set_option linter.unusedVariables false
set_option maxRecDepth 10000
namespace Go.Proofs.Ytmffcpiffkclgaa.ZJM.DC
open Go.Proofs.Ytmffcpiffkclgaa.ZJM Go.RowKit
end Go.Proofs.Ytmffcpiffkclgaa.ZJM.DC
