/- law15's live; Same; AreaWords' and AreaLays' functions. -/
import Derived.Test.YtmffcpiffkclgaaZEA2
import Derived.Test.YtmffcpiffkclgaaZEA1
import Derived.Test.YtmffcpiffkclgaaZEP3
set_option linter.unusedSimpArgs false
set_option linter.unusedVariables false
set_option maxRecDepth 10000
namespace Go.Proofs.Ytmffcpiffkclgaa.ZJM.DC
open Go.Proofs.Ytmffcpiffkclgaa.ZJM Go.RowKit

section
variable {m : Mem} {lv a a' ver : Nat} {l : List Row} {c : Int} (hd : DA m lv a a' ver l c) {r : RD} (hs : Sim l c r)
include hd hs
end
def ownA (ver : Nat) (rows : List Row) (c : Int) : Lvl := [(13000, [.ptr 0 13001 [] 0, .int .i64 c]), (13001, [shC ver rows])]
end Go.Proofs.Ytmffcpiffkclgaa.ZJM.DC
