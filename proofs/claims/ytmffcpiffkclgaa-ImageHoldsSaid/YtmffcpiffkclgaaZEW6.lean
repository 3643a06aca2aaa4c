/- Loading a table: the program's. -/
import Derived.Test.YtmffcpiffkclgaaZEW1
import Derived.Test.YtmffcpiffkclgaaZEA5
set_option linter.unusedSimpArgs false
set_option linter.unusedVariables false
set_option maxRecDepth 10000
namespace Go.Proofs.Ytmffcpiffkclgaa.ZJM.DC
open Go.Proofs.Ytmffcpiffkclgaa.ZJM Go.RowKit

section
variable {m : Mem} {lv a a' ver : Nat} {l : List Row} {c : Int} (hd : DA m lv a a' ver l c) {r : RD} (hs : Sim l c r)
include hd hs
end
section
variable {m : Mem} {lv a a' ver : Nat} {l : List Row} {c : Int} (hd : DA m lv a a' ver l c) {r : RD} (hs : Sim l c r) (cc : Int) (h0 : 0 ≤ cc) (h4 : cc < 4)
end
section
variable {m : Mem} {lv a a' ver : Nat} {l : List Row} {c : Int} (hd : DA m lv a a' ver l c) {r : RD} (hs : Sim l c r) (cc : Int)
end
end Go.Proofs.Ytmffcpiffkclgaa.ZJM.DC

set_option linter.unusedSimpArgs false
set_option linter.unusedVariables false
set_option maxRecDepth 10000
namespace Go.Proofs.Ytmffcpiffkclgaa.ZJM.DC
open Go.Proofs.Ytmffcpiffkclgaa.ZJM Go.RowKit

section
variable {r : RD} (hr : r.ok) (cc : Int) (h0 : 0 ≤ cc) (h4 : cc < 4)
end
section
variable {r : RD} (hr : r.ok) (cc : Int) (h0 : 0 ≤ cc) (h4 : cc < 4)
include hr h0 h4
end
end Go.Proofs.Ytmffcpiffkclgaa.ZJM.DC
