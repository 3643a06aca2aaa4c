/- Slots' words. -/
import Derived.Test.YtnagbdodcjlbjaaZDS1
set_option linter.unusedSimpArgs false
set_option linter.unusedVariables false
set_option maxRecDepth 4000
namespace Go.Proofs.Ytnagbdodcjlbjaa.ZJM.DC
open Go.Proofs.Ytnagbdodcjlbjaa.ZJM Go.RowKit

abbrev slt (i s n : Int) : PV := .agg [.int .i64 i, .int .i64 s, .int .i64 n]
section
variable (hlive : app E false (.fn 15 []) [] [] = some (.bool true, emptyBag, []))
include hlive
end
end Go.Proofs.Ytnagbdodcjlbjaa.ZJM.DC
