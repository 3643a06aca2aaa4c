/- law14's live. -/
import Derived.Test.YtnagbdodcjlbjaaZD1
set_option linter.unusedSimpArgs false
set_option linter.unusedVariables false
namespace Go.Proofs.Ytnagbdodcjlbjaa.ZJM.DC
open Go.Proofs.Ytnagbdodcjlbjaa.ZJM Go.RowKit
end Go.Proofs.Ytnagbdodcjlbjaa.ZJM.DC
