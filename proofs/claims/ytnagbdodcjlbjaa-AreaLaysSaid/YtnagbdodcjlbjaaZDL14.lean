/- law14's live. -/
import Derived.Test.YtnagbdodcjlbjaaZD1
set_option linter.unusedSimpArgs false
set_option linter.unusedVariables false
namespace Go.Proofs.Ytnagbdodcjlbjaa.ZJM.DC
open Go.Proofs.Ytnagbdodcjlbjaa.ZJM Go.RowKit
theorem live14_ap : apply E 60 false (.fn 28 []) [] [] = some (.bool true, emptyBag, []) := by kernel_rfl
theorem live14 : app E false (.fn 28 []) [] [] = some (.bool true, emptyBag, []) := app_some.2 ⟨60, live14_ap⟩
end Go.Proofs.Ytnagbdodcjlbjaa.ZJM.DC
