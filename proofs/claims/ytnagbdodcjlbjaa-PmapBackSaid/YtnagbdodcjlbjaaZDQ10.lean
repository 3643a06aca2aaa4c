/- PmapBack: the law. -/
import Derived.Test.YtnagbdodcjlbjaaZDQ7
import Derived.Test.YtnagbdodcjlbjaaZDM14
set_option linter.unusedSimpArgs false
set_option linter.unusedVariables false
namespace Go.Proofs.Ytnagbdodcjlbjaa.ZJM.DC
open Go.Proofs.Ytnagbdodcjlbjaa.ZJM Go.RowKit
theorem law10 {x0 x1 x2 : PV} (h0 : CT.val false [.lst false 24 [.lst false 1 [.int .u8]]] x0) (h1 : CT.val false [.lst false 24 [.lst false 1 [.int .u8]]] x1) (h2 : CT.val false [.lst true 24 [.int .i64, .int .i64, .int .i64]] x2) : app E false (.fn 10 []) [x0, x1, x2] [] = some (.bool true, emptyBag, []) := by
  obtain ⟨nl, Y, hY, rfl⟩ := byts_val h0
  obtain ⟨nl2, Y2, hY2, rfl⟩ := byts_val h1
  obtain ⟨nl', L, rfl⟩ := slots_val h2
  exact app10 nl Y hY nl2 Y2 hY2 nl' L
end Go.Proofs.Ytnagbdodcjlbjaa.ZJM.DC
