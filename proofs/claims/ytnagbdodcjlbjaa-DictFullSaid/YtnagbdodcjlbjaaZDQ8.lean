/- DictFull: the law. -/
import Derived.Test.YtnagbdodcjlbjaaZDQ1
import Derived.Test.YtnagbdodcjlbjaaZDP8
set_option linter.unusedSimpArgs false
set_option linter.unusedVariables false
namespace Go.Proofs.Ytnagbdodcjlbjaa.ZJM.DC
open Go.Proofs.Ytnagbdodcjlbjaa.ZJM Go.RowKit
theorem law8 {x0 : PV} (h0 : CT.val true [.int .i64, .int .i64] x0) : app E false (.fn 8 []) [x0] [] = some (.bool true, emptyBag, []) := by
  obtain ⟨i, s, rfl⟩ := ints2 h0
  exact app8 i s
end Go.Proofs.Ytnagbdodcjlbjaa.ZJM.DC
