/- AreaLays: the law. -/
import Derived.Test.YtnagbdodcjlbjaaZDQ4
import Derived.Test.YtnagbdodcjlbjaaZDA6
set_option linter.unusedSimpArgs false
set_option linter.unusedVariables false
namespace Go.Proofs.Ytnagbdodcjlbjaa.ZJM.DC
open Go.Proofs.Ytnagbdodcjlbjaa.ZJM Go.RowKit
theorem law3 {x0 x1 : PV} (h0 : CT.val true [.int .i64, .int .i64] x0) (h1 : CT.val true [.int .i64, .int .i64, .int .i64, .int .i64] x1) : app E false (.fn 3 []) [x0, x1] [] = some (.bool true, emptyBag, []) := by
  obtain ⟨i, s, rfl⟩ := ints2 h0
  obtain ⟨k, a, l, h, rfl⟩ := ints4 h1
  exact app3 i s k a l h
end Go.Proofs.Ytnagbdodcjlbjaa.ZJM.DC
