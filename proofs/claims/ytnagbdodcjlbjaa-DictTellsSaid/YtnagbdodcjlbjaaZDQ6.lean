/- DictTells: the law. -/
import Derived.Test.YtnagbdodcjlbjaaZDQ1
import Derived.Test.YtnagbdodcjlbjaaZDP7
set_option linter.unusedSimpArgs false
set_option linter.unusedVariables false
namespace Go.Proofs.Ytnagbdodcjlbjaa.ZJM.DC
open Go.Proofs.Ytnagbdodcjlbjaa.ZJM Go.RowKit
theorem law6 {x0 x1 : PV} (h0 : CT.val false [.lst true 88 deedT] x0) (h1 : CT.val true [.int .i64, .int .i64] x1) : app E false (.fn 6 []) [x0, x1] [] = some (.bool true, emptyBag, []) := by
  obtain ⟨nl, l, hl, rfl⟩ := deeds_val h0
  obtain ⟨i, s, rfl⟩ := ints2 h1
  exact app6 nl l hl i s
end Go.Proofs.Ytnagbdodcjlbjaa.ZJM.DC
