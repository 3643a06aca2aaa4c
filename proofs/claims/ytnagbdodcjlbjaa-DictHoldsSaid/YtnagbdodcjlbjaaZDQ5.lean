/- DictHolds: the law. -/
import Derived.Test.YtnagbdodcjlbjaaZDQ1
import Derived.Test.YtnagbdodcjlbjaaZDP6
set_option linter.unusedSimpArgs false
set_option linter.unusedVariables false
namespace Go.Proofs.Ytnagbdodcjlbjaa.ZJM.DC
open Go.Proofs.Ytnagbdodcjlbjaa.ZJM Go.RowKit
theorem law5 {x0 x1 x2 : PV} (h0 : CT.val false [.lst true 88 deedT] x0) (h1 : CT.val true [.int .i64, .int .i64] x1) (h2 : CT.val false [.lst false 1 [.int .u8]] x2) : app E false (.fn 5 []) [x0, x1, x2] [] = some (.bool true, emptyBag, []) := by
  obtain ⟨nl, l, hl, rfl⟩ := deeds_val h0
  obtain ⟨i, s, rfl⟩ := ints2 h1
  obtain ⟨nb, b, hb, hn, rfl⟩ := bytes_val h2
  exact app5 nl l hl i s nb b hb hn
end Go.Proofs.Ytnagbdodcjlbjaa.ZJM.DC
