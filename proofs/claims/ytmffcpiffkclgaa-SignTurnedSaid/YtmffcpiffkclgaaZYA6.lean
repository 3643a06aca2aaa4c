/- AreaLays: its function. -/
import Derived.Test.YtmffcpiffkclgaaZYA5
set_option linter.unusedSimpArgs false
set_option linter.unusedVariables false
set_option maxRecDepth 10000
namespace Go.Proofs.Ytmffcpiffkclgaa.ZJM.DC
open Go.Proofs.Ytmffcpiffkclgaa.ZJM Go.RowKit
theorem laid_len : laid.length = 70 := by kernel_rfl
theorem addR_len (r : RD) (i s k a l h : Int) (b : List Int) : (addR r i s k a l h b).l.length ≤ r.l.length + 1 := by
 unfold addR; split <;> simp
section
variable (LL : List Ent) (hL : LL.length ≤ 500) (hok : ∀ e ∈ LL,OkB e.b ∧ e.b.length ≤ 64) (r1 : RD) (hr1 : r1.l.length ≤ 1) (f8 f7 : Int) (ver : Nat) (rows : List Row) (c : Int)
end
end Go.Proofs.Ytmffcpiffkclgaa.ZJM.DC
