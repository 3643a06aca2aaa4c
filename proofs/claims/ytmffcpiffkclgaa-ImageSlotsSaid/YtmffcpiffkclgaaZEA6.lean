/- AreaLays: its function. -/
import Derived.Test.YtmffcpiffkclgaaZEA5
set_option linter.unusedSimpArgs false
set_option linter.unusedVariables false
set_option maxRecDepth 10000
namespace Go.Proofs.Ytmffcpiffkclgaa.ZJM.DC
open Go.Proofs.Ytmffcpiffkclgaa.ZJM Go.RowKit

theorem addR_len (r : RD) (i s k a l h : Int) (b : List Int) : (addR r i s k a l h b).l.length ≤ r.l.length + 1 := by
  unfold addR; split <;> simp
theorem runE_len (r : RD) (A : List Ent) : (runE r A).1.l.length ≤ r.l.length + A.length := by
  induction A generalizing r with
  | nil => simp [runE]
  | cons e A ih =>
    by_cases h : codeE r e = 0
    · rw [runE_ok h]
      have h1 := ih (addE r e)
      have h2 := addR_len r e.i e.s e.k e.a e.l e.h e.b
      unfold addE at h1 ⊢
      simp only [List.length_cons]; omega
    · rw [runE_no h]; simp
section
variable (LL : List Ent) (hL : LL.length ≤ 500) (hok : ∀ e ∈ LL, OkB e.b ∧ e.b.length ≤ 64) (r1 : RD) (hr1 : r1.l.length ≤ 1) (f8 f7 : Int) (ver : Nat) (rows : List Row) (c : Int)
end
end Go.Proofs.Ytmffcpiffkclgaa.ZJM.DC
