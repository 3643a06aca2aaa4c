/- law15's live; Same; AreaWords' and AreaLays' functions. -/
import Derived.Test.YtmffcpiffkclgaaZYA2
import Derived.Test.YtmffcpiffkclgaaZYA1
import Derived.Test.YtmffcpiffkclgaaZYP3
set_option linter.unusedSimpArgs false
set_option linter.unusedVariables false
set_option maxRecDepth 10000
namespace Go.Proofs.Ytmffcpiffkclgaa.ZJM.DC
open Go.Proofs.Ytmffcpiffkclgaa.ZJM Go.RowKit
section
variable {m : Mem} {lv a a' ver : Nat} {l : List Row} {c : Int} (hd : DA m lv a a' ver l c) {r : RD} (hs : Sim l c r)
include hd hs
theorem app65 : app E false (.fn 16 []) [.ptr lv a [] 0] m = some (.bool ((numR r 5118 0).2 && ((numR r 5118 0).1 == 165)),emptyBag,m) := by
 have h := app31 (.inr ⟨_,_,rfl⟩) (finds (hd.cons []) hs.dok 5118 0) (okO_get hs.dok _)
 rw [hs.num] at h
 rw [app_fn E rfl h65 rfl]
 generalize numR r 5118 0 = w at *
 obtain ⟨w1,w2⟩ := w
 cases w2 <;> simp [c65,h]
end
def ownA (ver : Nat) (rows : List Row) (c : Int) : Lvl := [(13000,[.ptr 0 13001 [] 0,.int .i64 c]),(13001,[shC ver rows])]
end Go.Proofs.Ytmffcpiffkclgaa.ZJM.DC
