/- Mappings: what is packed. -/
import Derived.Test.YtmffcpiffkclgaaZEM4
set_option linter.unusedSimpArgs false
set_option linter.unusedVariables false
set_option maxRecDepth 4000
namespace Go.Proofs.Ytmffcpiffkclgaa.ZJM.DC
open Go.Proofs.Ytmffcpiffkclgaa.ZJM Go.RowKit

/-- What an entry holds. -/
def slotB (r : RD) (x : Slot) : List Int := match findIx r.l x.i x.s with
  | none => []
  | some j => match r.l[j]? with
    | none => []
    | some y => y.b
theorem Sim.slotB {l : List Row} {c : Int} {r : RD} (h : Sim l c r) (x : Slot) : (rawB (getW l (knum x.i x.s))).2 = slotB r x := by
  rcases h.at x.i x.s with ⟨h1, h2⟩ | ⟨y, j, hj, h1, h2, hre, e1, e2, hok⟩
  · rw [h1]; simp [DC.slotB, h2, rawB]
  · rw [h1]
    simp only [DC.slotB, h2, List.getElem?_eq_getElem hj, rawB, hre.2.2.2.2.2]
section
variable {m : Mem} {lv a a' ver : Nat} {l : List Row} {c : Int} (hd : DA m lv a a' ver l c) {r : RD} (hs : Sim l c r) (nl : Bool) (L : List Slot)
end
end Go.Proofs.Ytmffcpiffkclgaa.ZJM.DC

set_option linter.unusedSimpArgs false
set_option linter.unusedVariables false
set_option maxRecDepth 4000
namespace Go.Proofs.Ytmffcpiffkclgaa.ZJM.DC
open Go.Proofs.Ytmffcpiffkclgaa.ZJM Go.RowKit

section
variable {m : Mem} {lv a a' ver : Nat} {l : List Row} {c : Int} (hd : DA m lv a a' ver l c) {r : RD} (hs : Sim l c r) (nl : Bool) (L : List Slot)
end
end Go.Proofs.Ytmffcpiffkclgaa.ZJM.DC

set_option linter.unusedSimpArgs false
set_option linter.unusedVariables false
set_option maxRecDepth 4000
namespace Go.Proofs.Ytmffcpiffkclgaa.ZJM.DC
open Go.Proofs.Ytmffcpiffkclgaa.ZJM Go.RowKit

section
variable (r : RD) (hr : r.ok) (nl : Bool) (L : List Slot)
end
end Go.Proofs.Ytmffcpiffkclgaa.ZJM.DC

set_option linter.unusedSimpArgs false
set_option linter.unusedVariables false
set_option maxRecDepth 10000
namespace Go.Proofs.Ytmffcpiffkclgaa.ZJM.DC
open Go.Proofs.Ytmffcpiffkclgaa.ZJM Go.RowKit

end Go.Proofs.Ytmffcpiffkclgaa.ZJM.DC
