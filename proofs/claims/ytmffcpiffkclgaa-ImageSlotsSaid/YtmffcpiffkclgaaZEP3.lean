/- DictPlays: its function. -/
import Derived.Test.YtmffcpiffkclgaaZEP1
import Derived.Test.YtmffcpiffkclgaaZEL14
set_option linter.unusedSimpArgs false
set_option linter.unusedVariables false
set_option maxRecDepth 4000
namespace Go.Proofs.Ytmffcpiffkclgaa.ZJM.DC
open Go.Proofs.Ytmffcpiffkclgaa.ZJM Go.RowKit
attribute [simp] shC_names shC_ren shC_okn shC_rec

section
variable (nl : Bool) (l : List Deed) (hl : ∀ x ∈ l, x.ok)
end
end Go.Proofs.Ytmffcpiffkclgaa.ZJM.DC

set_option linter.unusedSimpArgs false
set_option linter.unusedVariables false
namespace Go.Proofs.Ytmffcpiffkclgaa.ZJM.DC
open Go.Proofs.Ytmffcpiffkclgaa.ZJM Go.RowKit
end Go.Proofs.Ytmffcpiffkclgaa.ZJM.DC

set_option linter.unusedSimpArgs false
set_option linter.unusedVariables false
namespace Go.Proofs.Ytmffcpiffkclgaa.ZJM.DC
open Go.Proofs.Ytmffcpiffkclgaa.ZJM Go.RowKit
theorem ints2 {x : PV} (h : CT.val true [.int .i64, .int .i64] x) : ∃ a b : Int, x = ky a b := by
  obtain ⟨ys, rfl, h⟩ := h
  simp only [CT.hass, CT.has] at h
  obtain ⟨_, _, rfl, ⟨a, rfl, _⟩, _, _, rfl, ⟨b, rfl, _⟩, rfl⟩ := h
  exact ⟨a, b, rfl⟩
end Go.Proofs.Ytmffcpiffkclgaa.ZJM.DC
