/- Whether a channel fits: the program's and the document's. -/
import Derived.Test.YtmffcpiffkclgaaZEW1
set_option linter.unusedSimpArgs false
set_option linter.unusedVariables false
set_option maxRecDepth 10000
namespace Go.Proofs.Ytmffcpiffkclgaa.ZJM.DC
open Go.Proofs.Ytmffcpiffkclgaa.ZJM Go.RowKit

section
variable {m : Mem} {lv a a' ver : Nat} {l : List Row} {c : Int} (hd : DA m lv a a' ver l c) {r : RD} (hs : Sim l c r) (L : List Slot)
end
theorem slsF_len (f : Nat → Int) (n : Nat) : (slsF f n).length = n := by simp [slsF]
section
variable {m : Mem} {lv a a' ver : Nat} {l : List Row} {c : Int} (hd : DA m lv a a' ver l c) {r : RD} (hs : Sim l c r) (f : Nat → Int)
end
end Go.Proofs.Ytmffcpiffkclgaa.ZJM.DC

set_option linter.unusedSimpArgs false
set_option linter.unusedVariables false
set_option maxRecDepth 10000
namespace Go.Proofs.Ytmffcpiffkclgaa.ZJM.DC
open Go.Proofs.Ytmffcpiffkclgaa.ZJM Go.RowKit

theorem slsF_mem {f : Nat → Int} {n : Nat} {x : Slot} (h : x ∈ slsF f n) : ∃ j, j < n ∧ x = slF f j := by
  unfold slsF at h
  simp only [List.mem_map, List.mem_range] at h
  obtain ⟨j, hj, rfl⟩ := h
  exact ⟨j, hj, rfl⟩
section
variable {r : RD} (hr : r.ok) (f : Nat → Int)
end
end Go.Proofs.Ytmffcpiffkclgaa.ZJM.DC
