/- What was stored is loaded: the plain law. -/
import Derived.Test.YtmffcpiffkclgaaZEW6
import Derived.Test.YtmffcpiffkclgaaZEW4
import Derived.Test.YtmffcpiffkclgaaZEI4
set_option linter.unusedSimpArgs false
set_option linter.unusedVariables false
set_option maxRecDepth 10000
namespace Go.Proofs.Ytmffcpiffkclgaa.ZJM.DC
open Go.Proofs.Ytmffcpiffkclgaa.ZJM Go.RowKit

end Go.Proofs.Ytmffcpiffkclgaa.ZJM.DC

set_option linter.unusedSimpArgs false
set_option linter.unusedVariables false
set_option maxRecDepth 10000
namespace Go.Proofs.Ytmffcpiffkclgaa.ZJM.DC
open Go.Proofs.Ytmffcpiffkclgaa.ZJM Go.RowKit

end Go.Proofs.Ytmffcpiffkclgaa.ZJM.DC

set_option linter.unusedSimpArgs false
set_option linter.unusedVariables false
set_option maxRecDepth 10000
namespace Go.Proofs.Ytmffcpiffkclgaa.ZJM.DC
open Go.Proofs.Ytmffcpiffkclgaa.ZJM Go.RowKit
theorem CF_cons (a : Int) (f : Nat → Int) (n : Nat) : CF (fun j => if j = 0 then a else f (j - 1)) (n + 1) = PV.int .i64 a :: CF f n := by
  unfold CF
  rw [List.range_succ_eq_map, List.map_cons, List.map_map]
  congr 1
theorem ints_n (n : Nat) {ys : List PV} (h : CT.hass (List.replicate n (.int .i64)) ys) : ∃ f, ys = CF f n := by
  induction n generalizing ys with
  | zero =>
    simp only [List.replicate, CT.hass] at h
    exact ⟨fun _ => 0, h⟩
  | succ n ih =>
    simp only [List.replicate_succ, CT.hass, CT.has] at h
    obtain ⟨_, r, rfl, ⟨a, rfl, _⟩, h⟩ := h
    obtain ⟨f, rfl⟩ := ih h
    exact ⟨_, (CF_cons a f n).symm⟩
abbrev chanT : List CT := [.int .i64, .int .i64, .int .i64, .int .i64, .int .i64, .int .i64, .int .i64, .int .i64, .int .i64, .int .i64, .int .i64, .int .i64, .int .i64, .int .i64, .int .i64, .int .i64, .int .i64, .int .i64, .int .i64, .int .i64, .int .i64, .int .i64, .int .i64, .int .i64, .int .i64, .int .i64, .int .i64, .int .i64, .int .i64, .int .i64]
theorem chan_of {x : PV} (h : CT.val true chanT x) : ∃ f, x = .agg (CF f 30) := by
  obtain ⟨ys, rfl, h⟩ := h
  obtain ⟨f, rfl⟩ := ints_n 30 (ys := ys) h
  exact ⟨f, rfl⟩
end Go.Proofs.Ytmffcpiffkclgaa.ZJM.DC
