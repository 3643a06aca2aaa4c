/- PmapPacks: the law. -/
import Derived.Test.YtmffcpiffkclgaaZEP3
import Derived.Test.YtmffcpiffkclgaaZEM6
set_option linter.unusedSimpArgs false
set_option linter.unusedVariables false
namespace Go.Proofs.Ytmffcpiffkclgaa.ZJM.DC
open Go.Proofs.Ytmffcpiffkclgaa.ZJM Go.RowKit
theorem ints3 {x : PV} (h : CT.val true [.int .i64, .int .i64, .int .i64] x) : ∃ y : Slot, x = y.enc := by
  obtain ⟨ys, rfl, h⟩ := h
  simp only [CT.hass, CT.has] at h
  obtain ⟨_, _, rfl, ⟨a, rfl, _⟩, _, _, rfl, ⟨b, rfl, _⟩, _, _, rfl, ⟨c, rfl, _⟩, rfl⟩ := h
  exact ⟨⟨a, b, c⟩, rfl⟩
theorem slots_of {xs : List PV} (h : ∀ x ∈ xs, CT.val true [.int .i64, .int .i64, .int .i64] x) : ∃ l : List Slot, xs = Ss l := by
  induction xs with
  | nil => exact ⟨[], rfl⟩
  | cons x r ih =>
    obtain ⟨y, rfl⟩ := ints3 (h x (by simp))
    obtain ⟨l, rfl⟩ := ih fun y hy => h y (by simp [hy])
    exact ⟨y :: l, rfl⟩
theorem slots_val {x : PV} (h : CT.val false [.lst true 24 [.int .i64, .int .i64, .int .i64]] x) : ∃ (nl : Bool) (l : List Slot), x = Sl nl l := by
  simp only [CT.val, CT.hass] at h
  obtain ⟨_, _, hx, h, rfl⟩ := h
  simp only [List.cons.injEq, and_true] at hx
  subst hx
  obtain ⟨nl, xs, rfl, _, hn, hx⟩ := CT.has_lst.1 h
  obtain ⟨l, rfl⟩ := slots_of hx
  exact ⟨nl, l, rfl⟩
end Go.Proofs.Ytmffcpiffkclgaa.ZJM.DC
