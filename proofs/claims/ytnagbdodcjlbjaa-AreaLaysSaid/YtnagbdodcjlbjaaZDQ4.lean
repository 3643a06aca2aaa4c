/- AreaWords, AreaLays: the laws. -/
import Derived.Test.YtnagbdodcjlbjaaZDQ1
import Derived.Test.YtnagbdodcjlbjaaZDA5
set_option linter.unusedSimpArgs false
set_option linter.unusedVariables false
namespace Go.Proofs.Ytnagbdodcjlbjaa.ZJM.DC
open Go.Proofs.Ytnagbdodcjlbjaa.ZJM Go.RowKit
theorem int1 {x : PV} (h : CT.val false [.int .i64] x) : ∃ n : Int, x = .int .i64 n := by
  simp only [CT.val, CT.hass, CT.has] at h
  obtain ⟨_, _, hx, ⟨n, rfl, _⟩, rfl⟩ := h
  simp only [List.cons.injEq, and_true] at hx
  exact ⟨n, hx⟩
theorem ints3 {x : PV} (h : CT.val true [.int .i64, .int .i64, .int .i64] x) : ∃ a b c : Int, x = slt a b c := by
  obtain ⟨ys, rfl, h⟩ := h
  simp only [CT.hass, CT.has] at h
  obtain ⟨_, _, rfl, ⟨a, rfl, _⟩, _, _, rfl, ⟨b, rfl, _⟩, _, _, rfl, ⟨c, rfl, _⟩, rfl⟩ := h
  exact ⟨a, b, c, rfl⟩
theorem ints4 {x : PV} (h : CT.val true [.int .i64, .int .i64, .int .i64, .int .i64] x) : ∃ a b c d : Int, x = sp a b c d := by
  obtain ⟨ys, rfl, h⟩ := h
  simp only [CT.hass, CT.has] at h
  obtain ⟨_, _, rfl, ⟨a, rfl, _⟩, _, _, rfl, ⟨b, rfl, _⟩, _, _, rfl, ⟨c, rfl, _⟩, _, _, rfl, ⟨d, rfl, _⟩, rfl⟩ := h
  exact ⟨a, b, c, d, rfl⟩
theorem law4 {x0 x1 : PV} (h0 : CT.val true [.int .i64, .int .i64, .int .i64] x0) (h1 : CT.val false [.int .i64] x1) : app E false (.fn 4 []) [x0, x1] [] = some (.bool true, emptyBag, []) := by
  obtain ⟨a, b, c, rfl⟩ := ints3 h0
  obtain ⟨n, rfl⟩ := int1 h1
  exact app4 live15 a b c n
end Go.Proofs.Ytnagbdodcjlbjaa.ZJM.DC
