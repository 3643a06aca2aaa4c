/- Names, numbers: what comes in. -/
import Derived.Test.YtnagbdodcjlbjaaZDP4
set_option linter.unusedSimpArgs false
set_option linter.unusedVariables false
namespace Go.Proofs.Ytnagbdodcjlbjaa.ZJM.DC
open Go.Proofs.Ytnagbdodcjlbjaa.ZJM Go.RowKit
theorem ints2 {x : PV} (h : CT.val true [.int .i64, .int .i64] x) : ∃ a b : Int, x = ky a b := by
  obtain ⟨ys, rfl, h⟩ := h
  simp only [CT.hass, CT.has] at h
  obtain ⟨_, _, rfl, ⟨a, rfl, _⟩, _, _, rfl, ⟨b, rfl, _⟩, rfl⟩ := h
  exact ⟨a, b, rfl⟩
theorem bytes_val {x : PV} (h : CT.val false [.lst false 1 [.int .u8]] x) : ∃ (nl : Bool) (b : List Int), OkB b ∧ (nl = true → b = []) ∧ x = Bl nl b := by
  simp only [CT.val, CT.hass] at h
  obtain ⟨_, _, hx, h, rfl⟩ := h
  simp only [List.cons.injEq, and_true] at hx
  subst hx
  exact bl_of h
theorem deeds_val {x : PV} (h : CT.val false [.lst true 88 deedT] x) : ∃ (nl : Bool) (l : List Deed), (∀ d ∈ l, d.ok) ∧ x = .lst none nl 9 (Ds l) := by
  simp only [CT.val, CT.hass] at h
  obtain ⟨_, _, hx, h, rfl⟩ := h
  simp only [List.cons.injEq, and_true] at hx
  subst hx
  obtain ⟨nl, xs, rfl, _, hn, hx⟩ := CT.has_lst.1 h
  obtain ⟨l, hl, rfl⟩ := deeds_of hx
  exact ⟨nl, l, hl, rfl⟩
end Go.Proofs.Ytnagbdodcjlbjaa.ZJM.DC
