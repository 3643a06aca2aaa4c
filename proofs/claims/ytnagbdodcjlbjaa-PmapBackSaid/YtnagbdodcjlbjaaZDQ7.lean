/- PmapPacks: the law. -/
import Derived.Test.YtnagbdodcjlbjaaZDP3
import Derived.Test.YtnagbdodcjlbjaaZDM6
set_option linter.unusedSimpArgs false
set_option linter.unusedVariables false
namespace Go.Proofs.Ytnagbdodcjlbjaa.ZJM.DC
open Go.Proofs.Ytnagbdodcjlbjaa.ZJM Go.RowKit
theorem byts_of {xs : List PV} (h : ∀ x ∈ xs, CT.val false [.lst false 1 [.int .u8]] x) : ∃ l : List Byt, (∀ d ∈ l, d.ok) ∧ xs = Ys l := by
  induction xs with
  | nil => exact ⟨[], fun x hx => by simp at hx, rfl⟩
  | cons x r ih =>
    obtain ⟨nb, b, hb, hn, rfl⟩ := bytes_val (h x (by simp))
    obtain ⟨l, hl, rfl⟩ := ih fun y hy => h y (by simp [hy])
    exact ⟨⟨nb, b⟩ :: l, fun y hy => by rcases List.mem_cons.1 hy with rfl | hy; exact ⟨hb, hn⟩; exact hl y hy, rfl⟩
theorem byts_val {x : PV} (h : CT.val false [.lst false 24 [.lst false 1 [.int .u8]]] x) : ∃ (nl : Bool) (l : List Byt), (∀ d ∈ l, d.ok) ∧ x = .lst none nl 1 (Ys l) := by
  simp only [CT.val, CT.hass] at h
  obtain ⟨_, _, hx, h, rfl⟩ := h
  simp only [List.cons.injEq, and_true] at hx
  subst hx
  obtain ⟨nl, xs, rfl, _, hn, hx⟩ := CT.has_lst.1 h
  obtain ⟨l, hl, rfl⟩ := byts_of hx
  exact ⟨nl, l, hl, rfl⟩
theorem ints3 {x : PV} (h : CT.val true [.int .i64, .int .i64, .int .i64] x) : ∃ y : Slot, x = y.enc := by
  obtain ⟨ys, rfl, h⟩ := h
  simp only [CT.hass, CT.has] at h
  obtain ⟨_, _, rfl, ⟨a, rfl, _⟩, _, _, rfl, ⟨b, rfl, _⟩, _, _, rfl, ⟨c, rfl, _⟩, rfl⟩ := h
  exact ⟨⟨a, b, c⟩, rfl⟩
theorem slots_of {xs : List PV} (h : ∀ x ∈ xs, CT.val true [.int .i64, .int .i64, .int .i64] x) : ∃ l : List Slot, xs = Ss l := by
  induction xs with
  | nil => exact ⟨[], rfl⟩
  | cons x r ih =>
    obtain ⟨y, rfl⟩ := ints3 (h x (by simp))
    obtain ⟨l, rfl⟩ := ih fun y hy => h y (by simp [hy])
    exact ⟨y :: l, rfl⟩
theorem slots_val {x : PV} (h : CT.val false [.lst true 24 [.int .i64, .int .i64, .int .i64]] x) : ∃ (nl : Bool) (l : List Slot), x = Sl nl l := by
  simp only [CT.val, CT.hass] at h
  obtain ⟨_, _, hx, h, rfl⟩ := h
  simp only [List.cons.injEq, and_true] at hx
  subst hx
  obtain ⟨nl, xs, rfl, _, hn, hx⟩ := CT.has_lst.1 h
  obtain ⟨l, rfl⟩ := slots_of hx
  exact ⟨nl, l, rfl⟩
end Go.Proofs.Ytnagbdodcjlbjaa.ZJM.DC
