/- DictPlays: the law. -/
import Derived.Test.YtnagbdodcjlbjaaZDP3
set_option linter.unusedSimpArgs false
set_option linter.unusedVariables false
namespace Go.Proofs.Ytnagbdodcjlbjaa.ZJM.DC
open Go.Proofs.Ytnagbdodcjlbjaa.ZJM Go.RowKit
abbrev deedT : List CT := [.int .i64, .int .i64, .int .i64, .int .i64, .int .i64, .int .i64, .int .i64, .lst false 1 [.int .u8], .int .i64]
theorem byte_of {x : PV} (h : CT.val false [.int .u8] x) : ∃ n : Int, (0 ≤ n ∧ n < 256) ∧ x = .int .u8 n := by
  simp only [CT.val, CT.hass, CT.has] at h
  obtain ⟨_, _, hx, ⟨n, rfl, hw⟩, rfl⟩ := h
  simp only [List.cons.injEq, and_true] at hx
  refine ⟨n, ?_, hx⟩
  simp [Lit.wf, IntKind.min, IntKind.max, IntKind.bits, IntKind.signed] at hw
  omega
theorem bytes_of {xs : List PV} (h : ∀ x ∈ xs, CT.val false [.int .u8] x) : ∃ b : List Int, OkB b ∧ xs = Bs b := by
  induction xs with
  | nil => exact ⟨[], fun x hx => by simp at hx, rfl⟩
  | cons x r ih =>
    obtain ⟨n, hn, rfl⟩ := byte_of (h x (by simp))
    obtain ⟨b, hb, rfl⟩ := ih fun y hy => h y (by simp [hy])
    exact ⟨n :: b, fun y hy => by rcases List.mem_cons.1 hy with rfl | hy; exact hn; exact hb y hy, rfl⟩
theorem bl_of {x : PV} (h : CT.has (.lst false 1 [.int .u8]) x) : ∃ (nl : Bool) (b : List Int), OkB b ∧ (nl = true → b = []) ∧ x = Bl nl b := by
  obtain ⟨nl, xs, rfl, _, hn, hx⟩ := CT.has_lst.1 h
  obtain ⟨b, hb, rfl⟩ := bytes_of hx
  exact ⟨nl, b, hb, fun hh => by
    have := hn hh
    cases b with
    | nil => rfl
    | cons y q => simp at this, rfl⟩
theorem deed_of {x : PV} (h : CT.val true deedT x) : ∃ d : Deed, d.ok ∧ x = d.enc := by
  obtain ⟨ys, rfl, h⟩ := h
  simp only [CT.hass] at h
  obtain ⟨_, _, rfl, h0, _, _, rfl, h1, _, _, rfl, h2, _, _, rfl, h3, _, _, rfl, h4, _, _, rfl, h5, _, _, rfl, h6, _, _, rfl, h7, _, _, rfl, h8, rfl⟩ := h
  obtain ⟨nl, b, hb, hn, rfl⟩ := bl_of h7
  simp only [CT.has] at h0 h1 h2 h3 h4 h5 h6 h8
  obtain ⟨a0, rfl, _⟩ := h0
  obtain ⟨a1, rfl, _⟩ := h1
  obtain ⟨a2, rfl, _⟩ := h2
  obtain ⟨a3, rfl, _⟩ := h3
  obtain ⟨a4, rfl, _⟩ := h4
  obtain ⟨a5, rfl, _⟩ := h5
  obtain ⟨a6, rfl, _⟩ := h6
  obtain ⟨a8, rfl, _⟩ := h8
  exact ⟨⟨a0, a1, a2, a3, a4, a5, a6, nl, b, a8⟩, ⟨hb, hn⟩, rfl⟩
theorem deeds_of {xs : List PV} (h : ∀ x ∈ xs, CT.val true deedT x) : ∃ l : List Deed, (∀ d ∈ l, d.ok) ∧ xs = Ds l := by
  induction xs with
  | nil => exact ⟨[], fun x hx => by simp at hx, rfl⟩
  | cons x r ih =>
    obtain ⟨d, hd, rfl⟩ := deed_of (h x (by simp))
    obtain ⟨l, hl, rfl⟩ := ih fun y hy => h y (by simp [hy])
    exact ⟨d :: l, fun y hy => by rcases List.mem_cons.1 hy with rfl | hy; exact hd; exact hl y hy, rfl⟩
theorem law9 {x0 : PV} (h0 : CT.val false [.lst true 88 deedT] x0) : app E false (.fn 9 []) [x0] [] = some (.bool true, emptyBag, []) := by
  simp only [CT.val, CT.hass] at h0
  obtain ⟨_, _, hx, h0, rfl⟩ := h0
  simp only [List.cons.injEq, and_true] at hx
  subst hx
  obtain ⟨nl, xs, rfl, _, hn, hx⟩ := CT.has_lst.1 h0
  obtain ⟨l, hl, rfl⟩ := deeds_of hx
  exact app9 nl l hl
end Go.Proofs.Ytnagbdodcjlbjaa.ZJM.DC
