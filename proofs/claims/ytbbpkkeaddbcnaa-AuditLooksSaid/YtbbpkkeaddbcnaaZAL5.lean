/- AuditLooks: a frame's bytes. -/
import Derived.Test.YtbbpkkeaddbcnaaZAL4
set_option linter.unusedSimpArgs false
set_option linter.unusedVariables false
namespace Go.Proofs.Ytbbpkkeaddbcnaa.ZIM.AL
open Go.Proofs.Ytbbpkkeaddbcnaa.ZIM Go.RowKit

theorem h96 : fns 96 = some c96 := rfl
theorem h78 : fns 78 = some c78 := rfl
/-- Has a frame bytes? -/
def Frm.has (x : Frm) : Bool := x.chk == 0 && !x.rtr
theorem app96 (x : Frm) (m : Mem) : app fns (.fn 96 []) [x.enc] m = some (.bool x.has, m) := by
  rw [app_fn fns h96 rfl]
  have h := fun m => app89 x m
  simp only [Frm.enc, Frm.cells] at h
  cases hc : (x.chk == 0) <;> simp [c96, Frm.enc, Frm.cells, h, hc, Frm.has]
/-- A frame's bytes. -/
def Frm.data (x : Frm) : List Int := if x.has = true then x.bytes.take x.len.toNat else []
def Frm.nil (x : Frm) : Bool := !x.has || x.len == 0
theorem has_len {x : Frm} (h : x.has = true) : 0 ≤ x.len ∧ x.len ≤ 8 := by
  simp only [Frm.has, Bool.and_eq_true, beq_iff_eq] at h
  have := h.1
  unfold Frm.chk at this
  split at this
  · omega
  · split at this
    · omega
    · omega
theorem app78 (x : Frm) (m : Mem) : app fns (.fn 78 []) [x.enc] m = some (.lst none x.nil 1 (benc x.data), m) := by
  rw [app_fn fns h78 rfl]
  have h := fun m => app96 x m
  simp only [Frm.enc, Frm.cells] at h
  cases hh : x.has with
  | false => simp [c78, Frm.enc, Frm.cells, h, hh, Frm.nil, Frm.data, benc]
  | true =>
    obtain ⟨h0, h8⟩ := has_len hh
    obtain ⟨id, rtr, len, d0, d1, d2, d3, d4, d5, d6, d7⟩ := x
    simp only at h0 h8
    have h5 : len = 0 ∨ len = 1 ∨ len = 2 ∨ len = 3 ∨ len = 4 ∨ len = 5 ∨ len = 6 ∨ len = 7 ∨ len = 8 := by omega
    rcases h5 with rfl | rfl | rfl | rfl | rfl | rfl | rfl | rfl | rfl <;>
      simp [c78, Frm.enc, Frm.cells, h, hh, Frm.nil, Frm.data, Frm.bytes, benc, chunks, mkc, maxBytes]
end Go.Proofs.Ytbbpkkeaddbcnaa.ZIM.AL
