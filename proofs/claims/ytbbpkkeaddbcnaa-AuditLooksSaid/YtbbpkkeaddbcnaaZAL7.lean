/- AuditLooks: a link's frames. -/
import Derived.Test.YtbbpkkeaddbcnaaZAL6
set_option linter.unusedSimpArgs false
set_option linter.unusedVariables false
namespace Go.Proofs.Ytbbpkkeaddbcnaa.ZIM.AL
open Go.Proofs.Ytbbpkkeaddbcnaa.ZIM Go.RowKit

theorem bytesP_benc : ∀ bs : List Int, bytesP (benc bs) = some bs
  | [] => rfl
  | x :: r => by
    have := bytesP_benc r
    simp only [benc, List.map_cons, bytesP] at this ⊢
    rw [this]
theorem data_len (f : Frm) : f.data.length ≤ 8 := by
  unfold Frm.data
  split
  · simp [Frm.bytes]; omega
  · simp
/-- A link's frame. -/
def heard (x : Link) (now : Int) (c : Came) : Heard :=
  { t := now, turned := c.f.id != x.plain, clean := c.clean && (c.frm == x.frm && !c.f.rtr), v := strOf (if (c.f.id != x.plain) = true then c.f.data.map fx else c.f.data) }
def hears (x : Link) (c : Came) : Bool := !(c.f.id != x.plain && c.f.id != x.turned)
def Heard.zero : Heard := ⟨0, false, false, ByteArray.empty⟩
theorem app62 (x : Link) (now : Int) (c : Came) (m : Mem) : app fns (.fn 62 []) [x.enc, .int .i64 now, c.enc] m = some (if hears x c = true then .tup [(heard x now c).enc, .bool true] else .tup [Heard.zero.enc, .bool false], m) := by
  rw [app_fn fns h62 rfl]
  have h78 := fun m => app78 c.f m
  simp only [Frm.enc, Frm.cells] at h78
  have h79 := fun m => app79 c.f.nil c.f.data (by have := data_len c.f; omega) m
  have hbP := bytesP_benc
  cases h1 : (c.f.id != x.plain) with
  | true =>
    cases h2 : (c.f.id != x.turned) with
    | true => simp [c62, Link.enc, Came.enc, Heard.enc, Heard.zero, hears, h1, h2]
    | false =>
      cases h3 : c.clean <;> cases h4 : (c.frm == x.frm) <;> cases h5 : c.f.rtr <;>
        simp [c62, Link.enc, Came.enc, Heard.enc, hears, heard, h1, h2, h3, h4, h5, h5 ▸ h78, h79, hbP, splice]
  | false =>
    cases h3 : c.clean <;> cases h4 : (c.frm == x.frm) <;> cases h5 : c.f.rtr <;>
      simp [c62, Link.enc, Came.enc, Heard.enc, hears, heard, h1, h3, h4, h5, h5 ▸ h78, hbP, splice]
end Go.Proofs.Ytbbpkkeaddbcnaa.ZIM.AL
