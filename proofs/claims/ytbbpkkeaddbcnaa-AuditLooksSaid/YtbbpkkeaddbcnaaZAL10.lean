/- AuditLooks: a link's emissions and releases. -/
import Derived.Test.YtbbpkkeaddbcnaaZAL9
set_option linter.unusedSimpArgs false
set_option linter.unusedVariables false
namespace Go.Proofs.Ytbbpkkeaddbcnaa.ZIM.AL
open Go.Proofs.Ytbbpkkeaddbcnaa.ZIM Go.RowKit

theorem h44 : fns 44 = some c44 := rfl
theorem h46 : fns 46 = some c46 := rfl
theorem h24 : fns 24 = some c24 := rfl
theorem h26 : fns 26 = some c26 := rfl
def isEmit (x : Link) (k : Mark) : Bool := k.kind == 7 && (k.node == x.frm && k.n == x.frmCh)
def isOut (x : Link) (k : Mark) : Bool := k.kind == 3 && (k.node == x.to && k.n == x.toCh)
def Link.cells (x : Link) : List PV := [.int .i64 x.frm, .int .i64 x.frmCh, .int .i64 x.to, .int .i64 x.toCh, .int .i64 x.plain, .int .i64 x.turned, .int .i64 x.gap]
theorem app44 (x : Link) (k : Mark) (own : Lvl) (m : Mem) : app fns (.fn 44 [.ptr m.length 2 0]) [k.enc] (own :: [(2, x.cells)] :: m) = some (.bool (isEmit x k), own :: [(2, x.cells)] :: m) := by
  rw [app_fn fns h44 rfl]
  have n1 : ¬ m.length = m.length + 1 + 1 := by omega
  have n2 : ¬ m.length = m.length + 1 := by omega
  cases h1 : (k.kind == 7) <;> cases h2 : (k.node == x.frm) <;> simp [c44, Mark.enc, Link.cells, isEmit, h1, h2, n1, n2]
theorem app46 (x : Link) (k : Mark) (own : Lvl) (m : Mem) : app fns (.fn 46 [.ptr m.length 2 0]) [k.enc] (own :: [(2, x.cells)] :: m) = some (.bool (isOut x k), own :: [(2, x.cells)] :: m) := by
  rw [app_fn fns h46 rfl]
  have n1 : ¬ m.length = m.length + 1 + 1 := by omega
  have n2 : ¬ m.length = m.length + 1 := by omega
  cases h1 : (k.kind == 3) <;> cases h2 : (k.node == x.to) <;> simp [c46, Mark.enc, Link.cells, isOut, h1, h2, n1, n2]
def emits (x : Link) (rs : List Rnd) : List Seen := seen (isEmit x) rs
def outs (x : Link) (rs : List Rnd) : List Seen := seen (isOut x) rs
theorem app24 (x : Link) (nr : Bool) (rs : List Rnd) (hr : ∀ r ∈ rs, r.ok ∧ r.ms.length ≤ 5) (hl : rs.length ≤ 1000) (m : Mem) :
    app fns (.fn 24 []) [x.enc, .lst none nr 6 (encs Rnd.enc rs)] m = some (.lst none (emits x rs).isEmpty 2 (encs Seen.enc (emits x rs)), m) := by
  rw [app_fn fns h24 rfl]
  have n2 : ¬ m.length = m.length + 1 := by omega
  have h := app43 (.fn 44 [.ptr m.length 2 0]) (isEmit x) ([(2, x.cells)] :: m) (fun ks ts => by simp) (fun k own => app44 x k own m) nr rs hr hl
  simp only [Link.cells] at h
  simp [c24, Link.enc, h, se_deps, emits]
theorem app26 (x : Link) (nr : Bool) (rs : List Rnd) (hr : ∀ r ∈ rs, r.ok ∧ r.ms.length ≤ 5) (hl : rs.length ≤ 1000) (m : Mem) :
    app fns (.fn 26 []) [x.enc, .lst none nr 6 (encs Rnd.enc rs)] m = some (.lst none (outs x rs).isEmpty 2 (encs Seen.enc (outs x rs)), m) := by
  rw [app_fn fns h26 rfl]
  have h := app43 (.fn 46 [.ptr m.length 2 0]) (isOut x) ([(2, x.cells)] :: m) (fun ks ts => by simp) (fun k own => app46 x k own m) nr rs hr hl
  simp only [Link.cells] at h
  simp [c26, Link.enc, h, se_deps, outs]
end Go.Proofs.Ytbbpkkeaddbcnaa.ZIM.AL
