/- AuditLooks: frames. -/
import Derived.Test.YtbbpkkeaddbcnaaZAL3
set_option linter.unusedSimpArgs false
set_option linter.unusedVariables false
namespace Go.Proofs.Ytbbpkkeaddbcnaa.ZIM.AL
open Go.Proofs.Ytbbpkkeaddbcnaa.ZIM Go.RowKit

structure Frm where
  id : Int
  rtr : Bool
  len : Int
  d0 : Int
  d1 : Int
  d2 : Int
  d3 : Int
  d4 : Int
  d5 : Int
  d6 : Int
  d7 : Int
def Frm.cells (x : Frm) : List PV := [.int .i64 x.id, .bool x.rtr, .int .i64 x.len, .int .u8 x.d0, .int .u8 x.d1, .int .u8 x.d2, .int .u8 x.d3, .int .u8 x.d4, .int .u8 x.d5, .int .u8 x.d6, .int .u8 x.d7]
def Frm.enc (x : Frm) : PV := .agg x.cells
def Frm.bytes (x : Frm) : List Int := [x.d0, x.d1, x.d2, x.d3, x.d4, x.d5, x.d6, x.d7]
/-- Are two frames alike? -/
def same (x y : Frm) : Bool := x.id == y.id && (x.rtr == y.rtr && (x.len == y.len && (x.d0 == y.d0 && (x.d1 == y.d1 && (x.d2 == y.d2 && (x.d3 == y.d3 && (x.d4 == y.d4 && (x.d5 == y.d5 && (x.d6 == y.d6 && x.d7 == y.d7)))))))))
theorem eq_frm (i l a0 a1 a2 a3 a4 a5 a6 a7 i' l' b0 b1 b2 b3 b4 b5 b6 b7 : Int) (r r' : Bool) :
    eqP [(0, 0), (1, 1), (2, 0), (3, 0), (4, 0), (5, 0), (6, 0), (7, 0), (8, 0), (9, 0), (10, 0)] true (.agg [.int .i64 i, .bool r, .int .i64 l, .int .u8 a0, .int .u8 a1, .int .u8 a2, .int .u8 a3, .int .u8 a4, .int .u8 a5, .int .u8 a6, .int .u8 a7])
      (.agg [.int .i64 i', .bool r', .int .i64 l', .int .u8 b0, .int .u8 b1, .int .u8 b2, .int .u8 b3, .int .u8 b4, .int .u8 b5, .int .u8 b6, .int .u8 b7]) =
      some (.bool (!same ⟨i, r, l, a0, a1, a2, a3, a4, a5, a6, a7⟩ ⟨i', r', l', b0, b1, b2, b3, b4, b5, b6, b7⟩)) := by
  simp [same]
/-- A frame with zeros where zeros must be. -/
def Frm.plain (x : Frm) : Frm :=
  { x with
    d0 := if (x.rtr || decide (x.len ≤ 0)) = true then 0 else x.d0
    d1 := if (x.rtr || decide (x.len ≤ 1)) = true then 0 else x.d1
    d2 := if (x.rtr || decide (x.len ≤ 2)) = true then 0 else x.d2
    d3 := if (x.rtr || decide (x.len ≤ 3)) = true then 0 else x.d3
    d4 := if (x.rtr || decide (x.len ≤ 4)) = true then 0 else x.d4
    d5 := if (x.rtr || decide (x.len ≤ 5)) = true then 0 else x.d5
    d6 := if (x.rtr || decide (x.len ≤ 6)) = true then 0 else x.d6
    d7 := if (x.rtr || decide (x.len ≤ 7)) = true then 0 else x.d7 }
/-- What is wrong with a frame. -/
def Frm.chk (x : Frm) : Int := if x.id < 0 ∨ x.id > 2047 then 3 else if x.len < 0 ∨ x.len > 8 then 11 else if same x.plain x = true then 0 else 4
theorem h89 : fns 89 = some c89 := rfl
theorem h69 : fns 69 = some c69 := rfl
/-- Two frames' cells, one by one. -/
theorem app89 (x : Frm) (m : Mem) : app fns (.fn 89 []) [x.enc] m = some (.int .i64 x.chk, m) := by
  rw [app_fn fns h89 rfl]
  by_cases h1 : x.id < 0
  · simp [c89, Frm.enc, Frm.cells, Frm.chk, h1]
  · by_cases h2 : x.id > 2047
    · simp [c89, Frm.enc, Frm.cells, Frm.chk, h1, h2]
    · by_cases h3 : x.len < 0
      · simp [c89, Frm.enc, Frm.cells, Frm.chk, h1, h2, h3]
      · by_cases h4 : x.len > 8
        · simp [c89, Frm.enc, Frm.cells, Frm.chk, h1, h2, h3, h4]
        · obtain ⟨id, rtr, len, d0, d1, d2, d3, d4, d5, d6, d7⟩ := x
          simp only at h1 h2 h3 h4
          have h5 : len = 0 ∨ len = 1 ∨ len = 2 ∨ len = 3 ∨ len = 4 ∨ len = 5 ∨ len = 6 ∨ len = 7 ∨ len = 8 := by omega
          cases hb : same (Frm.mk id rtr len d0 d1 d2 d3 d4 d5 d6 d7).plain ⟨id, rtr, len, d0, d1, d2, d3, d4, d5, d6, d7⟩ <;>
            rcases h5 with rfl | rfl | rfl | rfl | rfl | rfl | rfl | rfl | rfl <;> cases rtr <;>
            simp [Frm.plain] at hb <;>
            simp [c89, Frm.enc, Frm.cells, Frm.chk, Frm.plain, h1, h2, rep, splice, eq_frm, hb, -eqP]
end Go.Proofs.Ytbbpkkeaddbcnaa.ZIM.AL
