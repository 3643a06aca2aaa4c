/- AuditLooks: the law. -/
import Derived.Test.YtbbpkkeaddbcnaaZAL17
set_option linter.unusedSimpArgs false
set_option linter.unusedVariables false
namespace Go.Proofs.Ytbbpkkeaddbcnaa.ZIM.AL
open Go.Proofs.Ytbbpkkeaddbcnaa.ZIM Go.RowKit

theorem knows : Knows Try.prog fns := knows_of (ball_cons k5 (ball_cons k21 (ball_cons k22 (ball_cons k42 (ball_cons k59 (ball_cons k47 (ball_cons k61 (ball_cons k62 (ball_cons k78 (ball_cons k96 (ball_cons k89 (ball_cons k79 (ball_cons k24 (ball_cons k43 (ball_cons k44 (ball_cons k27 (ball_cons k48 (ball_cons k63 (ball_cons k26 (ball_cons k46 (ball_cons k60 (ball_cons k50 (ball_cons k25 (ball_cons k45 (ball_cons k23 (ball_cons k28 (ball_cons k49 (ball_cons k64 (ball_cons k70 (ball_cons k69 (ball_cons k72 (ball_cons k29 (ball_cons k30 (ball_cons k51 ball_nil))))))))))))))))))))))))))))))))))
theorem mark_of {x : PV} (h : CT.val true [.int .i64, .int .i64, .int .i64, .int .i64, .str] x) : ∃ m : Mark, x = m.enc := by
  obtain ⟨ys, rfl, h⟩ := h
  simp only [CT.hass, CT.has] at h
  obtain ⟨_, _, rfl, ⟨a, rfl, _⟩, _, _, rfl, ⟨b, rfl, _⟩, _, _, rfl, ⟨c, rfl, _⟩, _, _, rfl, ⟨d, rfl, _⟩, _, _, rfl, ⟨s, rfl, _⟩, rfl⟩ := h
  exact ⟨⟨a, b, c, d, s⟩, rfl⟩
abbrev cT : List CT := [.int .i64, .int .i64, .int .i64, .bool, .int .i64, .int .u8, .int .u8, .int .u8, .int .u8, .int .u8, .int .u8, .int .u8, .int .u8, .bool]
abbrev mT : List CT := [.int .i64, .int .i64, .int .i64, .int .i64, .str]
theorem came_of {x : PV} (h : CT.val true cT x) : ∃ m : Came, x = m.enc := by
  obtain ⟨ys, rfl, h⟩ := h
  simp only [CT.hass, CT.has] at h
  obtain ⟨_, _, rfl, ⟨a, rfl, _⟩, _, _, rfl, ⟨b, rfl, _⟩, _, _, rfl, ⟨c, rfl, _⟩, _, _, rfl, ⟨d, rfl⟩, _, _, rfl, ⟨e, rfl, _⟩, _, _, rfl, ⟨d0, rfl, _⟩, _, _, rfl, ⟨d1, rfl, _⟩, _, _, rfl, ⟨d2, rfl, _⟩, _, _, rfl, ⟨d3, rfl, _⟩,
    _, _, rfl, ⟨d4, rfl, _⟩, _, _, rfl, ⟨d5, rfl, _⟩, _, _, rfl, ⟨d6, rfl, _⟩, _, _, rfl, ⟨d7, rfl, _⟩, _, _, rfl, ⟨k, rfl⟩, rfl⟩ := h
  exact ⟨⟨a, b, ⟨c, d, e, d0, d1, d2, d3, d4, d5, d6, d7⟩, k⟩, rfl⟩
theorem rnd_of {c1 c2 : CT} {x : PV} (h : CT.val true [.int .i64, c1, c2, .lst true cT, .lst true mT, .int .i64] x) : ∃ r : Rnd, r.ok ∧ x = r.enc := by
  obtain ⟨ys, rfl, h⟩ := h
  simp only [CT.hass] at h
  obtain ⟨_, _, rfl, h1, p, _, rfl, h2, q, _, rfl, h3, _, _, rfl, h4, _, _, rfl, h5, _, _, rfl, h6, rfl⟩ := h
  simp only [CT.has] at h1 h6
  obtain ⟨t, rfl, _⟩ := h1
  obtain ⟨w, rfl, _⟩ := h6
  obtain ⟨nc, xs, rfl, _, _, hx⟩ := CT.has_lst.1 h4
  obtain ⟨cs, rfl⟩ := map_of fun x hxm => came_of (hx x hxm)
  obtain ⟨nm, xs, rfl, _, _, hx⟩ := CT.has_lst.1 h5
  obtain ⟨ms, rfl⟩ := map_of fun x hxm => mark_of (hx x hxm)
  exact ⟨⟨t, p, q, nc, cs, nm, ms, w⟩, ⟨CT.has_plain h2, CT.has_plain h3⟩, rfl⟩
theorem rnds_of {xs : List PV} (h : ∀ x ∈ xs, ∃ r : Rnd, r.ok ∧ x = r.enc) : ∃ rs : List Rnd, (∀ r ∈ rs, r.ok) ∧ xs = encs Rnd.enc rs := by
  induction xs with
  | nil => exact ⟨[], (fun r hr => by cases hr), rfl⟩
  | cons x l ih =>
    obtain ⟨r, hr, rfl⟩ := h x (by simp)
    obtain ⟨rs, hrs, rfl⟩ := ih fun y hy => h y (by simp [hy])
    exact ⟨r :: rs, fun y hy => by rcases List.mem_cons.1 hy with rfl | hy; exact hr; exact hrs y hy, rfl⟩
theorem law {c1 c2 : CT} {x0 x1 x2 x3 : PV} (h0 : CT.val true [.int .i64, .int .i64, .int .i64, .int .i64, .int .i64, .int .i64, .int .i64] x0) (h1 : CT.val false [.int .i64] x1) (h2 : CT.val false [.int .i64] x2)
    (h3 : CT.val false [.lst true [.int .i64, c1, c2, .lst true cT, .lst true mT, .int .i64]] x3) : app fns (.fn 5 []) [x0, x1, x2, x3] [] = some (.bool true, []) := by
  obtain ⟨ys, rfl, h0⟩ := h0
  simp only [CT.val, CT.hass, CT.has] at h0 h1 h2
  obtain ⟨_, _, rfl, ⟨l0, rfl, _⟩, _, _, rfl, ⟨l1, rfl, _⟩, _, _, rfl, ⟨l2, rfl, _⟩, _, _, rfl, ⟨l3, rfl, _⟩, _, _, rfl, ⟨l4, rfl, _⟩, _, _, rfl, ⟨l5, rfl, _⟩, _, _, rfl, ⟨l6, rfl, _⟩, rfl⟩ := h0
  obtain ⟨_, _, he, ⟨a, rfl, _⟩, rfl⟩ := h1
  cases he
  obtain ⟨_, _, he, ⟨b, rfl, _⟩, rfl⟩ := h2
  cases he
  simp only [CT.val, CT.hass] at h3
  obtain ⟨_, _, he, h3, rfl⟩ := h3
  cases he
  obtain ⟨nr, rs, rfl, _, _, hrs⟩ := CT.has_lst.1 h3
  obtain ⟨rs, hp, rfl⟩ := rnds_of fun x hx => rnd_of (hrs x hx)
  exact app5 ⟨l0, l1, l2, l3, l4, l5, l6⟩ a b nr rs hp
end Go.Proofs.Ytbbpkkeaddbcnaa.ZIM.AL
