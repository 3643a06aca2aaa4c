/- A part of the proof that the law QuietMarks holds at whatever it is handed. -/
import Derived.Test.YtbbpkkeaddbcnaaZQM5
set_option linter.unusedSimpArgs false
set_option linter.unusedVariables false
namespace Go.Proofs.Ytbbpkkeaddbcnaa.ZIM.QM
open Go.Proofs.Ytbbpkkeaddbcnaa.ZIM Go.RowKit

theorem plain_of {c : CT} {v : PV} (h : c.has v) : plain v := CT.has_data h
theorem mark_of {x : PV} (h : CT.val true [.int .i64, .int .i64, .int .i64, .int .i64, .str] x) : ∃ m : Mark, x = m.enc := by
  obtain ⟨ys, rfl, h⟩ := h
  simp only [CT.hass, CT.has] at h
  obtain ⟨_, _, rfl, ⟨a, rfl, _⟩, _, _, rfl, ⟨b, rfl, _⟩, _, _, rfl, ⟨c, rfl, _⟩, _, _, rfl, ⟨d, rfl, _⟩, _, _, rfl, ⟨s, rfl, _⟩, rfl⟩ := h
  exact ⟨⟨a, b, c, d, s⟩, rfl⟩
theorem rnd_of {c1 c2 c3 : CT} {x : PV} (h : CT.val true [.int .i64, c1, c2, c3, .lst true [.int .i64, .int .i64, .int .i64, .int .i64, .str], .int .i64] x) : ∃ r : Rnd, r.plain ∧ x = r.enc := by
  obtain ⟨ys, rfl, h⟩ := h
  simp only [CT.hass] at h
  obtain ⟨_, _, rfl, h1, p, _, rfl, h2, q, _, rfl, h3, r, _, rfl, h4, _, _, rfl, h5, _, _, rfl, h6, rfl⟩ := h
  simp only [CT.has] at h1 h6
  obtain ⟨t, rfl, _⟩ := h1
  obtain ⟨w, rfl, _⟩ := h6
  obtain ⟨nl, xs, rfl, _, _, hx⟩ := CT.has_lst.1 h5
  obtain ⟨ms, rfl⟩ := map_of fun x hxm => mark_of (hx x hxm)
  exact ⟨⟨t, p, q, r, nl, ms, w⟩, ⟨plain_of h2, plain_of h3, plain_of h4⟩, rfl⟩
theorem rnds_of {xs : List PV} (h : ∀ x ∈ xs, ∃ r : Rnd, r.plain ∧ x = r.enc) : ∃ rs : List Rnd, (∀ r ∈ rs, r.plain) ∧ xs = renc rs := by
  induction xs with
  | nil => exact ⟨[], (fun r hr => by cases hr), rfl⟩
  | cons x l ih =>
    obtain ⟨r, hr, rfl⟩ := h x (by simp)
    obtain ⟨rs, hrs, rfl⟩ := ih fun y hy => h y (by simp [hy])
    exact ⟨r :: rs, fun y hy => by rcases List.mem_cons.1 hy with rfl | hy; exact hr; exact hrs y hy, rfl⟩
theorem law {c1 c2 c3 : CT} {x0 x1 : PV} (h0 : CT.val false [.lst false [.int .i64]] x0) (h1 : CT.val false [.lst true [.int .i64, c1, c2, c3, .lst true [.int .i64, .int .i64, .int .i64, .int .i64, .str], .int .i64]] x1) :
    app fns (.fn 4 []) [x0, x1] [] = some (.bool true, []) := by
  simp only [CT.val, CT.hass] at h0 h1
  obtain ⟨_, _, he, h0, rfl⟩ := h0
  cases he
  obtain ⟨_, _, he, h1, rfl⟩ := h1
  cases he
  obtain ⟨nk, ks, rfl, _, _, hks⟩ := CT.has_lst.1 h0
  obtain ⟨nr, rs, rfl, _, _, hrs⟩ := CT.has_lst.1 h1
  obtain ⟨ks, rfl⟩ := map_of (f := PV.int .i64) fun x hx => by
    have := hks x hx
    simp only [CT.val, CT.hass, CT.has] at this
    obtain ⟨_, _, he, ⟨n, rfl, _⟩, rfl⟩ := this
    cases he
    exact ⟨n, rfl⟩
  obtain ⟨rs, hp, rfl⟩ := rnds_of fun x hx => rnd_of (hrs x hx)
  exact app4 nk ks nr rs hp
end Go.Proofs.Ytbbpkkeaddbcnaa.ZIM.QM
