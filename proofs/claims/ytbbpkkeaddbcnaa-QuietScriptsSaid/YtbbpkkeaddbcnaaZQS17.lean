/- QuietScripts: the law. -/
import Derived.Test.YtbbpkkeaddbcnaaZQS16
set_option linter.unusedSimpArgs false
set_option linter.unusedVariables false
namespace Go.Proofs.Ytbbpkkeaddbcnaa.ZJM.QS
open Go.Proofs.Ytbbpkkeaddbcnaa.ZJM Go.RowKit
abbrev actT : List CT := [.int .i64, .int .i64, .int .i64, .int .i64, .int .i64, .int .i64, .int .i64, .bool, .bool, .str, .int .i64, .int .i64, .int .i64]
abbrev fltT : List CT := [.int .i64, .int .i64, .int .u8, .int .i64, .int .i64, .bool, .int .i64, .int .u8, .int .u8, .int .u8, .int .u8, .int .u8, .int .u8, .int .u8, .int .u8]
theorem act_of {x : PV} (h : CT.val true actT x) : ∃ m : Act, x = m.enc := by
  obtain ⟨ys, rfl, h⟩ := h
  simp only [CT.hass, CT.has] at h
  obtain ⟨_, _, rfl, ⟨a0, rfl, _⟩, _, _, rfl, ⟨a1, rfl, _⟩, _, _, rfl, ⟨a2, rfl, _⟩, _, _, rfl, ⟨a3, rfl, _⟩, _, _, rfl, ⟨a4, rfl, _⟩, _, _, rfl, ⟨a5, rfl, _⟩, _, _, rfl, ⟨a6, rfl, _⟩, _, _, rfl, ⟨a7, rfl⟩, _, _, rfl, ⟨a8, rfl⟩, _, _, rfl, ⟨a9, rfl, _⟩,
    _, _, rfl, ⟨a10, rfl, _⟩, _, _, rfl, ⟨a11, rfl, _⟩, _, _, rfl, ⟨a12, rfl, _⟩, rfl⟩ := h
  exact ⟨⟨a0, a1, a2, a3, a4, a5, a6, a7, a8, a9, a10, a11, a12⟩, rfl⟩
theorem flt_of {x : PV} (h : CT.val true fltT x) : ∃ m : Flt, x = m.enc := by
  obtain ⟨ys, rfl, h⟩ := h
  simp only [CT.hass, CT.has] at h
  obtain ⟨_, _, rfl, ⟨a0, rfl, _⟩, _, _, rfl, ⟨a1, rfl, _⟩, _, _, rfl, ⟨a2, rfl, _⟩, _, _, rfl, ⟨a3, rfl, _⟩, _, _, rfl, ⟨a4, rfl, _⟩, _, _, rfl, ⟨a5, rfl⟩, _, _, rfl, ⟨a6, rfl, _⟩, _, _, rfl, ⟨a7, rfl, _⟩, _, _, rfl, ⟨a8, rfl, _⟩, _, _, rfl, ⟨a9, rfl, _⟩,
    _, _, rfl, ⟨a10, rfl, _⟩, _, _, rfl, ⟨a11, rfl, _⟩, _, _, rfl, ⟨a12, rfl, _⟩, _, _, rfl, ⟨a13, rfl, _⟩, _, _, rfl, ⟨a14, rfl, _⟩, rfl⟩ := h
  exact ⟨⟨a0, a1, a2, a3, a4, a5, a6, a7, a8, a9, a10, a11, a12, a13, a14⟩, rfl⟩
theorem reach_max : reachBytes ≤ maxBytes := by unfold reachBytes maxBytes; omega
theorem mom_of {x : PV} (h : CT.val true [.lst true 104 actT, .lst true 64 fltT] x) : ∃ m : Mom, m.fine ∧ x = m.enc := by
  obtain ⟨ys, rfl, h⟩ := h
  simp only [CT.hass] at h
  obtain ⟨_, _, rfl, h1, _, _, rfl, h2, rfl⟩ := h
  obtain ⟨na, xs, rfl, ⟨_, b1⟩, n1, hx⟩ := CT.has_lst.1 h1
  obtain ⟨as_, rfl⟩ := map_of fun x hxm => act_of (hx x hxm)
  obtain ⟨nf, xs, rfl, ⟨_, b2⟩, n2, hx⟩ := CT.has_lst.1 h2
  obtain ⟨fs, rfl⟩ := map_of fun x hxm => flt_of (hx x hxm)
  refine ⟨⟨na, as_, nf, fs⟩, ⟨⟨fun h => by simpa using n1 h, fun h => by simpa using n2 h⟩, ?_, ?_⟩, rfl⟩
  · exact Nat.le_trans (by simpa using b1) reach_max
  · exact Nat.le_trans (by simpa using b2) reach_max
theorem moms_of {xs : List PV} (h : ∀ x ∈ xs, ∃ r : Mom, r.fine ∧ x = r.enc) : ∃ rs : List Mom, (∀ r ∈ rs, r.fine) ∧ xs = encs Mom.enc rs := by
  induction xs with
  | nil => exact ⟨[], (fun r hr => by cases hr), rfl⟩
  | cons x l ih =>
    obtain ⟨r, hr, rfl⟩ := h x (by simp)
    obtain ⟨rs, hrs, rfl⟩ := ih fun y hy => h y (by simp [hy])
    exact ⟨r :: rs, fun y hy => by rcases List.mem_cons.1 hy with rfl | hy; exact hr; exact hrs y hy, rfl⟩
theorem law {x0 x1 : PV} (h0 : CT.val false [.lst true 48 [.lst true 104 actT, .lst true 64 fltT]] x0) (h1 : CT.val false [.int .u8] x1) : app E false (.fn 3 []) [x0, x1] [] = some (.bool true, emptyBag, []) := by
  simp only [CT.val, CT.hass] at h0 h1
  obtain ⟨_, _, hx, h0, rfl⟩ := h0
  simp only [List.cons.injEq, and_true] at hx
  subst hx
  obtain ⟨_, _, hx, h1, rfl⟩ := h1
  simp only [List.cons.injEq, and_true] at hx
  subst hx
  obtain ⟨nl, xs, rfl, _, hn, hx⟩ := CT.has_lst.1 h0
  simp only [CT.has] at h1
  obtain ⟨stop, rfl, hw⟩ := h1
  obtain ⟨ms, hms, rfl⟩ := moms_of fun x hxm => mom_of (hx x hxm)
  have hs : 0 ≤ stop ∧ stop ≤ 255 := by
    simp [Lit.wf, IntKind.min, IntKind.max, IntKind.bits, IntKind.signed] at hw
    omega
  refine app3 nl ms (ms.take 40) (fun m hm => hms m (List.mem_of_mem_take hm)) (by simp; omega) stop hs.1 hs.2 ?_
  by_cases h40 : (40 : Int) < ms.length
  · refine ⟨40, by simp [h40], ?_⟩
    have : (40 : Int) ≤ ms.length := by omega
    simp [this, encs_take]
  · refine ⟨ms.length, by simp [h40], ?_⟩
    have e : ms.take 40 = ms := List.take_of_length_le (by omega)
    rw [e]
    simp [encs_take]
end Go.Proofs.Ytbbpkkeaddbcnaa.ZJM.QS
