/- Load: LoadCounts answers true; what comes in. -/
import Derived.Test.YtbbpkkeaddbcnaaDoorZL10
set_option linter.unusedSimpArgs false
set_option linter.unusedVariables false
namespace Go.Proofs.YtbbpkkeaddbcnaaDoor.ZJM.LD
open Go.Proofs.YtbbpkkeaddbcnaaDoor.ZJM Go.RowKit
theorem W_cls (id : Int) : W (cls id : Int) = cls id := W_id (by omega) (by have := cls_lt id; omega)
theorem fine_of {r : Rnd} (h : r.sents.length ≤ 5 ∧ r.cames.length ≤ 5 ∧ r.marks.length ≤ 5 ∧ I64 r.waits) : r.fine := ⟨by omega, by omega, by omega, h.2.2.2⟩
theorem app3 (nl : Bool) (l : List Rnd) (hf : ∀ r ∈ l, I64 r.waits) (id : Int) :
    app E false (.fn 3 []) [.lst none nl 6 (Rs l), .int .i64 id] [] = some (.bool true, emptyBag, []) := by
  rw [app_fn E rfl h3 rfl]
  have ff : ∀ r ∈ few l, r.fine := fun r hr => fine_of (few_fine l hf r hr)
  have fl : (few l).length < 1000000 := Nat.lt_of_le_of_lt (few_len l) (by omega)
  have a7 := app7 nl l
  have a9 := app9 false (few l) fl ff
  have a10 := app10 false (few l) fl ff
  rw [← of_ref] at a10
  have a11 := app11 ⟨id, false, 0, 0, 0, 0, 0, 0, 0, 0, 0⟩
  simp only [Frm.enc, Frm.cs] at a11
  have a12 := app12 id
  simp [-isPlace, -moves, isPlace_int, isPlace_bool, isPlace_str, isPlace_lst, moves_int, moves_bool, moves_str, moves_lst, LC_placeI, LC_placeI', LC_movesI, LC_cellI, LC_getE, LC_add, LC_add0, LC_put31, LC_place0, LC_place1, frzV, frzR, ss_okns, es_okns, cs_okns, mk_okns, rs_okns, ss_deps, es_deps, cs_deps, mk_deps, rs_deps, c3, a7, app8, a9, a10, a11, a12]
abbrev frmT : List CT := [.int .i64, .bool, .int .i64, .int .u8, .int .u8, .int .u8, .int .u8, .int .u8, .int .u8, .int .u8, .int .u8]
theorem frm_of {ys : List PV} (h : CT.hass frmT ys) : ∃ m : Frm, ys = m.cs := by
  simp only [CT.hass, CT.has] at h
  obtain ⟨_, _, rfl, ⟨a0, rfl, _⟩, _, _, rfl, ⟨a1, rfl⟩, _, _, rfl, ⟨a2, rfl, _⟩, _, _, rfl, ⟨a3, rfl, _⟩, _, _, rfl, ⟨a4, rfl, _⟩, _, _, rfl, ⟨a5, rfl, _⟩, _, _, rfl, ⟨a6, rfl, _⟩, _, _, rfl, ⟨a7, rfl, _⟩, _, _, rfl, ⟨a8, rfl, _⟩, _, _, rfl, ⟨a9, rfl, _⟩,
    _, _, rfl, ⟨a10, rfl, _⟩, rfl⟩ := h
  exact ⟨⟨a0, a1, a2, a3, a4, a5, a6, a7, a8, a9, a10⟩, rfl⟩
abbrev sntT : List CT := [.int .i64, .int .i64, .bool, .int .i64, .int .u8, .int .u8, .int .u8, .int .u8, .int .u8, .int .u8, .int .u8, .int .u8]
theorem snt_of {x : PV} (h : CT.val true sntT x) : ∃ m : Snt, x = m.enc := by
  obtain ⟨ys, rfl, h⟩ := h
  rw [CT.hass] at h
  obtain ⟨_, r, rfl, h1, h2⟩ := h
  simp only [CT.has] at h1
  obtain ⟨a, rfl, _⟩ := h1
  obtain ⟨m, rfl⟩ := frm_of h2
  exact ⟨⟨a, m⟩, rfl⟩
abbrev camT : List CT := [.int .i64, .int .i64, .int .i64, .bool, .int .i64, .int .u8, .int .u8, .int .u8, .int .u8, .int .u8, .int .u8, .int .u8, .int .u8, .bool]
theorem cam_of {x : PV} (h : CT.val true camT x) : ∃ m : Cam, x = m.enc := by
  obtain ⟨ys, rfl, h⟩ := h
  simp only [CT.hass, CT.has] at h
  obtain ⟨_, _, rfl, ⟨b0, rfl, _⟩, _, _, rfl, ⟨b1, rfl, _⟩, _, _, rfl, ⟨a0, rfl, _⟩, _, _, rfl, ⟨a1, rfl⟩, _, _, rfl, ⟨a2, rfl, _⟩, _, _, rfl, ⟨a3, rfl, _⟩, _, _, rfl, ⟨a4, rfl, _⟩, _, _, rfl, ⟨a5, rfl, _⟩, _, _, rfl, ⟨a6, rfl, _⟩, _, _, rfl, ⟨a7, rfl, _⟩, _, _, rfl, ⟨a8, rfl, _⟩, _, _, rfl, ⟨a9, rfl, _⟩,
    _, _, rfl, ⟨a10, rfl, _⟩, _, _, rfl, ⟨b2, rfl⟩, rfl⟩ := h
  exact ⟨⟨b0, b1, ⟨a0, a1, a2, a3, a4, a5, a6, a7, a8, a9, a10⟩, b2⟩, rfl⟩
abbrev mrkT : List CT := [.int .i64, .int .i64, .int .i64, .int .i64, .str]
theorem mrk_of {x : PV} (h : CT.val true mrkT x) : ∃ m : Mrk, x = m.enc := by
  obtain ⟨ys, rfl, h⟩ := h
  simp only [CT.hass, CT.has] at h
  obtain ⟨_, _, rfl, ⟨b0, rfl, _⟩, _, _, rfl, ⟨b1, rfl, _⟩, _, _, rfl, ⟨a0, rfl, _⟩, _, _, rfl, ⟨a1, rfl, _⟩, _, _, rfl, ⟨a2, rfl, _⟩, rfl⟩ := h
  exact ⟨⟨b0, b1, a0, a1, a2⟩, rfl⟩
theorem int_of {x : PV} (h : CT.val false [.int .i64] x) : ∃ n : Int, x = .int .i64 n ∧ I64 n := by
  simp only [CT.val, CT.hass] at h
  obtain ⟨_, _, hx, h0, rfl⟩ := h
  simp only [List.cons.injEq, and_true] at hx
  subst hx
  simp only [CT.has] at h0
  obtain ⟨n, rfl, hw⟩ := h0
  refine ⟨n, rfl, ?_⟩
  simp [Lit.wf, IntKind.min, IntKind.max, IntKind.bits, IntKind.signed] at hw
  unfold I64; omega
theorem byte_of {x : PV} (h : CT.val false [.int .u8] x) : ∃ n : Int, x = .int .u8 n ∧ 0 ≤ n ∧ n ≤ 255 := by
  simp only [CT.val, CT.hass] at h
  obtain ⟨_, _, hx, h0, rfl⟩ := h
  simp only [List.cons.injEq, and_true] at hx
  subst hx
  simp only [CT.has] at h0
  obtain ⟨n, rfl, hw⟩ := h0
  refine ⟨n, rfl, ?_⟩
  simp [Lit.wf, IntKind.min, IntKind.max, IntKind.bits, IntKind.signed] at hw
  omega
abbrev rndT (e1 e2 e3 e4 : Nat) : List CT := [.int .i64, .lst false e1 [.int .i64], .lst true e2 sntT, .lst true e3 camT, .lst true e4 mrkT, .int .i64]
theorem rnd_of {e1 e2 e3 e4 : Nat} {x : PV} (h : CT.val true (rndT e1 e2 e3 e4) x) : ∃ r : Rnd, I64 r.waits ∧ x = r.enc := by
  obtain ⟨ys, rfl, h⟩ := h
  simp only [CT.hass] at h
  obtain ⟨_, _, rfl, h0, _, _, rfl, h1, _, _, rfl, h2, _, _, rfl, h3, _, _, rfl, h4, _, _, rfl, h5, rfl⟩ := h
  simp only [CT.has] at h0
  obtain ⟨t, rfl, _⟩ := h0
  obtain ⟨n1, x1, rfl, _, _, h1⟩ := CT.has_lst.1 h1
  obtain ⟨n2, x2, rfl, _, _, h2⟩ := CT.has_lst.1 h2
  obtain ⟨n3, x3, rfl, _, _, h3⟩ := CT.has_lst.1 h3
  obtain ⟨n4, x4, rfl, _, _, h4⟩ := CT.has_lst.1 h4
  obtain ⟨w, rfl, hw⟩ := int_of (x := _) (by simp only [CT.val, CT.hass]; exact ⟨_, _, rfl, h5, rfl⟩)
  obtain ⟨y1, rfl⟩ := map_of (f := PV.int .i64) fun x hx => by obtain ⟨n, rfl, _⟩ := int_of (h1 x hx); exact ⟨n, rfl⟩
  obtain ⟨y2, rfl⟩ := map_of fun x hx => snt_of (h2 x hx)
  obtain ⟨y3, rfl⟩ := map_of fun x hx => cam_of (h3 x hx)
  obtain ⟨y4, rfl⟩ := map_of fun x hx => mrk_of (h4 x hx)
  exact ⟨⟨t, n1, y1, n2, y2, n3, y3, n4, y4, w⟩, hw, rfl⟩
theorem rnds_of' {e1 e2 e3 e4 : Nat} {xs : List PV} (h : ∀ x ∈ xs, CT.val true (rndT e1 e2 e3 e4) x) : ∃ l : List Rnd, (∀ r ∈ l, I64 r.waits) ∧ xs = Rs l := by
  induction xs with
  | nil => exact ⟨[], (fun r hr => by cases hr), rfl⟩
  | cons x l ih =>
    obtain ⟨r, hr, rfl⟩ := rnd_of (h x (by simp))
    obtain ⟨rs, hrs, rfl⟩ := ih fun y hy => h y (by simp [hy])
    exact ⟨r :: rs, fun y hy => by rcases List.mem_cons.1 hy with rfl | hy; exact hr; exact hrs y hy, rfl⟩
theorem reach_small : reachBytes ≤ 140737488355328 := by unfold reachBytes; omega
theorem rnds_of {e1 e2 e3 e4 : Nat} {x : PV} (h : CT.val false [.lst true 112 (rndT e1 e2 e3 e4)] x) : ∃ (nl : Bool) (l : List Rnd), l.length < 10000000000000 ∧ (∀ r ∈ l, I64 r.waits) ∧ x = .lst none nl 6 (Rs l) := by
  simp only [CT.val, CT.hass] at h
  obtain ⟨_, _, hx, h0, rfl⟩ := h
  simp only [List.cons.injEq, and_true] at hx
  subst hx
  obtain ⟨nl, xs, rfl, ⟨_, hb⟩, _, h1⟩ := CT.has_lst.1 h0
  obtain ⟨l, hl, rfl⟩ := rnds_of' h1
  have := reach_small
  refine ⟨nl, l, ?_, hl, rfl⟩
  simp only [encs_len] at hb
  omega
end Go.Proofs.YtbbpkkeaddbcnaaDoor.ZJM.LD
