/- AuditLooks: the reference's waits. -/
import Derived.Test.YtbbpkkeaddbcnaaZAL14
set_option linter.unusedSimpArgs false
set_option linter.unusedVariables false
namespace Go.Proofs.Ytbbpkkeaddbcnaa.ZIM.AL
open Go.Proofs.Ytbbpkkeaddbcnaa.ZIM Go.RowKit

theorem h49 : fns 49 = some c49 := rfl
theorem h28 : fns 28 = some c28 := rfl
def Came.cells (x : Came) : List PV := [.int .i64 x.frm, .int .i64 x.at_, .int .i64 x.f.id, .bool x.f.rtr, .int .i64 x.f.len, .int .u8 x.f.d0, .int .u8 x.f.d1, .int .u8 x.f.d2, .int .u8 x.f.d3, .int .u8 x.f.d4, .int .u8 x.f.d5, .int .u8 x.f.d6, .int .u8 x.f.d7, .bool x.clean]
def bestStep (v : ByteArray) (t : Int) (b : Int) (e : Seen) : Int :=
  if (e.d.toList == v.toList && (decide (e.t ≤ t) && (decide (b < 0) || decide (IntKind.i64.wrap (t - e.t) < b)))) = true then IntKind.i64.wrap (t - e.t) else b
def bestOf (v : ByteArray) (t : Int) (es : List Seen) : Int := es.foldl (bestStep v t) (-1)
def covers (x : Link) (c : Came) : Bool := c.clean && (c.frm == x.frm && !c.f.rtr)
def waited (x : Link) (t : Int) (c : Came) (rs : List Rnd) : Int := if covers x c = true then bestOf (heard x 0 c).v t (emits x rs) else -1
section
variable (x : Link) (t : Int) (c : Came) (es : List Seen) (he : es.length < 1000000) (m : Mem)
def S49 (i : Nat) : St :=
  ⟨[(1, .int .i64 t), (4, .ptr m.length 4 0), (6, .ptr m.length 6 0), (9, .int .i64 (bestOf (heard x 0 c).v t (es.take i))), (10, .lst none false 2 (encs Seen.enc es)), (11, .int .i64 i)], [], [(4, x.cells), (6, c.cells)], m⟩
include he in
theorem loop49 {st : St} (h0 : maskSt [1, 4, 6, 9, 10, 11] [4, 6] [] st = some (S49 x t c es m 0)) :
    loopW (maskSt [1, 4, 6, 9, 10, 11] [4, 6] []) (Cd.run (app fns) c49.body.inner.body) st = c49.body.inner.body.run (app fns) (S49 x t c es m es.length) := by
  refine loop_eq (S49 x t c es m) es.length (fun i hi => ?_) ?_ h0
  · have hi' : (i : Int) < es.length := by omega
    have hw := wrap_succ i (by omega)
    have hse := se_okns es
    have hf := foldl_take (bestStep (heard x 0 c).v t) (-1) es i hi
    have h64 := fun m => app64 x c m
    simp only [Link.enc, Frm.enc, Frm.cells] at h64
    unfold S49
    unfold bestOf
    rw [hf]
    generalize (es.take i).foldl (bestStep (heard x 0 c).v t) (-1) = F
    generalize (heard x 0 c).v = v at h64
    cases h1 : (es[i].d.toList == v.toList) with
    | false => simp [c49, Cd.inner, Cd.body, hi', hi, encs_getE, Seen.enc, Link.cells, Came.cells, h64, hw, hse, bestStep, h1]
    | true =>
      by_cases h2 : es[i].t ≤ t
      · by_cases h3 : F < 0
        · simp [c49, Cd.inner, Cd.body, hi', hi, encs_getE, Seen.enc, Link.cells, Came.cells, h64, hw, hse, bestStep, h1, h2, h3]
        · by_cases h4 : IntKind.i64.wrap (t - es[i].t) < F <;>
            simp [c49, Cd.inner, Cd.body, hi', hi, encs_getE, Seen.enc, Link.cells, Came.cells, h64, hw, hse, bestStep, h1, h2, h3, h4]
      · simp [c49, Cd.inner, Cd.body, hi', hi, encs_getE, Seen.enc, Link.cells, Came.cells, h64, hw, hse, bestStep, h1, h2]
  · simp [c49, Cd.inner, Cd.body, S49]
end
theorem isK_emit (x : Link) : isK 7 x.frm x.frmCh = isEmit x := rfl
theorem app49 (x : Link) (t : Int) (c : Came) (nr : Bool) (rs : List Rnd) (hr : ∀ r ∈ rs, r.ok ∧ r.ms.length ≤ 5) (hl : rs.length ≤ 1000) (m : Mem) :
    app fns (.fn 49 []) [x.enc, .int .i64 t, c.enc, .lst none nr 6 (encs Rnd.enc rs)] m = some (.int .i64 (waited x t c rs), m) := by
  rw [app_fn fns h49 rfl]
  have h25 := fun m => app25 7 x.frm x.frmCh nr rs hr hl m
  have e1 : seen (isK 7 x.frm x.frmCh) rs = emits x rs := rfl
  simp only [e1] at h25
  have hin := fun st => @loop49 x t c (emits x rs) (emits_len x rs hr hl) m st
  have e0 : bestOf (heard x 0 c).v t [] = -1 := rfl
  simp only [c49, Cd.inner, Cd.body, S49, List.take_zero, List.take_length, e0] at hin
  simp only [Link.cells, Came.cells] at hin
  cases h1 : c.clean with
  | false => simp [c49, Link.enc, Came.enc, h1, waited, covers]
  | true =>
    cases h2 : (c.frm == x.frm) with
    | false => simp [c49, Link.enc, Came.enc, h1, h2, waited, covers, bne]
    | true =>
      cases h3 : c.f.rtr with
      | true => simp [c49, Link.enc, Came.enc, h1, h2, h3, waited, covers, bne]
      | false =>
        simp only [h1, h3] at hin
        simp [c49, Link.enc, Came.enc, h1, h2, h3, waited, covers, bne, h25, hin, se_okns]
/-! ### the longest wait -/
def refStep (x : Link) (rs : List Rnd) (t : Int) (most : Int) (c : Came) : Int := if hears x c = true then imax most (waited x t c rs) else most
def refRound (x : Link) (rs : List Rnd) (most : Int) (r : Rnd) : Int := if tick r.t = true then r.cs.foldl (refStep x rs r.t) most else most
section
variable (x : Link) (nr : Bool) (rs : List Rnd) (hk : ∀ r ∈ rs, r.ok ∧ r.cs.length ≤ 4 ∧ r.ms.length ≤ 5) (hl : rs.length ≤ 1000) (m : Mem)
def S28b (acc : Int) (i : Nat) (r : Rnd) (j : Nat) : St :=
  ⟨[(1, .lst none nr 6 (encs Rnd.enc rs)), (2, .ptr m.length 2 0), (5, .int .i64 ((r.cs.take j).foldl (refStep x rs r.t) acc)), (6, .int .i64 i), (7, .int .i64 j)], [], [(2, x.cells)], m⟩
include hk in
theorem hk5 : ∀ r ∈ rs, r.ok ∧ r.ms.length ≤ 5 := fun r h => ⟨(hk r h).1, (hk r h).2.2⟩
include hk in
theorem hk4 : ∀ r ∈ rs, r.ok ∧ r.cs.length ≤ 4 := fun r h => ⟨(hk r h).1, (hk r h).2.1⟩
include hk hl in
theorem loop28b (acc : Int) (i : Nat) (hi : i < rs.length) {st : St} (h0 : maskSt [1, 2, 5, 6, 7] [2] [] st = some (S28b x nr rs m acc i rs[i] 0)) :
    loopW (maskSt [1, 2, 5, 6, 7] [2] []) (Cd.run (app fns) c28.body.in2) st = c28.body.in2.run (app fns) (S28b x nr rs m acc i rs[i] (if tick rs[i].t = true then rs[i].cs.length else 0)) := by
  obtain ⟨hok, h4, h5⟩ := hk _ (List.getElem_mem hi)
  have h45 := fun m => app45 rs[i] hok m
  obtain ⟨⟨p1, p2, p3⟩, q1, q2, q3⟩ := hok
  simp only [Rnd.enc] at h45
  have hrs := ks_okns5 rs (hk5 rs hk)
  have hds : ∀ a, PV.deps a (encs Rnd.enc rs) = true := encs_deps fun r h => Rnd.data (hk r h).1
  refine loop_eq (S28b x nr rs m acc i rs[i]) (if tick rs[i].t = true then rs[i].cs.length else 0) (fun j hj => ?_) ?_ h0
  · cases ht : tick rs[i].t with
    | false => rw [ht] at hj; simp at hj
    | true =>
    rw [ht, if_pos rfl] at hj
    have hj' : (j : Int) < rs[i].cs.length := by omega
    have hw := wrap_succ j (by omega)
    have hf := foldl_take (refStep x rs rs[i].t) acc rs[i].cs j hj
    have h49 := fun m => app49 x rs[i].t rs[i].cs[j] nr rs (hk5 rs hk) hl m
    simp only [Link.enc, Came.enc] at h49
    unfold S28b
    rw [hf]
    generalize (rs[i].cs.take j).foldl (refStep x rs rs[i].t) acc = F
    have hh : hears x rs[i].cs[j] = (rs[i].cs[j].f.id == x.plain || rs[i].cs[j].f.id == x.turned) := by simp [hears, bne]
    cases h1 : (rs[i].cs[j].f.id == x.plain) with
    | true => simp [c28, Cd.in2, Cd.inner, Cd.body, hj', hj, hi, encs_getE, Rnd.enc, p2, q2, p3, q3, Came.enc, Link.cells, h45, ht, h49, h1, hh, hw, hrs, hds, refStep, imax, splice]
    | false =>
      cases h2 : (rs[i].cs[j].f.id == x.turned) <;>
        simp [c28, Cd.in2, Cd.inner, Cd.body, hj', hj, hi, encs_getE, Rnd.enc, p2, q2, p3, q3, Came.enc, Link.cells, h45, ht, h49, h1, h2, hh, hw, hrs, hds, refStep, imax, splice]
  · cases ht : tick rs[i].t <;> simp [c28, Cd.in2, Cd.inner, Cd.body, S28b, hi, encs_getE, Rnd.enc, p2, q2, p3, q3, h45, ht]
def S28 (i : Nat) : St :=
  ⟨[(1, .lst none nr 6 (encs Rnd.enc rs)), (2, .ptr m.length 2 0), (5, .int .i64 ((rs.take i).foldl (refRound x rs) 0)), (6, .int .i64 i)], [], [(2, x.cells)], m⟩
include hk hl in
theorem loop28 {st : St} (h0 : maskSt [1, 2, 5, 6] [2] [] st = some (S28 x nr rs m 0)) :
    loopW (maskSt [1, 2, 5, 6] [2] []) (Cd.run (app fns) c28.body.inner.body) st = c28.body.inner.body.run (app fns) (S28 x nr rs m rs.length) := by
  refine loop_eq (S28 x nr rs m) rs.length (fun i hi => ?_) ?_ h0
  · obtain ⟨hok, h4, h5⟩ := hk _ (List.getElem_mem hi)
    have h45 := fun m => app45 rs[i] hok m
    obtain ⟨⟨p1, p2, p3⟩, q1, q2, q3⟩ := hok
    simp only [Rnd.enc] at h45
    have hi' : (i : Int) < rs.length := by omega
    have hw := wrap_succ i (by omega)
    have hrs := ks_okns5 rs (hk5 rs hk)
    have hf := foldl_take (refRound x rs) 0 rs i hi
    unfold S28
    rw [hf]
    generalize (rs.take i).foldl (refRound x rs) 0 = F
    have hin := fun st => @loop28b x nr rs hk hl m F i hi st
    simp only [c28, Cd.in2, Cd.inner, Cd.body, S28b, Link.cells, List.take_zero, List.foldl_nil] at hin
    cases ht : tick rs[i].t <;> simp [ht] at hin <;>
      simp [c28, Cd.in2, Cd.inner, Cd.body, hi', hi, encs_getE, Rnd.enc, p2, q2, p3, q3, Link.cells, splice, hin, ht, h45, hw, hrs, refRound]
  · simp [c28, Cd.inner, Cd.body, S28]
include hk hl in
theorem app28 : app fns (.fn 28 []) [x.enc, .lst none nr 6 (encs Rnd.enc rs)] m = some (.int .i64 (rs.foldl (refRound x rs) 0), m) := by
  rw [app_fn fns h28 rfl]
  have hin := fun st => @loop28 x nr rs hk hl m st
  have hrs := ks_okns5 rs (hk5 rs hk)
  simp only [c28, Cd.inner, Cd.body, S28, Link.cells, List.take_zero, List.take_length, List.foldl_nil] at hin
  simp [c28, Link.enc, hin, hrs]
end
end Go.Proofs.Ytbbpkkeaddbcnaa.ZIM.AL
