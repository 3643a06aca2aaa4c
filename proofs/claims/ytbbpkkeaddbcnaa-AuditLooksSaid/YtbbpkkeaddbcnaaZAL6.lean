/- AuditLooks: rounds, and a link's frames. -/
import Derived.Test.YtbbpkkeaddbcnaaZAL5
import Derived.Test.YtbbpkkeaddbcnaaZIM24
set_option linter.unusedSimpArgs false
set_option linter.unusedVariables false
namespace Go.Proofs.Ytbbpkkeaddbcnaa.ZIM.AL
open Go.Proofs.Ytbbpkkeaddbcnaa.ZIM Go.RowKit

structure Link where
  frm : Int
  frmCh : Int
  to : Int
  toCh : Int
  plain : Int
  turned : Int
  gap : Int
def Link.enc (x : Link) : PV := .agg [.int .i64 x.frm, .int .i64 x.frmCh, .int .i64 x.to, .int .i64 x.toCh, .int .i64 x.plain, .int .i64 x.turned, .int .i64 x.gap]
structure Came where
  frm : Int
  at_ : Int
  f : Frm
  clean : Bool
def Came.enc (x : Came) : PV := .agg [.int .i64 x.frm, .int .i64 x.at_, .int .i64 x.f.id, .bool x.f.rtr, .int .i64 x.f.len, .int .u8 x.f.d0, .int .u8 x.f.d1, .int .u8 x.f.d2, .int .u8 x.f.d3, .int .u8 x.f.d4, .int .u8 x.f.d5, .int .u8 x.f.d6, .int .u8 x.f.d7, .bool x.clean]
structure Mark where
  tick : Int
  node : Int
  kind : Int
  n : Int
  data : ByteArray
def Mark.enc (x : Mark) : PV := .agg [.int .i64 x.tick, .int .i64 x.node, .int .i64 x.kind, .int .i64 x.n, .str x.data]
structure Rnd where
  t : Int
  p : PV
  q : PV
  nc : Bool
  cs : List Came
  nm : Bool
  ms : List Mark
  w : Int
def Rnd.enc (x : Rnd) : PV := .agg [.int .i64 x.t, x.p, x.q, .lst none x.nc 14 (encs Came.enc x.cs), .lst none x.nm 5 (encs Mark.enc x.ms), .int .i64 x.w]
def Rnd.ok (x : Rnd) : Prop := plain x.p ∧ plain x.q
theorem Came.data (x : Came) : x.enc.data = true := rfl
theorem Mark.data' (x : Mark) : x.enc.data = true := rfl
theorem Rnd.data {x : Rnd} (h : x.ok) : x.enc.data = true := by
  simp [Rnd.enc, PV.data, PV.datas, h.1.1, h.2.1, encs_data (f := Came.enc) (fun x _ => x.data), encs_data (f := Mark.enc) (fun x _ => x.data')]
structure Heard where
  t : Int
  turned : Bool
  clean : Bool
  v : ByteArray
def Heard.enc (x : Heard) : PV := .agg [.int .i64 x.t, .bool x.turned, .bool x.clean, .str x.v]
theorem Heard.data (x : Heard) : x.enc.data = true := rfl

theorem h59 : fns 59 = some c59 := rfl
theorem h61 : fns 61 = some c61 := rfl
theorem h62 : fns 62 = some c62 := rfl
theorem h47 : fns 47 = some c47 := rfl
def tick (n : Int) : Bool := decide (n ≥ 0) && decide (n ≤ 2147483647)
theorem app59 (n : Int) (m : Mem) : app fns (.fn 59 []) [.int .i64 n] m = some (.bool (tick n), m) := by
  rw [app_fn fns h59 rfl]
  unfold tick
  by_cases h : n ≥ 0 <;> simp [c59, h]
def rounds (rs : List Rnd) : List Rnd := rs.filter fun r => tick r.t
section
variable (nr : Bool) (rs : List Rnd) (hr : ∀ r ∈ rs, r.ok) (hl : rs.length ≤ 1000) (m : Mem)
def S61 (i : Nat) : St :=
  ⟨[(3, .lst (some 3) (rounds (rs.take i)).isEmpty 6 (encs Rnd.enc (rounds (rs.take i)))), (6, .lst none nr 6 (encs Rnd.enc rs)), (7, .int .i64 rs.length), (8, .int .i64 i)], [(3, (rounds (rs.take i)).length, 53)], [], m⟩
include hr in
theorem rs_okns (a b c) : PV.okns a b c (encs Rnd.enc rs) = true := encs_okns (fun r h => Rnd.data (hr r h)) a b c
include hr in
theorem rounds_okns (i : Nat) (a b c) : PV.okns a b c (encs Rnd.enc (rounds (rs.take i))) = true := encs_okns (fun r h => Rnd.data (hr r (List.mem_of_mem_take (List.mem_filter.1 h).1))) a b c
include hr hl in
theorem loop61 {st : St} (h0 : maskSt [3, 6, 7, 8] [] [3] st = some (S61 nr rs m 0)) :
    loopW (maskSt [3, 6, 7, 8] [] [3]) (Cd.run (app fns) c61.body.inner.body) st = c61.body.inner.body.run (app fns) (S61 nr rs m rs.length) := by
  refine loop_eq (S61 nr rs m) rs.length (fun i hi => ?_) ?_ h0
  · have hi' : (i : Int) < rs.length := by omega
    have hw := wrap_succ i (by omega)
    have hok := rounds_okns rs hr i
    have hok' := rounds_okns rs hr (i + 1)
    have hb : ((rounds (rs.take i)).length + 1) * 112 ≤ maxBytes := by
      have := List.length_filter_le (fun r : Rnd => tick r.t) (rs.take i)
      simp only [List.length_take] at this
      unfold rounds maxBytes; omega
    have hrs := rs_okns rs hr
    obtain ⟨⟨p1, p2, p3⟩, q1, q2, q3⟩ := hr _ (List.getElem_mem hi)
    unfold S61
    have hf := filter_take (fun r : Rnd => tick r.t) rs i hi
    unfold rounds at hb hok hok' ⊢
    rw [hf] at hok' ⊢
    generalize (rs.take i).filter (fun r : Rnd => tick r.t) = A at hb hok hok'
    cases ht : tick rs[i].t with
    | true =>
      simp only [ht, if_true, encs_append, encs_cons, encs_nil] at hok'
      simp only [Rnd.enc] at hok'
      simp [c61, Cd.inner, Cd.body, hi', hi, encs_getE, Rnd.enc, p2, q2, p3, q3, app59, ht, hb, hw, hrs, hok, hok']
    | false =>
      simp [c61, Cd.inner, Cd.body, hi', hi, encs_getE, Rnd.enc, p2, q2, p3, q3, app59, ht, hb, hw, hrs, hok]
  · simp [c61, Cd.inner, Cd.body, S61]
include hr hl in
theorem app61 : app fns (.fn 61 []) [.lst none nr 6 (encs Rnd.enc rs)] m = some (.lst none (rounds rs).isEmpty 6 (encs Rnd.enc (rounds rs)), m) := by
  rw [app_fn fns h61 rfl]
  have hin := fun st => @loop61 nr rs hr hl m st
  simp only [c61, Cd.inner, Cd.body, S61, List.take_zero, List.take_length] at hin
  have e0 : rounds [] = [] := rfl
  simp only [e0, encs_nil] at hin
  have hd : PV.deps m.length (encs Rnd.enc (rounds rs)) = true := encs_deps (fun r h => Rnd.data (hr r (List.mem_filter.1 h).1)) _
  simp [c61, hin, rs_okns rs hr, hd]
end
end Go.Proofs.Ytbbpkkeaddbcnaa.ZIM.AL
