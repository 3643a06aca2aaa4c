/- AuditLooks: waits. -/
import Derived.Test.YtbbpkkeaddbcnaaZAL10
set_option linter.unusedSimpArgs false
set_option linter.unusedVariables false
namespace Go.Proofs.Ytbbpkkeaddbcnaa.ZIM.AL
open Go.Proofs.Ytbbpkkeaddbcnaa.ZIM Go.RowKit

theorem h63 : fns 63 = some c63 := rfl
theorem h48 : fns 48 = some c48 := rfl
theorem h27 : fns 27 = some c27 := rfl
def lastStep (v : ByteArray) (now : Int) (s : Int × Bool) (e : Seen) : Int × Bool :=
  if (e.d.toList == v.toList && (decide (e.t ≤ now) && (!s.2 || decide (e.t > s.1)))) = true then (e.t, true) else s
def lastOf (es : List Seen) (v : ByteArray) (now : Int) : Int × Bool := es.foldl (lastStep v now) (0, false)
theorem foldl_take {α β : Type} (g : β → α → β) (b : β) (l : List α) (i : Nat) (h : i < l.length) : (l.take (i + 1)).foldl g b = g ((l.take i).foldl g b) l[i] := by
  rw [take_succ' l i h, List.foldl_append]; rfl
section
variable (ne : Bool) (es : List Seen) (he : es.length < 1000000) (v : ByteArray) (now : Int) (m : Mem)
def S63 (i : Nat) : St :=
  ⟨[(1, .str v), (2, .int .i64 now), (8, .int .i64 (lastOf (es.take i) v now).1), (9, .bool (lastOf (es.take i) v now).2), (12, .lst none ne 2 (encs Seen.enc es)), (13, .int .i64 es.length), (14, .int .i64 i)], [], [], m⟩
include he in
theorem loop63 {st : St} (h0 : maskSt [1, 2, 8, 9, 12, 13, 14] [] [] st = some (S63 ne es v now m 0)) :
    loopW (maskSt [1, 2, 8, 9, 12, 13, 14] [] []) (Cd.run (app fns) c63.body.inner.body) st = c63.body.inner.body.run (app fns) (S63 ne es v now m es.length) := by
  refine loop_eq (S63 ne es v now m) es.length (fun i hi => ?_) ?_ h0
  · have hi' : (i : Int) < es.length := by omega
    have hw := wrap_succ i (by omega)
    have hse := se_okns es
    have hf := foldl_take (lastStep v now) (0, false) es i hi
    unfold S63
    unfold lastOf
    rw [hf]
    generalize (es.take i).foldl (lastStep v now) (0, false) = F
    obtain ⟨at_, ok⟩ := F
    cases h1 : (es[i].d.toList == v.toList) with
    | false => simp [c63, Cd.inner, Cd.body, hi', hi, encs_getE, Seen.enc, splice, hw, hse, lastStep, h1]
    | true =>
      by_cases h2 : es[i].t ≤ now
      · cases ok with
        | false => simp [c63, Cd.inner, Cd.body, hi', hi, encs_getE, Seen.enc, splice, hw, hse, lastStep, h1, h2]
        | true =>
          by_cases h3 : at_ < es[i].t
          · simp [c63, Cd.inner, Cd.body, hi', hi, encs_getE, Seen.enc, splice, hw, hse, lastStep, h1, h2, h3]
          · simp [c63, Cd.inner, Cd.body, hi', hi, encs_getE, Seen.enc, splice, hw, hse, lastStep, h1, h2, h3]
      · simp [c63, Cd.inner, Cd.body, hi', hi, encs_getE, Seen.enc, splice, hw, hse, lastStep, h1, h2]
  · simp [c63, Cd.inner, Cd.body, S63]
include he in
theorem app63 : app fns (.fn 63 []) [.lst none ne 2 (encs Seen.enc es), .str v, .int .i64 now] m = some (.tup [.int .i64 (lastOf es v now).1, .bool (lastOf es v now).2], m) := by
  rw [app_fn fns h63 rfl]
  have hin := fun st => @loop63 ne es he v now m st
  simp only [c63, Cd.inner, Cd.body, S63, List.take_zero, List.take_length] at hin
  have e0 : lastOf [] v now = (0, false) := rfl
  simp only [e0] at hin
  simp [c63, hin, se_okns]
include he in
theorem app48 (h : Heard) : app fns (.fn 48 []) [h.enc, .lst none ne 2 (encs Seen.enc es)] m =
    some (.tup [.int .i64 (IntKind.i64.wrap (h.t - (lastOf es h.v h.t).1)), .bool ((lastOf es h.v h.t).2 && h.clean)], m) := by
  rw [app_fn fns h48 rfl]
  have h63 := fun m => app63 ne es he h.v h.t m
  cases hb : (lastOf es h.v h.t).2 <;> simp [c48, Heard.enc, h63, hb]
end
end Go.Proofs.Ytbbpkkeaddbcnaa.ZIM.AL
