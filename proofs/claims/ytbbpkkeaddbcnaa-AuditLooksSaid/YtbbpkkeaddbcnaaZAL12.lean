/- AuditLooks: the wait, and how spoilt a window is. -/
import Derived.Test.YtbbpkkeaddbcnaaZAL11
set_option linter.unusedSimpArgs false
set_option linter.unusedVariables false
namespace Go.Proofs.Ytbbpkkeaddbcnaa.ZIM.AL
open Go.Proofs.Ytbbpkkeaddbcnaa.ZIM Go.RowKit

def waitOf (es : List Seen) (h : Heard) : Int := IntKind.i64.wrap (h.t - (lastOf es h.v h.t).1)
def okOf (es : List Seen) (h : Heard) : Bool := (lastOf es h.v h.t).2 && h.clean
def imax (a b : Int) : Int := if b > a then b else a
def waitStep (es : List Seen) (n : Int) (h : Heard) : Int := if okOf es h = true then imax n (waitOf es h) else n
def waitAll (es : List Seen) (hs : List Heard) : Int := hs.foldl (waitStep es) 0
section
variable (ne : Bool) (es : List Seen) (he : es.length < 1000000) (nh : Bool) (hs : List Heard) (hl : hs.length < 1000000) (m : Mem)
def S27 (own : Lvl) (i : Nat) : St :=
  ⟨[(5, .lst none ne 2 (encs Seen.enc es)), (6, .int .i64 (waitAll es (hs.take i))), (16, .lst none nh 4 (encs Heard.enc hs)), (17, .int .i64 hs.length), (18, .int .i64 i)], [], [], m⟩
include he hl in
theorem loop27 {st : St} (h0 : maskSt [5, 6, 16, 17, 18] [] [] st = some (S27 ne es nh hs m [] 0)) :
    loopW (maskSt [5, 6, 16, 17, 18] [] []) (Cd.run (app fns) c27.body.inner.body) st = c27.body.inner.body.run (app fns) (S27 ne es nh hs m [] hs.length) := by
  refine loop_eq (S27 ne es nh hs m []) hs.length (fun i hi => ?_) ?_ h0
  · have hi' : (i : Int) < hs.length := by omega
    have hw := wrap_succ i (by omega)
    have hse := se_okns es
    have hhs := hs_okns hs
    have hf := foldl_take (waitStep es) 0 hs i hi
    have h48 := fun m => app48 ne es he m hs[i]
    simp only [Heard.enc] at h48
    unfold S27
    unfold waitAll
    rw [hf]
    generalize (hs.take i).foldl (waitStep es) 0 = F
    cases h1 : okOf es hs[i] with
    | false =>
      have h1' := h1
      unfold okOf at h1'
      simp [c27, Cd.inner, Cd.body, hi', hi, encs_getE, Heard.enc, h48, splice, hw, hse, hhs, waitStep, h1, h1']
    | true =>
      have h1' := h1
      unfold okOf at h1'
      simp [c27, Cd.inner, Cd.body, hi', hi, encs_getE, Heard.enc, h48, splice, hw, hse, hhs, waitStep, h1, h1', imax, waitOf]
  · simp [c27, Cd.inner, Cd.body, S27]
end
theorem emits_len (x : Link) (rs : List Rnd) (hr : ∀ r ∈ rs, r.ok ∧ r.ms.length ≤ 5) (hl : rs.length ≤ 1000) : (emits x rs).length < 1000000 := by
  have := seenAll_len (isEmit x) (rounds rs) (rounds_ok5 hr)
  have h2 := rounds_len rs
  unfold emits seen; omega
theorem frames_len (x : Link) (rs : List Rnd) (hr : ∀ r ∈ rs, r.ok ∧ r.cs.length ≤ 4) (hl : rs.length ≤ 1000) : (frames x rs).length < 1000000 := by
  have := frs_len x (rounds rs) (rounds_ok hr)
  have h2 := rounds_len rs
  have e1 : frs x (rounds rs) = frames x rs := rfl
  rw [e1] at this; omega
theorem app27 (x : Link) (nr : Bool) (rs : List Rnd) (hr4 : ∀ r ∈ rs, r.ok ∧ r.cs.length ≤ 4) (hr5 : ∀ r ∈ rs, r.ok ∧ r.ms.length ≤ 5) (hl : rs.length ≤ 1000) (m : Mem) :
    app fns (.fn 27 []) [x.enc, .lst none nr 6 (encs Rnd.enc rs)] m = some (.int .i64 (waitAll (emits x rs) (frames x rs)), m) := by
  rw [app_fn fns h27 rfl]
  have hin := fun st => @loop27 (emits x rs).isEmpty (emits x rs) (emits_len x rs hr5 hl) (frames x rs).isEmpty (frames x rs) (frames_len x rs hr4 hl) m st
  simp only [c27, Cd.inner, Cd.body, S27, List.take_zero, List.take_length] at hin
  have e0 : waitAll (emits x rs) [] = 0 := rfl
  simp only [e0] at hin
  have h24 := fun m => app24 x nr rs hr5 hl m
  have h47 := fun m => app47 x nr rs hr4 hl m
  simp only [Link.enc] at h24 h47
  simp [c27, Link.enc, h24, h47, hin, se_okns, hs_okns]
/-! ### how spoilt a window is -/
theorem h50 : fns 50 = some c50 := rfl
theorem h29 : fns 29 = some c29 := rfl
def badIn (es : List Seen) (a b : Int) (h : Heard) : Bool := !(okOf es h || (decide (h.t < a) || decide (h.t > b)))
def badStep (es : List Seen) (a b : Int) (s : Bool × Bool) (h : Heard) : Bool × Bool :=
  if badIn es a b h = true then (if h.turned = true then (s.1, true) else (true, s.2)) else s
def badAll (es : List Seen) (a b : Int) (hs : List Heard) : Bool × Bool := hs.foldl (badStep es a b) (false, false)
def count2 (s : Bool × Bool) : Int := (if s.1 = true then 1 else 0) + (if s.2 = true then 1 else 0)
section
variable (ne : Bool) (es : List Seen) (he : es.length < 1000000) (nh : Bool) (hs : List Heard) (hl : hs.length < 1000000) (a b : Int) (m : Mem)
def S50 (i : Nat) : St :=
  ⟨[(1, .lst none ne 2 (encs Seen.enc es)), (2, .int .i64 a), (3, .int .i64 b), (9, .ptr m.length 9 0), (17, .lst none nh 4 (encs Heard.enc hs)), (18, .int .i64 hs.length), (19, .int .i64 i)], [],
    [(9, [.bool (badAll es a b (hs.take i)).1, .bool (badAll es a b (hs.take i)).2])], m⟩
include he hl in
theorem loop50 {st : St} (h0 : maskSt [1, 2, 3, 9, 17, 18, 19] [9] [] st = some (S50 ne es nh hs a b m 0)) :
    loopW (maskSt [1, 2, 3, 9, 17, 18, 19] [9] []) (Cd.run (app fns) c50.body.inner.body) st = c50.body.inner.body.run (app fns) (S50 ne es nh hs a b m hs.length) := by
  refine loop_eq (S50 ne es nh hs a b m) hs.length (fun i hi => ?_) ?_ h0
  · have hi' : (i : Int) < hs.length := by omega
    have hw := wrap_succ i (by omega)
    have hse := se_okns es
    have hhs := hs_okns hs
    have hf := foldl_take (badStep es a b) (false, false) hs i hi
    have h48 := fun m => app48 ne es he m hs[i]
    simp only [Heard.enc] at h48
    unfold S50
    unfold badAll
    rw [hf]
    generalize (hs.take i).foldl (badStep es a b) (false, false) = F
    obtain ⟨F0, F1⟩ := F
    have h1' : ((lastOf es hs[i].v hs[i].t).2 && hs[i].clean) = okOf es hs[i] := rfl
    simp only [h1'] at h48
    cases h1 : okOf es hs[i] with
    | true => simp [c50, Cd.inner, Cd.body, hi', hi, encs_getE, Heard.enc, h48, splice, hw, hse, hhs, badStep, badIn, h1]
    | false =>
      by_cases h2 : hs[i].t < a
      · simp [c50, Cd.inner, Cd.body, hi', hi, encs_getE, Heard.enc, h48, splice, hw, hse, hhs, badStep, badIn, h1, h2]
      · by_cases h3 : hs[i].t > b
        · simp [c50, Cd.inner, Cd.body, hi', hi, encs_getE, Heard.enc, h48, splice, hw, hse, hhs, badStep, badIn, h1, h2, h3]
        · cases h4 : hs[i].turned <;> simp only [h4] at h48 <;> simp [c50, Cd.inner, Cd.body, hi', hi, encs_getE, Heard.enc, h48, splice, hw, hse, hhs, badStep, badIn, h1, h2, h3, h4]
  · simp [c50, Cd.inner, Cd.body, S50]
def cnt (s : Bool × Bool) (j : Nat) : Int := match j with
  | 0 => 0
  | 1 => if s.1 = true then 1 else 0
  | _ => count2 s
def S50c (s : Bool × Bool) (j : Nat) : St := ⟨[(14, .int .i64 (cnt s j)), (47, .agg [.bool s.1, .bool s.2]), (48, .int .i64 j)], [], [], m⟩
def Cd.snd : Cd → Cd
  | .seq a b => match a.inner with
    | .loop _ _ _ _ => b.inner
    | _ => Cd.snd b
  | c => c
theorem loop50c (s : Bool × Bool) {st : St} (h0 : maskSt [14, 47, 48] [] [] st = some (S50c m s 0)) :
    loopW (maskSt [14, 47, 48] [] []) (Cd.run (app fns) (Cd.snd c50.body).body) st = (Cd.snd c50.body).body.run (app fns) (S50c m s 2) := by
  refine loop_eq (S50c m s) 2 (fun j hj => ?_) ?_ h0
  · obtain ⟨s0, s1⟩ := s
    have hj2 : j = 0 ∨ j = 1 := by omega
    have w0 : IntKind.i64.wrap 1 = 1 := by decide
    have w1 : IntKind.i64.wrap 2 = 2 := by decide
    rcases hj2 with rfl | rfl <;> cases s0 <;> cases s1 <;> simp [c50, Cd.snd, Cd.inner, Cd.body, S50c, cnt, count2, w0, w1]
  · simp [c50, Cd.snd, Cd.inner, Cd.body, S50c]
include he hl in
theorem app50 : app fns (.fn 50 []) [.lst none nh 4 (encs Heard.enc hs), .lst none ne 2 (encs Seen.enc es), .int .i64 a, .int .i64 b] m = some (.int .i64 (count2 (badAll es a b hs)), m) := by
  rw [app_fn fns h50 rfl]
  have hin := fun st => @loop50 ne es he nh hs hl a b m st
  have hin2 := fun s st => @loop50c m s st
  have e0 : badAll es a b [] = (false, false) := rfl
  simp only [c50, Cd.inner, Cd.body, S50, List.take_zero, List.take_length, e0] at hin
  simp only [c50, Cd.snd, Cd.inner, Cd.body, S50c, cnt] at hin2
  generalize badAll es a b hs = s at hin
  simp [c50, hin, hin2 s, se_okns, hs_okns]
end
theorem app29 (x : Link) (a b : Int) (nr : Bool) (rs : List Rnd) (hr4 : ∀ r ∈ rs, r.ok ∧ r.cs.length ≤ 4) (hr5 : ∀ r ∈ rs, r.ok ∧ r.ms.length ≤ 5) (hl : rs.length ≤ 1000) (m : Mem) :
    app fns (.fn 29 []) [x.enc, .int .i64 a, .int .i64 b, .lst none nr 6 (encs Rnd.enc rs)] m = some (.int .i64 (count2 (badAll (emits x rs) a b (frames x rs))), m) := by
  rw [app_fn fns h29 rfl]
  have h24 := fun m => app24 x nr rs hr5 hl m
  have h47 := fun m => app47 x nr rs hr4 hl m
  have h50 := fun m => app50 (emits x rs).isEmpty (emits x rs) (emits_len x rs hr5 hl) (frames x rs).isEmpty (frames x rs) (frames_len x rs hr4 hl) a b m
  simp only [Link.enc] at h24 h47
  simp [c29, Link.enc, h24, h47, h50, se_okns, hs_okns, encs_deps (f := Rnd.enc) (fun r h => Rnd.data (hr4 r h).1), encs_deps (f := Seen.enc) (fun x _ => x.data), encs_deps (f := Heard.enc) (fun x _ => x.data)]
end Go.Proofs.Ytbbpkkeaddbcnaa.ZIM.AL
