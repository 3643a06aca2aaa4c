/- AuditLooks: all frames of a link. -/
import Derived.Test.YtbbpkkeaddbcnaaZAL7
set_option linter.unusedSimpArgs false
set_option linter.unusedVariables false
namespace Go.Proofs.Ytbbpkkeaddbcnaa.ZIM.AL
open Go.Proofs.Ytbbpkkeaddbcnaa.ZIM Go.RowKit

/-- A round's frames of a link. -/
def ofRound (x : Link) (r : Rnd) : List Heard := (r.cs.filter (hears x)).map (heard x r.t)
def ofTake (x : Link) (r : Rnd) (j : Nat) : List Heard := ((r.cs.take j).filter (hears x)).map (heard x r.t)
def frames (x : Link) (rs : List Rnd) : List Heard := (rounds rs).flatMap (ofRound x)
theorem ofTake_succ (x : Link) (r : Rnd) (j : Nat) (h : j < r.cs.length) : ofTake x r (j + 1) = ofTake x r j ++ (if hears x r.cs[j] = true then [heard x r.t r.cs[j]] else []) := by
  unfold ofTake
  rw [filter_take (hears x) r.cs j h, List.map_append]
  split <;> simp
theorem ofTake_len (x : Link) (r : Rnd) (j : Nat) : (ofTake x r j).length ≤ r.cs.length := by
  have := List.length_filter_le (hears x) (r.cs.take j)
  simp only [List.length_take] at this
  simp only [ofTake, List.length_map]; omega
theorem ofTake_all (x : Link) (r : Rnd) : ofTake x r r.cs.length = ofRound x r := by simp [ofTake, ofRound]
theorem hs_okns (l : List Heard) (a b c) : PV.okns a b c (encs Heard.enc l) = true := encs_okns (fun x _ => x.data) a b c
theorem cs_okns (l : List Came) (a b c) : PV.okns a b c (encs Came.enc l) = true := encs_okns (fun x _ => x.data) a b c
theorem ms_okns (l : List Mark) (a b c) : PV.okns a b c (encs Mark.enc l) = true := encs_okns (fun x _ => x.data') a b c

section
variable (x : Link) (nk : Bool) (ks : List Rnd) (hk : ∀ r ∈ ks, r.ok ∧ r.cs.length ≤ 4) (hl : ks.length ≤ 1000) (m : Mem)
def S47b (acc : List Heard) (i : Nat) (r : Rnd) (j : Nat) : St :=
  ⟨[(2, .ptr m.length 2 0), (5, .lst (some 5) (acc ++ ofTake x r j).isEmpty 4 (encs Heard.enc (acc ++ ofTake x r j))), (7, .ptr m.length 7 0), (13, .lst none nk 6 (encs Rnd.enc ks)), (14, .int .i64 ks.length), (15, .int .i64 i),
    (20, .lst none r.nc 14 (encs Came.enc r.cs)), (21, .int .i64 r.cs.length), (22, .int .i64 j)], [(5, (acc ++ ofTake x r j).length, 112)],
    [(2, [.int .i64 x.frm, .int .i64 x.frmCh, .int .i64 x.to, .int .i64 x.toCh, .int .i64 x.plain, .int .i64 x.turned, .int .i64 x.gap]),
     (7, [.int .i64 r.t, r.p, r.q, .lst none r.nc 14 (encs Came.enc r.cs), .lst none r.nm 5 (encs Mark.enc r.ms), .int .i64 r.w])], m⟩
include hk in
theorem ks_okns (a b c) : PV.okns a b c (encs Rnd.enc ks) = true := encs_okns (fun r h => Rnd.data (hk r h).1) a b c
include hk in
theorem loop47b (acc : List Heard) (ha : acc.length < 10000) (i : Nat) (hi : i < ks.length) (hi2 : i < 1000000) {st : St} (h0 : maskSt [2, 5, 7, 13, 14, 15, 20, 21, 22] [2, 7] [5] st = some (S47b x nk ks m acc i ks[i] 0)) :
    loopW (maskSt [2, 5, 7, 13, 14, 15, 20, 21, 22] [2, 7] [5]) (Cd.run (app fns) c47.body.in2) st = c47.body.in2.run (app fns) (S47b x nk ks m acc i ks[i] ks[i].cs.length) := by
  obtain ⟨⟨⟨p1, p2, p3⟩, q1, q2, q3⟩, h4⟩ := hk _ (List.getElem_mem hi)
  have pk := fun a b c => PV.data_okn a b c _ p1
  have qk := fun a b c => PV.data_okn a b c _ q1
  refine loop_eq (S47b x nk ks m acc i ks[i]) ks[i].cs.length (fun j hj => ?_) ?_ h0
  · have hj' : (j : Int) < ks[i].cs.length := by omega
    have hw := wrap_succ j (by omega)
    have hb : ((acc ++ ofTake x ks[i] j).length + 1) * 32 ≤ maxBytes := by
      have := ofTake_len x ks[i] j
      simp only [List.length_append]
      unfold maxBytes; omega
    have hrs := ks_okns ks hk
    have h62 := fun m => app62 x ks[i].t ks[i].cs[j] m
    simp only [Link.enc, Came.enc] at h62
    unfold S47b
    rw [ofTake_succ x ks[i] j hj, ← List.append_assoc]
    generalize acc ++ ofTake x ks[i] j = A at hb
    cases hc : hears x ks[i].cs[j] with
    | true =>
      simp [c47, Cd.in2, Cd.inner, Cd.body, hj', hj, encs_getE, Came.enc, h62, hc, Heard.enc, Heard.zero, splice, hb, hw, hrs, hs_okns, cs_okns, ms_okns, okns_append, pk, qk]
    | false =>
      simp [c47, Cd.in2, Cd.inner, Cd.body, hj', hj, encs_getE, Came.enc, h62, hc, Heard.enc, Heard.zero, splice, hb, hw, hrs, hs_okns, cs_okns, ms_okns, okns_append, pk, qk]
  · simp [c47, Cd.in2, Cd.inner, Cd.body, S47b]
def frs (x : Link) (ks : List Rnd) : List Heard := ks.flatMap (ofRound x)
theorem frs_len (x : Link) : ∀ ks : List Rnd, (∀ r ∈ ks, r.ok ∧ r.cs.length ≤ 4) → (frs x ks).length ≤ ks.length * 4
  | [], _ => by simp [frs]
  | r :: ks, h => by
    have h1 := frs_len x ks fun y hy => h y (by simp [hy])
    have h2 := ofTake_len x r r.cs.length
    rw [ofTake_all] at h2
    have h3 := (h r (by simp)).2
    simp only [frs, List.flatMap_cons, List.length_append, List.length_cons] at h1 ⊢
    omega
def S47 (i : Nat) : St :=
  ⟨[(2, .ptr m.length 2 0), (5, .lst (some 5) (frs x (ks.take i)).isEmpty 4 (encs Heard.enc (frs x (ks.take i)))), (13, .lst none nk 6 (encs Rnd.enc ks)), (14, .int .i64 ks.length), (15, .int .i64 i)], [(5, (frs x (ks.take i)).length, 112)],
    [(2, [.int .i64 x.frm, .int .i64 x.frmCh, .int .i64 x.to, .int .i64 x.toCh, .int .i64 x.plain, .int .i64 x.turned, .int .i64 x.gap])], m⟩
include hk hl in
theorem loop47 {st : St} (h0 : maskSt [2, 5, 13, 14, 15] [2] [5] st = some (S47 x nk ks m 0)) :
    loopW (maskSt [2, 5, 13, 14, 15] [2] [5]) (Cd.run (app fns) c47.body.inner.body) st = c47.body.inner.body.run (app fns) (S47 x nk ks m ks.length) := by
  refine loop_eq (S47 x nk ks m) ks.length (fun i hi => ?_) ?_ h0
  · obtain ⟨⟨⟨p1, p2, p3⟩, q1, q2, q3⟩, h4⟩ := hk _ (List.getElem_mem hi)
    have pk := fun a b c => PV.data_okn a b c _ p1
    have qk := fun a b c => PV.data_okn a b c _ q1
    have hi' : (i : Int) < ks.length := by omega
    have hw := wrap_succ i (by omega)
    have hrs := ks_okns ks hk
    have hlen := frs_len x (ks.take i) fun y hy => hk y (List.mem_of_mem_take hy)
    rw [List.length_take] at hlen
    have hf := flatMap_take (ofRound x) ks i hi
    unfold S47
    unfold frs at hlen ⊢
    rw [hf]
    generalize (ks.take i).flatMap (ofRound x) = A at hlen
    have hin := fun st => @loop47b x nk ks hk m A (by omega) i hi (by omega) st
    have e0 : ofTake x ks[i] 0 = [] := by simp [ofTake]
    simp only [c47, Cd.in2, Cd.inner, Cd.body, S47b, e0, ofTake_all, List.append_nil] at hin
    simp [c47, Cd.in2, Cd.inner, Cd.body, hi', hi, encs_getE, Rnd.enc, p2, q2, p3, q3, pk, qk, splice, hin, hw, hrs, hs_okns, cs_okns, ms_okns, okns_append]
  · simp [c47, Cd.inner, Cd.body, S47]
end
theorem rounds_ok {rs : List Rnd} (h : ∀ r ∈ rs, r.ok ∧ r.cs.length ≤ 4) : ∀ r ∈ rounds rs, r.ok ∧ r.cs.length ≤ 4 := fun r hr => h r (List.mem_filter.1 hr).1
theorem rounds_len (rs : List Rnd) : (rounds rs).length ≤ rs.length := List.length_filter_le _ _
theorem app47 (x : Link) (nr : Bool) (rs : List Rnd) (hr : ∀ r ∈ rs, r.ok ∧ r.cs.length ≤ 4) (hl : rs.length ≤ 1000) (m : Mem) :
    app fns (.fn 47 []) [x.enc, .lst none nr 6 (encs Rnd.enc rs)] m = some (.lst none (frames x rs).isEmpty 4 (encs Heard.enc (frames x rs)), m) := by
  rw [app_fn fns h47 rfl]
  have hlr := rounds_len rs
  have hin := fun st => @loop47 x (rounds rs).isEmpty (rounds rs) (rounds_ok hr) (by omega) m st
  simp only [c47, Cd.inner, Cd.body, S47, List.take_zero, List.take_length] at hin
  have e0 : frs x [] = [] := rfl
  have e1 : frs x (rounds rs) = frames x rs := rfl
  simp only [e0, e1, encs_nil] at hin
  have h61 := fun m => app61 nr rs (fun r h => (hr r h).1) hl m
  have hk := ks_okns (rounds rs) (rounds_ok hr)
  have hd : PV.deps m.length (encs Heard.enc (frames x rs)) = true := encs_deps (fun y _ => y.data) _
  simp [c47, Link.enc, h61, hin, hk, hd]
end Go.Proofs.Ytbbpkkeaddbcnaa.ZIM.AL
