/- AuditLooks: what is seen. -/
import Derived.Test.YtbbpkkeaddbcnaaZAL8
set_option linter.unusedSimpArgs false
set_option linter.unusedVariables false
namespace Go.Proofs.Ytbbpkkeaddbcnaa.ZIM.AL
open Go.Proofs.Ytbbpkkeaddbcnaa.ZIM Go.RowKit

structure Seen where
  t : Int
  d : ByteArray
def Seen.enc (x : Seen) : PV := .agg [.int .i64 x.t, .str x.d]
theorem Seen.data (x : Seen) : x.enc.data = true := rfl
theorem se_okns (l : List Seen) (a b c) : PV.okns a b c (encs Seen.enc l) = true := encs_okns (fun x _ => x.data) a b c
theorem se_deps (l : List Seen) (a) : PV.deps a (encs Seen.enc l) = true := encs_deps (fun x _ => x.data) a
theorem h43 : fns 43 = some c43 := rfl
def seenTake (p : Mark → Bool) (r : Rnd) (j : Nat) : List Seen := ((r.ms.take j).filter p).map fun k => ⟨r.t, k.data⟩
def seenRound (p : Mark → Bool) (r : Rnd) : List Seen := (r.ms.filter p).map fun k => ⟨r.t, k.data⟩
def seenAll (p : Mark → Bool) (ks : List Rnd) : List Seen := ks.flatMap (seenRound p)
def seen (p : Mark → Bool) (rs : List Rnd) : List Seen := seenAll p (rounds rs)
theorem seenTake_succ (p : Mark → Bool) (r : Rnd) (j : Nat) (h : j < r.ms.length) : seenTake p r (j + 1) = seenTake p r j ++ (if p r.ms[j] = true then [⟨r.t, r.ms[j].data⟩] else []) := by
  unfold seenTake
  rw [filter_take p r.ms j h, List.map_append]
  split <;> simp
theorem seenTake_len (p : Mark → Bool) (r : Rnd) (j : Nat) : (seenTake p r j).length ≤ r.ms.length := by
  have := List.length_filter_le p (r.ms.take j)
  simp only [List.length_take] at this
  simp only [seenTake, List.length_map]; omega
theorem seenTake_all (p : Mark → Bool) (r : Rnd) : seenTake p r r.ms.length = seenRound p r := by simp [seenTake, seenRound]
section
variable (fv : PV) (p : Mark → Bool) (m : Mem) (hfv : ∀ ks ts, fv.okn m.length ks ts = true) (hw : ∀ (k : Mark) (own : Lvl), app fns fv [k.enc] (own :: m) = some (.bool (p k), own :: m))
  (nk : Bool) (ks : List Rnd) (hk : ∀ r ∈ ks, r.ok ∧ r.ms.length ≤ 5) (hl : ks.length ≤ 1000)
def S43b (acc : List Seen) (i : Nat) (r : Rnd) (j : Nat) : St :=
  ⟨[(1, fv), (5, .lst (some 5) (acc ++ seenTake p r j).isEmpty 2 (encs Seen.enc (acc ++ seenTake p r j))), (7, .ptr m.length 7 0), (11, .lst none nk 6 (encs Rnd.enc ks)), (12, .int .i64 ks.length), (13, .int .i64 i),
    (18, .lst none r.nm 5 (encs Mark.enc r.ms)), (19, .int .i64 r.ms.length), (20, .int .i64 j)], [(5, (acc ++ seenTake p r j).length, 83)],
    [(7, [.int .i64 r.t, r.p, r.q, .lst none r.nc 14 (encs Came.enc r.cs), .lst none r.nm 5 (encs Mark.enc r.ms), .int .i64 r.w])], m⟩
include hk in
theorem ks_okns5 (a b c) : PV.okns a b c (encs Rnd.enc ks) = true := encs_okns (fun r h => Rnd.data (hk r h).1) a b c
include hfv hw hk in
theorem loop43b (acc : List Seen) (ha : acc.length < 10000) (i : Nat) (hi : i < ks.length) (hi2 : i < 1000000) {st : St} (h0 : maskSt [1, 5, 7, 11, 12, 13, 18, 19, 20] [7] [5] st = some (S43b fv p m nk ks acc i ks[i] 0)) :
    loopW (maskSt [1, 5, 7, 11, 12, 13, 18, 19, 20] [7] [5]) (Cd.run (app fns) c43.body.in2) st = c43.body.in2.run (app fns) (S43b fv p m nk ks acc i ks[i] ks[i].ms.length) := by
  obtain ⟨⟨⟨p1, p2, p3⟩, q1, q2, q3⟩, h4⟩ := hk _ (List.getElem_mem hi)
  have pk := fun a b c => PV.data_okn a b c _ p1
  have qk := fun a b c => PV.data_okn a b c _ q1
  refine loop_eq (S43b fv p m nk ks acc i ks[i]) ks[i].ms.length (fun j hj => ?_) ?_ h0
  · have hj' : (j : Int) < ks[i].ms.length := by omega
    have hww := wrap_succ j (by omega)
    have hb : ((acc ++ seenTake p ks[i] j).length + 1) * 24 ≤ maxBytes := by
      have := seenTake_len p ks[i] j
      simp only [List.length_append]
      unfold maxBytes; omega
    have hrs := ks_okns5 ks hk
    have hwj := fun own => hw ks[i].ms[j] own
    simp only [Mark.enc] at hwj
    unfold S43b
    rw [seenTake_succ p ks[i] j hj, ← List.append_assoc]
    generalize acc ++ seenTake p ks[i] j = A at hb
    cases hc : p ks[i].ms[j] with
    | true => simp [c43, Cd.in2, Cd.inner, Cd.body, hj', hj, encs_getE, Mark.enc, hwj, hc, Seen.enc, splice, hb, hww, hrs, hs_okns, cs_okns, ms_okns, se_okns, okns_append, pk, qk, hfv]
    | false => simp [c43, Cd.in2, Cd.inner, Cd.body, hj', hj, encs_getE, Mark.enc, hwj, hc, Seen.enc, splice, hb, hww, hrs, hs_okns, cs_okns, ms_okns, se_okns, okns_append, pk, qk, hfv]
  · simp [c43, Cd.in2, Cd.inner, Cd.body, S43b]
theorem seenAll_len : ∀ ks : List Rnd, (∀ r ∈ ks, r.ok ∧ r.ms.length ≤ 5) → (seenAll p ks).length ≤ ks.length * 5
  | [], _ => by simp [seenAll]
  | r :: ks, h => by
    have h1 := seenAll_len ks fun y hy => h y (by simp [hy])
    have h2 := seenTake_len p r r.ms.length
    rw [seenTake_all] at h2
    have h3 := (h r (by simp)).2
    simp only [seenAll, List.flatMap_cons, List.length_append, List.length_cons] at h1 ⊢
    omega
def S43 (i : Nat) : St :=
  ⟨[(1, fv), (5, .lst (some 5) (seenAll p (ks.take i)).isEmpty 2 (encs Seen.enc (seenAll p (ks.take i)))), (11, .lst none nk 6 (encs Rnd.enc ks)), (12, .int .i64 ks.length), (13, .int .i64 i)], [(5, (seenAll p (ks.take i)).length, 83)], [], m⟩
include hfv hw hk hl in
theorem loop43 {st : St} (h0 : maskSt [1, 5, 11, 12, 13] [] [5] st = some (S43 fv p m nk ks 0)) :
    loopW (maskSt [1, 5, 11, 12, 13] [] [5]) (Cd.run (app fns) c43.body.inner.body) st = c43.body.inner.body.run (app fns) (S43 fv p m nk ks ks.length) := by
  refine loop_eq (S43 fv p m nk ks) ks.length (fun i hi => ?_) ?_ h0
  · obtain ⟨⟨⟨p1, p2, p3⟩, q1, q2, q3⟩, h4⟩ := hk _ (List.getElem_mem hi)
    have pk := fun a b c => PV.data_okn a b c _ p1
    have qk := fun a b c => PV.data_okn a b c _ q1
    have hi' : (i : Int) < ks.length := by omega
    have hww := wrap_succ i (by omega)
    have hrs := ks_okns5 ks hk
    have hlen := seenAll_len p (ks.take i) fun y hy => hk y (List.mem_of_mem_take hy)
    rw [List.length_take] at hlen
    have hf := flatMap_take (seenRound p) ks i hi
    unfold S43
    unfold seenAll at hlen ⊢
    rw [hf]
    generalize (ks.take i).flatMap (seenRound p) = A at hlen
    have hin := fun st => @loop43b fv p m hfv hw nk ks hk A (by omega) i hi (by omega) st
    have e0 : seenTake p ks[i] 0 = [] := by simp [seenTake]
    simp only [c43, Cd.in2, Cd.inner, Cd.body, S43b, e0, seenTake_all, List.append_nil] at hin
    simp [c43, Cd.in2, Cd.inner, Cd.body, hi', hi, encs_getE, Rnd.enc, p2, q2, p3, q3, pk, qk, splice, hin, hww, hrs, hs_okns, cs_okns, ms_okns, se_okns, okns_append, hfv]
  · simp [c43, Cd.inner, Cd.body, S43]
end
theorem rounds_ok5 {rs : List Rnd} (h : ∀ r ∈ rs, r.ok ∧ r.ms.length ≤ 5) : ∀ r ∈ rounds rs, r.ok ∧ r.ms.length ≤ 5 := fun r hr => h r (List.mem_filter.1 hr).1
theorem app43 (fv : PV) (p : Mark → Bool) (m : Mem) (hfv : ∀ ks ts, fv.okn m.length ks ts = true) (hw : ∀ (k : Mark) (own : Lvl), app fns fv [k.enc] (own :: m) = some (.bool (p k), own :: m)) (nr : Bool) (rs : List Rnd) (hr : ∀ r ∈ rs, r.ok ∧ r.ms.length ≤ 5) (hl : rs.length ≤ 1000) :
    app fns (.fn 43 []) [.lst none nr 6 (encs Rnd.enc rs), fv] m = some (.lst none (seen p rs).isEmpty 2 (encs Seen.enc (seen p rs)), m) := by
  rw [app_fn fns h43 rfl]
  have hlr := rounds_len rs
  have hin := fun st => @loop43 fv p m hfv hw (rounds rs).isEmpty (rounds rs) (rounds_ok5 hr) (by omega) st
  simp only [c43, Cd.inner, Cd.body, S43, List.take_zero, List.take_length] at hin
  have e0 : seenAll p [] = [] := rfl
  have e1 : seenAll p (rounds rs) = seen p rs := rfl
  simp only [e0, e1, encs_nil] at hin
  have h61 := fun m => app61 nr rs (fun r h => (hr r h).1) hl m
  have hk := ks_okns5 (rounds rs) (rounds_ok5 hr)
  simp [c43, h61, hin, hk, se_deps, hfv]
end Go.Proofs.Ytbbpkkeaddbcnaa.ZIM.AL
