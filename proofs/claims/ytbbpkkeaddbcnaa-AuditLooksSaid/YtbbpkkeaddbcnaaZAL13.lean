/- AuditLooks: what the reference sees; lists alike; few rounds. -/
import Derived.Test.YtbbpkkeaddbcnaaZAL12
set_option linter.unusedSimpArgs false
set_option linter.unusedVariables false
namespace Go.Proofs.Ytbbpkkeaddbcnaa.ZIM.AL
open Go.Proofs.Ytbbpkkeaddbcnaa.ZIM Go.RowKit

theorem h45 : fns 45 = some c45 := rfl
theorem h25 : fns 25 = some c25 := rfl
theorem h23 : fns 23 = some c23 := rfl
theorem h21 : fns 21 = some c21 := rfl
theorem app45 (r : Rnd) (h : r.ok) (m : Mem) : app fns (.fn 45 []) [r.enc] m = some (.bool (tick r.t), m) := by
  rw [app_fn fns h45 rfl]
  obtain ⟨⟨p1, p2, p3⟩, q1, q2, q3⟩ := h
  unfold tick
  by_cases h : r.t ≥ 0 <;> simp [c45, Rnd.enc, h, p2, q2, p3, q3]
def isK (k nd n : Int) (x : Mark) : Bool := x.kind == k && (x.node == nd && x.n == n)
section
variable (k nd n : Int) (nr : Bool) (rs : List Rnd) (hk : ∀ r ∈ rs, r.ok ∧ r.ms.length ≤ 5) (hl : rs.length ≤ 1000) (m : Mem)
def S25b (acc : List Seen) (i : Nat) (r : Rnd) (j : Nat) : St :=
  ⟨[(0, .int .i64 k), (1, .int .i64 nd), (2, .int .i64 n), (3, .lst none nr 6 (encs Rnd.enc rs)), (9, .lst (some 13) false 2 (encs Seen.enc (acc ++ seenTake (isK k nd n) r j))), (10, .int .i64 i), (11, .int .i64 j)],
    [(13, (acc ++ seenTake (isK k nd n) r j).length, 83)], [], m⟩
include hk in
theorem loop25b (acc : List Seen) (ha : acc.length < 10000) (i : Nat) (hi : i < rs.length) (hi2 : i < 1000000) {st : St} (h0 : maskSt [0, 1, 2, 3, 9, 10, 11] [] [13] st = some (S25b k nd n nr rs m acc i rs[i] 0)) :
    loopW (maskSt [0, 1, 2, 3, 9, 10, 11] [] [13]) (Cd.run (app fns) c25.body.in2) st = c25.body.in2.run (app fns) (S25b k nd n nr rs m acc i rs[i] (if tick rs[i].t = true then rs[i].ms.length else 0)) := by
  obtain ⟨hok, h4⟩ := hk _ (List.getElem_mem hi)
  have h45 := fun m => app45 rs[i] hok m
  obtain ⟨⟨p1, p2, p3⟩, q1, q2, q3⟩ := hok
  have pk := fun a b c => PV.data_okn a b c _ p1
  have qk := fun a b c => PV.data_okn a b c _ q1
  simp only [Rnd.enc] at h45
  have hrs := ks_okns5 rs hk
  refine loop_eq (S25b k nd n nr rs m acc i rs[i]) (if tick rs[i].t = true then rs[i].ms.length else 0) (fun j hj => ?_) ?_ h0
  · cases ht : tick rs[i].t with
    | false => rw [ht] at hj; simp at hj
    | true =>
    rw [ht, if_pos rfl] at hj
    have hj' : (j : Int) < rs[i].ms.length := by omega
    have hw := wrap_succ j (by omega)
    have hb : ((acc ++ seenTake (isK k nd n) rs[i] j).length + 1) * 24 ≤ maxBytes := by
      have := seenTake_len (isK k nd n) rs[i] j
      simp only [List.length_append]
      unfold maxBytes; omega
    unfold S25b
    rw [seenTake_succ (isK k nd n) rs[i] j hj, ← List.append_assoc]
    generalize acc ++ seenTake (isK k nd n) rs[i] j = A at hb
    cases h1 : (rs[i].ms[j].kind == k) with
    | false => simp [c25, Cd.in2, Cd.inner, Cd.body, hj', hj, hi, encs_getE, Rnd.enc, p2, q2, p3, q3, pk, qk, Mark.enc, h45, ht, isK, h1, Seen.enc, splice, hb, hw, hrs, hs_okns, cs_okns, ms_okns, se_okns, okns_append]
    | true =>
      cases h2 : (rs[i].ms[j].node == nd) with
      | false => simp [c25, Cd.in2, Cd.inner, Cd.body, hj', hj, hi, encs_getE, Rnd.enc, p2, q2, p3, q3, pk, qk, Mark.enc, h45, ht, isK, h1, h2, Seen.enc, splice, hb, hw, hrs, hs_okns, cs_okns, ms_okns, se_okns, okns_append]
      | true =>
        cases h3 : (rs[i].ms[j].n == n) <;>
          simp [c25, Cd.in2, Cd.inner, Cd.body, hj', hj, hi, encs_getE, Rnd.enc, p2, q2, p3, q3, pk, qk, Mark.enc, h45, ht, isK, h1, h2, h3, Seen.enc, splice, hb, hw, hrs, hs_okns, cs_okns, ms_okns, se_okns, okns_append]
  · cases ht : tick rs[i].t <;> simp [c25, Cd.in2, Cd.inner, Cd.body, S25b, hi, encs_getE, Rnd.enc, p2, q2, p3, q3, pk, qk, h45, ht]
def seenC (p : Mark → Bool) (r : Rnd) : List Seen := if tick r.t = true then seenRound p r else []
def S25 (i : Nat) : St :=
  ⟨[(0, .int .i64 k), (1, .int .i64 nd), (2, .int .i64 n), (3, .lst none nr 6 (encs Rnd.enc rs)), (9, .lst (some 13) false 2 (encs Seen.enc ((rs.take i).flatMap (seenC (isK k nd n))))), (10, .int .i64 i)],
    [(13, ((rs.take i).flatMap (seenC (isK k nd n))).length, 83)], [], m⟩
theorem seenC_rounds (p : Mark → Bool) : ∀ rs : List Rnd, rs.flatMap (seenC p) = seen p rs
  | [] => rfl
  | r :: rs => by
    have ih := seenC_rounds p rs
    simp only [List.flatMap_cons, ih, seenC, seen, seenAll, rounds, List.filter_cons]
    cases tick r.t <;> simp
theorem seen_len (p : Mark → Bool) (rs : List Rnd) (hk : ∀ r ∈ rs, r.ok ∧ r.ms.length ≤ 5) : (seen p rs).length ≤ rs.length * 5 := by
  have := seenAll_len p (rounds rs) (rounds_ok5 hk)
  have h2 := rounds_len rs
  unfold seen; omega
include hk hl in
theorem loop25 {st : St} (h0 : maskSt [0, 1, 2, 3, 9, 10] [] [13] st = some (S25 k nd n nr rs m 0)) :
    loopW (maskSt [0, 1, 2, 3, 9, 10] [] [13]) (Cd.run (app fns) c25.body.inner.body) st = c25.body.inner.body.run (app fns) (S25 k nd n nr rs m rs.length) := by
  refine loop_eq (S25 k nd n nr rs m) rs.length (fun i hi => ?_) ?_ h0
  · obtain ⟨hok, h4⟩ := hk _ (List.getElem_mem hi)
    have h45 := fun m => app45 rs[i] hok m
    obtain ⟨⟨p1, p2, p3⟩, q1, q2, q3⟩ := hok
    simp only [Rnd.enc] at h45
    have hi' : (i : Int) < rs.length := by omega
    have hw := wrap_succ i (by omega)
    have hrs := ks_okns5 rs hk
    have hlen := seen_len (isK k nd n) (rs.take i) fun y hy => hk y (List.mem_of_mem_take hy)
    rw [← seenC_rounds, List.length_take] at hlen
    have hf := flatMap_take (seenC (isK k nd n)) rs i hi
    unfold S25
    rw [hf]
    generalize (rs.take i).flatMap (seenC (isK k nd n)) = A at hlen
    have hin := fun st => @loop25b k nd n nr rs hk m A (by omega) i hi (by omega) st
    have e0 : seenTake (isK k nd n) rs[i] 0 = [] := by simp [seenTake]
    have e1 : seenTake (isK k nd n) rs[i] (if tick rs[i].t = true then rs[i].ms.length else 0) = seenC (isK k nd n) rs[i] := by
      unfold seenC
      split
      · exact seenTake_all _ _
      · exact e0
    simp only [c25, Cd.in2, Cd.inner, Cd.body, S25b, e0, e1, List.append_nil] at hin
    cases ht : tick rs[i].t <;> simp [ht] at hin <;>
      simp [c25, Cd.in2, Cd.inner, Cd.body, hi', hi, encs_getE, Rnd.enc, p2, q2, p3, q3, splice, hin, ht, h45, hw, hrs, hs_okns, cs_okns, ms_okns, se_okns, okns_append]
  · simp [c25, Cd.inner, Cd.body, S25]
include hk hl in
theorem app25 : app fns (.fn 25 []) [.int .i64 k, .int .i64 nd, .int .i64 n, .lst none nr 6 (encs Rnd.enc rs)] m = some (.lst none false 2 (encs Seen.enc (seen (isK k nd n) rs)), m) := by
  rw [app_fn fns h25 rfl]
  have hin := fun st => @loop25 k nd n nr rs hk hl m st
  have hrs := ks_okns5 rs hk
  simp only [c25, Cd.inner, Cd.body, S25, List.take_zero, List.take_length, List.flatMap_nil, encs_nil, seenC_rounds] at hin
  simp [c25, hin, hrs, se_okns, se_deps]
end
/-! ### two lists alike -/
theorem eq_seen (a b : Seen) : eqP [(0, 0), (1, 2)] true a.enc b.enc = some (.bool (!(a.t == b.t && a.d == b.d))) := by
  simp [Seen.enc]
section
variable (na : Bool) (nb : Bool) (es : List Seen) (hl : es.length < 1000000) (m : Mem)
def S23 (i : Nat) : St := ⟨[(0, .lst none na 2 (encs Seen.enc es)), (1, .lst none nb 2 (encs Seen.enc es)), (5, .int .i64 i)], [], [], m⟩
include hl in
theorem loop23 {st : St} (h0 : maskSt [0, 1, 5] [] [] st = some (S23 na nb es m 0)) :
    loopW (maskSt [0, 1, 5] [] []) (Cd.run (app fns) c23.body.inner.body) st = c23.body.inner.body.run (app fns) (S23 na nb es m es.length) := by
  refine loop_eq (S23 na nb es m) es.length (fun i hi => ?_) ?_ h0
  · have hi' : (i : Int) < es.length := by omega
    have hw := wrap_succ i (by omega)
    have hse := se_okns es
    have hb := bytes_beq es[i].d
    simp [c23, Cd.inner, Cd.body, S23, hi', hi, encs_getE, Seen.enc, hw, hse, hb]
  · simp [c23, Cd.inner, Cd.body, S23]
include hl in
theorem app23 : app fns (.fn 23 []) [.lst none na 2 (encs Seen.enc es), .lst none nb 2 (encs Seen.enc es)] m = some (.bool true, m) := by
  rw [app_fn fns h23 rfl]
  have hin := fun st => @loop23 na nb es hl m st
  simp only [c23, Cd.inner, Cd.body, S23] at hin
  simp [c23, hin, se_okns]
end
/-! ### few rounds -/
def cut (r : Rnd) : Rnd := { r with cs := r.cs.take 4, ms := r.ms.take 5 }
def few (rs : List Rnd) : List Rnd := (rs.take 12).map cut
theorem cut_ok {r : Rnd} (h : r.ok) : (cut r).ok := h
theorem few_ok {rs : List Rnd} (h : ∀ r ∈ rs, r.ok) : ∀ r ∈ few rs, r.ok ∧ r.cs.length ≤ 4 ∧ r.ms.length ≤ 5 := by
  intro r hr
  obtain ⟨x, hx, rfl⟩ := List.mem_map.1 hr
  refine ⟨cut_ok (h x (List.mem_of_mem_take hx)), ?_, ?_⟩ <;> simp [cut] <;> omega
section
variable (nr : Bool) (rs : List Rnd) (hk : ∀ r ∈ rs, r.ok) (m : Mem)
def S21 (i : Nat) : St := ⟨[(0, .lst none nr 6 (encs Rnd.enc rs)), (3, .lst (some 6) false 6 (encs Rnd.enc ((rs.take i).map cut))), (4, .int .i64 i)], [(6, ((rs.take i).map cut).length, 53)], [], m⟩
include hk in
theorem rok (a b c) : PV.okns a b c (encs Rnd.enc rs) = true := encs_okns (fun r h => Rnd.data (hk r h)) a b c
include hk in
theorem loop21 {st : St} (h0 : maskSt [0, 3, 4] [] [6] st = some (S21 nr rs m 0)) :
    loopW (maskSt [0, 3, 4] [] [6]) (Cd.run (app fns) c21.body.inner.body) st = c21.body.inner.body.run (app fns) (S21 nr rs m (min rs.length 12)) := by
  refine loop_eq (S21 nr rs m) (min rs.length 12) (fun i hi => ?_) ?_ h0
  · have hi1 : i < rs.length := by omega
    have hi' : (i : Int) < rs.length := by omega
    have hi12 : (i : Int) < 12 := by omega
    have hw := wrap_succ i (by omega)
    have hok := hk _ (List.getElem_mem hi1)
    have hc := Rnd.data (cut_ok hok)
    have hcs := cs_okns
    have hms := ms_okns
    have hok' := fun a b c => rok ((rs.take i).map cut) (fun r hr => by obtain ⟨x, hx, rfl⟩ := List.mem_map.1 hr; exact cut_ok (hk x (List.mem_of_mem_take hx))) a b c
    obtain ⟨⟨p1, p2, p3⟩, q1, q2, q3⟩ := hok
    have pk := fun a b c => PV.data_okn a b c _ p1
    have qk := fun a b c => PV.data_okn a b c _ q1
    have hb : (((rs.take i).map cut).length + 1) * 112 ≤ maxBytes := by simp; unfold maxBytes; omega
    have hrs := rok rs hk
    unfold S21
    rw [take_succ' rs i hi1, List.map_append]
    generalize (rs.take i).map cut = A at hb hok'
    have hm1 : (if (4 : Int) < rs[i].cs.length then (4 : Int) else rs[i].cs.length).toNat = min 4 rs[i].cs.length := by split <;> omega
    have hm2 : (if (5 : Int) < rs[i].ms.length then (5 : Int) else rs[i].ms.length).toNat = min 5 rs[i].ms.length := by split <;> omega
    have hn1 : 0 ≤ (if (4 : Int) < rs[i].cs.length then (4 : Int) else rs[i].cs.length) := by split <;> omega
    have hn2 : 0 ≤ (if (5 : Int) < rs[i].ms.length then (5 : Int) else rs[i].ms.length) := by split <;> omega
    have hx1 : (if (4 : Int) < rs[i].cs.length then (4 : Int) else rs[i].cs.length) ≤ rs[i].cs.length := by split <;> omega
    have hx2 : (if (5 : Int) < rs[i].ms.length then (5 : Int) else rs[i].ms.length) ≤ rs[i].ms.length := by split <;> omega
    have ht1 : rs[i].cs.take (min 4 rs[i].cs.length) = rs[i].cs.take 4 := by rw [← List.take_take]; simp
    have ht2 : rs[i].ms.take (min 5 rs[i].ms.length) = rs[i].ms.take 5 := by rw [← List.take_take]; simp
    simp [c21, Cd.inner, Cd.body, hi', hi1, hi12, encs_getE, Rnd.enc, p2, q2, p3, q3, pk, qk, splice, hb, hw, hrs, hok', hcs, hms, okns_append, encs_take, hm1, hm2, hn1, hn2, hx1, hx2, cut, ht1, ht2]
  · by_cases h : rs.length < 12
    · have : min rs.length 12 = rs.length := by omega
      simp [c21, Cd.inner, Cd.body, S21, this]
    · have h1 : min rs.length 12 = 12 := by omega
      have h2 : ((12 : Nat) : Int) < rs.length ∨ rs.length = 12 := by omega
      rw [h1]
      by_cases h3 : (12 : Int) < rs.length <;> simp [c21, Cd.inner, Cd.body, S21, h3]
include hk in
theorem app21 : app fns (.fn 21 []) [.lst none nr 6 (encs Rnd.enc rs)] m = some (.lst none false 6 (encs Rnd.enc (few rs)), m) := by
  rw [app_fn fns h21 rfl]
  have hin := fun st => @loop21 nr rs hk m st
  have ht : rs.take (min rs.length 12) = rs.take 12 := by rw [Nat.min_comm, ← List.take_take]; simp
  simp only [c21, Cd.inner, Cd.body, S21, List.take_zero, List.map_nil, encs_nil, ht] at hin
  have hd : PV.deps m.length (encs Rnd.enc ((rs.take 12).map cut)) = true := encs_deps (fun r hr => Rnd.data (few_ok hk r hr).1) _
  rw [List.map_take] at hd
  by_cases h : rs.length < 12
  · have h1 : (rs.length : Int) < 12 := by omega
    have h2 : min rs.length 12 = rs.length := by omega
    rw [h2] at hin
    simp [c21, hin, rok rs hk, hd, few]
  · have h2 : min rs.length 12 = 12 := by omega
    rw [h2] at hin
    by_cases h3 : (12 : Int) < rs.length <;> simp [c21, hin, rok rs hk, hd, few, h3]
end
end Go.Proofs.Ytbbpkkeaddbcnaa.ZIM.AL
