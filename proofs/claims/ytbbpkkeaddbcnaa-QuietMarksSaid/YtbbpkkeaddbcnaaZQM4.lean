/- A part of the proof that the law QuietMarks holds at whatever it is handed. -/
import Derived.Test.YtbbpkkeaddbcnaaZQM3
set_option linter.unusedSimpArgs false
set_option linter.unusedVariables false
namespace Go.Proofs.Ytbbpkkeaddbcnaa.ZIM.QM
open Go.Proofs.Ytbbpkkeaddbcnaa.ZIM Go.RowKit

section
variable (nk : Bool) (ks : List Int) (hk : ks.length < 1000000) (nr : Bool) (rs : List Rnd) (hr : ∀ r ∈ rs, r.ok) (hl : rs.length ≤ 20) (m : Mem)
def S20c (acc : List Mark) (i j : Nat) (x : Int) (n : Nat) : St :=
  ⟨[(0, .lst none nk 1 (kenc ks)), (1, .lst none nr 6 (renc rs)), (5, .lst (some 10) false 5 (menc acc)), (6, .int .i64 i), (7, .int .i64 j), (8, .bool (decide (x ∈ ks.take n))), (9, .int .i64 n)], [(10, acc.length, 100)], [], m⟩
theorem mem_take_succ (x : Int) (n : Nat) (h : n < ks.length) : decide (x ∈ ks.take (n + 1)) = (decide (x ∈ ks.take n) || ks[n] == x) := by
  rw [List.take_add_one, List.getElem?_eq_getElem h]
  rw [Bool.eq_iff_iff]
  simp only [List.mem_append, Option.toList, List.mem_singleton, decide_eq_true_eq, Bool.or_eq_true, beq_iff_eq]
  exact ⟨fun h => h.elim .inl fun h => .inr h.symm, fun h => h.elim .inl fun h => .inr h.symm⟩
include hk hr in
theorem loop20c (acc : List Mark) (i j : Nat) (hi : i < rs.length) (hj : j < rs[i].ms.length) {st : St} (h0 : maskSt [0, 1, 5, 6, 7, 8, 9] [] [10] st = some (S20c nk ks nr rs m acc i j rs[i].ms[j].c 0)) :
    loopW (maskSt [0, 1, 5, 6, 7, 8, 9] [] [10]) (Cd.run (app fns) c20.body.in3) st = c20.body.in3.run (app fns) (S20c nk ks nr rs m acc i j rs[i].ms[j].c ks.length) := by
  refine loop_eq (S20c nk ks nr rs m acc i j rs[i].ms[j].c) ks.length (fun n hn => ?_) ?_ h0
  · have hn' : (n : Int) < ks.length := by omega
    have hi' : (i : Int) < rs.length := by omega
    have hj' : (j : Int) < rs[i].ms.length := by omega
    have hw := wrap_succ n (by omega)
    unfold S20c
    rw [mem_take_succ ks _ n hn]
    cases hd : decide (rs[i].ms[j].c ∈ ks.take n)
    · simp [c20, Cd.in3, Cd.inner, Cd.body, hn', hi', hj', hn, hi, hj, kenc_getE, kenc_len, renc_getE, renc_len, menc_getE, menc_len, Rnd.enc, Mark.enc, hw, kenc_okns, renc_okns hr, menc_okns]
    · simp [c20, Cd.in3, Cd.inner, Cd.body, hn', hi', hj', hn, hi, hj, kenc_getE, kenc_len, renc_getE, renc_len, menc_getE, menc_len, Rnd.enc, Mark.enc, hw, kenc_okns, renc_okns hr, menc_okns]
  · simp [c20, Cd.in3, Cd.inner, Cd.body, S20c, kenc_len]
def S20b (acc : List Mark) (i : Nat) (r : Rnd) (j : Nat) : St :=
  ⟨[(0, .lst none nk 1 (kenc ks)), (1, .lst none nr 6 (renc rs)), (5, .lst (some 10) false 5 (menc (acc ++ sel ks (r.ms.take j)))), (6, .int .i64 i), (7, .int .i64 j)], [(10, (acc ++ sel ks (r.ms.take j)).length, 100)], [], m⟩
include hk hr in
theorem loop20b (acc : List Mark) (ha : acc.length < 10000) (i : Nat) (hi : i < rs.length) {st : St} (h0 : maskSt [0, 1, 5, 6, 7] [] [10] st = some (S20b nk ks nr rs m acc i rs[i] 0)) :
    loopW (maskSt [0, 1, 5, 6, 7] [] [10]) (Cd.run (app fns) c20.body.in2) st = c20.body.in2.run (app fns) (S20b nk ks nr rs m acc i rs[i] rs[i].ms.length) := by
  have h8 := (hr _ (List.getElem_mem hi)).2.2.2
  have hi' : (i : Int) < rs.length := by omega
  refine loop_eq (S20b nk ks nr rs m acc i rs[i]) rs[i].ms.length (fun j hj => ?_) ?_ h0
  · have hj' : (j : Int) < rs[i].ms.length := by omega
    have hw := wrap_succ j (by omega)
    have hb : ((acc ++ sel ks (rs[i].ms.take j)).length + 1) * 48 ≤ maxBytes := by
      have := sel_len ks (rs[i].ms.take j)
      simp only [List.length_append, List.length_take] at this ⊢
      unfold maxBytes; omega
    unfold S20b
    rw [sel_take ks rs[i].ms j hj]
    generalize hA : acc ++ sel ks (rs[i].ms.take j) = A at hb
    rw [← List.append_assoc, hA]
    have hin := fun st => @loop20c nk ks hk nr rs hr m A i j hi hj st
    simp only [c20, Cd.in3, Cd.inner, Cd.body, S20c, List.take_zero, List.take_length] at hin
    by_cases hc : rs[i].ms[j].c ∈ ks
    · simp [c20, Cd.in2, Cd.inner, Cd.body, hi', hj', hi, hj, kenc_getE, kenc_len, renc_getE, renc_len, menc_getE, menc_len, Rnd.enc, hin, hc, hw, hb, Mark.enc, kenc_okns, renc_okns hr, menc_okns]
      have e := menc_snoc A rs[i].ms[j]
      simp only [Mark.enc] at e
      rw [e]
      exact ⟨menc_okns _ _ _ _, rfl⟩
    · simp [c20, Cd.in2, Cd.inner, Cd.body, hi', hj', hi, hj, kenc_getE, kenc_len, renc_getE, renc_len, menc_getE, menc_len, Rnd.enc, hin, hc, hw, hb, Mark.enc, kenc_okns, renc_okns hr, menc_okns]
  · simp [c20, Cd.in2, Cd.inner, Cd.body, S20b, hi', hi, renc_getE, renc_len, menc_len, Rnd.enc]
def S20 (i : Nat) : St :=
  ⟨[(0, .lst none nk 1 (kenc ks)), (1, .lst none nr 6 (renc rs)), (5, .lst (some 10) false 5 (menc (marks ks (rs.take i)))), (6, .int .i64 i)], [(10, (marks ks (rs.take i)).length, 100)], [], m⟩
include hk hr hl in
theorem loop20 {st : St} (h0 : maskSt [0, 1, 5, 6] [] [10] st = some (S20 nk ks nr rs m 0)) :
    loopW (maskSt [0, 1, 5, 6] [] [10]) (Cd.run (app fns) c20.body.inner.body) st = c20.body.inner.body.run (app fns) (S20 nk ks nr rs m rs.length) := by
  refine loop_eq (S20 nk ks nr rs m) rs.length (fun i hi => ?_) ?_ h0
  · have hi' : (i : Int) < rs.length := by omega
    have hw := wrap_succ i (by omega)
    have hlen := marks_len ks (rs.take i) fun x hx => hr x (List.mem_of_mem_take hx)
    rw [List.length_take] at hlen
    unfold S20
    rw [marks_take ks rs i hi]
    generalize marks ks (rs.take i) = A at hlen
    have hin := fun st => @loop20b nk ks hk nr rs hr m A (by omega) i hi st
    simp only [c20, Cd.in2, Cd.inner, Cd.body, S20b, List.take_zero, List.take_length] at hin
    have e0 : sel ks [] = [] := rfl
    simp only [e0, List.append_nil] at hin
    simp [c20, Cd.in2, Cd.inner, Cd.body, hi', hi, renc_getE, renc_len, menc_len, Rnd.enc, hin, hw, kenc_okns, renc_okns hr, menc_okns]
  · simp [c20, Cd.inner, Cd.body, S20, renc_len]
include hk hr hl in
theorem app20 : app fns (.fn 20 []) [.lst none nk 1 (kenc ks), .lst none nr 6 (renc rs)] m = some (.lst none false 5 (menc (marks ks rs)), m) := by
  rw [app_fn fns h20 rfl]
  have hin := fun st => @loop20 nk ks hk nr rs hr hl m st
  simp only [c20, Cd.inner, Cd.body, S20, List.take_zero, List.take_length] at hin
  have e0 : marks ks [] = [] := rfl
  have e1 : menc [] = [] := rfl
  simp only [e0, e1] at hin
  simp [c20, renc_len, hin, kenc_okns, renc_okns hr, menc_deps, sized]
end

def S18 (nx ny : Bool) (xs : List Mark) (m : Mem) (i : Nat) : St := ⟨[(0, .lst none nx 5 (menc xs)), (1, .lst none ny 5 (menc xs)), (5, .int .i64 i)], [], [], m⟩
theorem loop18 (nx ny : Bool) (xs : List Mark) (hx : xs.length < 1000000) (m : Mem) {st : St} (h0 : maskSt [0, 1, 5] [] [] st = some (S18 nx ny xs m 0)) :
    loopW (maskSt [0, 1, 5] [] []) (Cd.run (app fns) c18.body.inner.body) st = c18.body.inner.body.run (app fns) (S18 nx ny xs m xs.length) := by
  refine loop_eq (S18 nx ny xs m) xs.length (fun i hi => ?_) ?_ h0
  · have hi' : (i : Int) < xs.length := by omega
    have hw := wrap_succ i (by omega)
    simp [c18, Cd.inner, Cd.body, S18, hi', hi, menc_getE, menc_len, Mark.enc, hw, menc_okns, bytes_beq]
  · simp [c18, Cd.inner, Cd.body, S18, menc_len]
theorem app18 (nx ny : Bool) (xs : List Mark) (hx : xs.length < 1000000) (m : Mem) : app fns (.fn 18 []) [.lst none nx 5 (menc xs), .lst none ny 5 (menc xs)] m = some (.bool true, m) := by
  rw [app_fn fns h18 rfl]
  have hin := fun st => @loop18 nx ny xs hx m st
  simp only [c18, Cd.inner, Cd.body, S18] at hin
  simp [c18, menc_len, hin, menc_okns]
end Go.Proofs.Ytbbpkkeaddbcnaa.ZIM.QM
