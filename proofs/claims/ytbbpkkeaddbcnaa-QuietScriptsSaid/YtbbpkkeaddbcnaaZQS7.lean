/- QuietScripts: the document's answers. -/
import Derived.Test.YtbbpkkeaddbcnaaZQS6
set_option linter.unusedSimpArgs false
set_option linter.unusedVariables false
namespace Go.Proofs.Ytbbpkkeaddbcnaa.ZJM.QS
open Go.Proofs.Ytbbpkkeaddbcnaa.ZJM Go.RowKit

section
variable (nl : Bool) (ms : List Mom) (hms : ∀ m ∈ ms, m.ok ∧ m.acts.length * 104 ≤ maxBytes ∧ m.flts.length * 64 ≤ maxBytes) (hl : ms.length < 1000000)
def S11 (i : Nat) : St :=
  ⟨[(0, .lst none nl 2 (Ms ms)), (3, .lst (some 5) false 2 (Ms ((ms.take i).map Mom.clean))), (4, .int .i64 i)], [(5, i, 43)], [], [], []⟩
include hl in
theorem loop11 {st : St} (h0 : maskSt [0, 3, 4] [] [5] [] st = some (S11 nl ms 0)) :
    loopW (maskSt [0, 3, 4] [] [5] []) (Cd.run (app E) c11.body.inner.body) st = c11.body.inner.body.run (app E) (S11 nl ms ms.length) := by
  refine loop_eq (S11 nl ms) ms.length (fun i hi => ?_) ?_ h0
  · have hi' : (i : Int) < ms.length := by omega
    have hw := wrap_succ i (by omega)
    have hA : ((ms.take i).map Mom.clean).length = i := by simp; omega
    have hb : (i + 1) * 48 ≤ maxBytes := by unfold maxBytes; omega
    unfold S11
    rw [take_succ' ms i hi, List.map_append, List.map_cons, List.map_nil]
    generalize (ms.take i).map Mom.clean = A at hA
    simp [c11, Cd.inner, Cd.body, hi', hi, encs_getE, Mom.enc, Mom.cs, Mom.clean, splice, hA, hb, hw, ms_okns, as_okns, okns_append]
  · simp [c11, Cd.inner, Cd.body, S11]
include hl in
theorem app11 : app E false (.fn 11 []) [.lst none nl 2 (Ms ms)] [] = some (.lst none false 2 (Ms (ms.map Mom.clean)), emptyBag, []) := by
  rw [app_fn E rfl h11 rfl]
  have h := @loop11 nl ms hl
  simp only [S11, c11, Cd.inner, Cd.body, List.take_length] at h
  simp [-encs_cons, c11]
  rw [h (by simp [ms_okns])]
  simp [ms_okns, frzV, frzR]

def S9b (A : List Mom) (i : Nat) (m : Mom) (j : Nat) : St :=
  ⟨[(0, .lst none nl 2 (Ms ms)), (3, .lst (some 8) false 2 (Ms A)), (4, .int .i64 i), (5, .ptr 0 5 [] 0), (6, .int .i64 j)], [(8, i, 43)],
    [(5, [c0 (kept isRead (m.acts.take j)), .lst none m.nf 15 (Fs m.flts)])], [], []⟩
include hms in
theorem loop9b (A : List Mom) (i : Nat) (hi : i < ms.length) {st : St} (h0 : maskSt [0, 3, 4, 5, 6] [5] [8] [] st = some (S9b nl ms A i ms[i] 0)) :
    loopW (maskSt [0, 3, 4, 5, 6] [5] [8] []) (Cd.run (app E) c9.body.in2) st = c9.body.in2.run (app E) (S9b nl ms A i ms[i] ms[i].acts.length) := by
  refine loop_eq (S9b nl ms A i ms[i]) ms[i].acts.length (fun j hj => ?_) ?_ h0
  · have hj' : (j : Int) < ms[i].acts.length := by omega
    have hm := (hms _ (List.getElem_mem hi)).2.1
    have hw := wrap_succ j (by unfold maxBytes at hm; omega)
    have hK : (kept isRead (ms[i].acts.take j)).length < ms[i].acts.length := by
      refine Nat.lt_of_le_of_lt (List.length_filter_le _ _) ?_
      simp; omega
    unfold S9b
    rw [kept_succ isRead ms[i].acts j hj]
    generalize kept isRead (ms[i].acts.take j) = K at hK
    have hR : isRead ms[i].acts[j] = (ms[i].acts[j].k == 2 && !ms[i].acts[j].w) := rfl
    have hb1 : 104 ≤ maxBytes := by unfold maxBytes; omega
    cases K with
    | nil =>
      cases hk : (ms[i].acts[j].k == 2) <;> cases hwr : ms[i].acts[j].w <;> rw [hk, hwr] at hR <;>
        simp [c9, Cd.in2, Cd.inner, Cd.body, hj', hj, hi, encs_getE, Mom.enc, Mom.cs, Act.enc, Act.cs, hk, hwr, hR, hw, c0, ac_okns, as_okns, fs_okns, ms_okns, ac_len, ac_cell, flats_nil, flats_append, flats_one, hb1, bne]
    | cons y r =>
      have hb2 : (r.length + 1 + 1) * 104 ≤ maxBytes := by
        simp only [List.length_cons] at hK
        exact Nat.le_trans (Nat.mul_le_mul_right _ hK) hm
      have hb3 : (r.length + 1) * 13 + 13 = (r.length + 1 + 1) * 13 := by omega
      cases hk : (ms[i].acts[j].k == 2) <;> cases hwr : ms[i].acts[j].w <;> rw [hk, hwr] at hR <;>
        simp [c9, Cd.in2, Cd.inner, Cd.body, hj', hj, hi, encs_getE, Mom.enc, Mom.cs, Act.enc, Act.cs, hk, hwr, hR, hw, c0, ac_okns, as_okns, fs_okns, ms_okns, ac_len, ac_cell, flats_nil, flats_append, flats_one, hb2, hb3, okns_append, deps_append, ac_deps, bne] <;>
        (have h1 := (flats_append (c := Act.cs) (y :: r) [ms[i].acts[j]]).symm
         rw [flats_one] at h1
         simp only [Act.cs, hwr] at h1
         exact h1)
  · simp [c9, Cd.in2, Cd.inner, Cd.body, S9b, hi, encs_getE, Mom.enc, Mom.cs]
def S9 (i : Nat) : St :=
  ⟨[(0, .lst none nl 2 (Ms ms)), (3, .lst (some 8) false 2 (Ms ((ms.take i).map (Mom.less isRead)))), (4, .int .i64 i)], [(8, i, 43)], [], [], []⟩
include hms hl in
theorem loop9 {st : St} (h0 : maskSt [0, 3, 4] [] [8] [] st = some (S9 nl ms 0)) :
    loopW (maskSt [0, 3, 4] [] [8] []) (Cd.run (app E) c9.body.inner.body) st = c9.body.inner.body.run (app E) (S9 nl ms ms.length) := by
  refine loop_eq (S9 nl ms) ms.length (fun i hi => ?_) ?_ h0
  · have hi' : (i : Int) < ms.length := by omega
    have hw := wrap_succ i (by omega)
    have hA : ((ms.take i).map (Mom.less isRead)).length = i := by simp; omega
    have hb : (i + 1) * 48 ≤ maxBytes := by unfold maxBytes; omega
    unfold S9
    rw [take_succ' ms i hi, List.map_append, List.map_cons, List.map_nil]
    generalize (ms.take i).map (Mom.less isRead) = A at hA
    have hin := @loop9b nl ms hms A i hi
    simp only [S9b, Cd.in2, c9, Cd.inner, Cd.body] at hin
    simp [c9, Cd.inner, Cd.body, hi', hi, encs_getE, Mom.enc, Mom.cs, splice, fs_deps]
    rw [hin (by simp [c0, kept, ms_okns, fs_okns])]
    rw [show ms[i].less isRead = ⟨(kept isRead ms[i].acts).isEmpty, kept isRead ms[i].acts, ms[i].nf, ms[i].flts⟩ from rfl, List.take_length]
    have hlen : ms[i].acts.length = ms[i].acts.length := rfl
    generalize kept isRead ms[i].acts = K
    cases K with
    | nil => simp [-encs_cons, hi, encs_getE, Mom.enc, Mom.cs, hw, hb, hA, c0, ms_okns, as_okns, fs_okns, okns_append]
    | cons z q => simp [-encs_cons, hi, encs_getE, Mom.enc, Mom.cs, hw, hb, hA, c0, ac_len, ac_all, ac_chunks, ms_okns, as_okns, fs_okns, okns_append]
  · simp [c9, Cd.inner, Cd.body, S9]
include hms hl in
theorem app9 : app E false (.fn 9 []) [.lst none nl 2 (Ms ms)] [] = some (.lst none false 2 (Ms (ms.map (Mom.less isRead))), emptyBag, []) := by
  rw [app_fn E rfl h9 rfl]
  have h := @loop9 nl ms hms hl
  simp only [S9, c9, Cd.inner, Cd.body, List.take_length] at h
  simp [-encs_cons, c9]
  rw [h (by simp [ms_okns])]
  simp [ms_okns, frzV, frzR]
end
end Go.Proofs.Ytbbpkkeaddbcnaa.ZJM.QS
