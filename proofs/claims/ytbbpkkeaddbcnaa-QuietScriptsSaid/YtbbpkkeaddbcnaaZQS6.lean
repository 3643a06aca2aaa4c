/- QuietScripts: Quiet, Clean. -/
import Derived.Test.YtbbpkkeaddbcnaaZQS5
set_option linter.unusedSimpArgs false
set_option linter.unusedVariables false
namespace Go.Proofs.Ytbbpkkeaddbcnaa.ZJM.QS
open Go.Proofs.Ytbbpkkeaddbcnaa.ZJM Go.RowKit

section
variable (nl : Bool) (ms : List Mom) (hms : ∀ m ∈ ms, m.ok ∧ m.acts.length * 104 ≤ maxBytes ∧ m.flts.length * 64 ≤ maxBytes) (hl : ms.length < 1000000)
include hms hl in
theorem app7 : app E false (.fn 7 []) [.lst none nl 2 (Ms ms)] [] = some (.lst none (ms.map (Mom.less isRead)).isEmpty 2 (Ms (ms.map (Mom.less isRead))), emptyBag, []) := by
  have h := app14 16 isRead app16 nl ms hms hl []
  obtain ⟨D, hD⟩ : ∃ D, D = ms.map (Mom.less isRead) := ⟨_, rfl⟩
  rw [← hD] at h ⊢
  rw [app_fn E rfl h7 rfl]
  simp [c7, ms_deps, h, frzV, frzR, ms_okns]

/-- A moment without faults. -/
def Mom.clean (m : Mom) : Mom := ⟨m.na, m.acts, true, []⟩
theorem mc_app (A B : List Mom) : Mc (A ++ B) = Mc A ++ Mc B := flats_append A B
theorem splice_mc (A B : List Mom) (m : Mom) (x : PV) : splice (Mc (A ++ m :: B)) [x] (A.length * 2 + 1) = Mc A ++ (.lst none m.na 13 (As m.acts) :: x :: Mc B) := by
  have hA := mc_len A
  have h1 : Mc (A ++ m :: B) = Mc A ++ (.lst none m.na 13 (As m.acts) :: .lst none m.nf 15 (Fs m.flts) :: Mc B) := by
    rw [mc_app]; rfl
  rw [h1]
  unfold splice
  rw [List.take_append, List.drop_append, hA]
  have e1 : (Mc A).take (A.length * 2 + 1) = Mc A := List.take_of_length_le (by omega)
  have e2 : (Mc A).drop (A.length * 2 + 1 + [x].length) = [] := List.drop_of_length_le (by simp; omega)
  have e3 : A.length * 2 + 1 - A.length * 2 = 1 := by omega
  have e4 : A.length * 2 + 1 + [x].length - A.length * 2 = 2 := by simp; omega
  rw [e1, e2, e3, e4]
  simp
theorem old_mc (A B : List Mom) (m : Mom) : ((Mc (A ++ m :: B)).drop (A.length * 2 + 1)).take 1 = [.lst none m.nf 15 (Fs m.flts)] := by
  have hA := mc_len A
  have h1 : Mc (A ++ m :: B) = Mc A ++ (.lst none m.na 13 (As m.acts) :: .lst none m.nf 15 (Fs m.flts) :: Mc B) := by
    rw [mc_app]; rfl
  rw [h1, List.drop_append, hA]
  have e2 : (Mc A).drop (A.length * 2 + 1) = [] := List.drop_of_length_le (by omega)
  have e3 : A.length * 2 + 1 - A.length * 2 = 1 := by omega
  rw [e2, e3]
  simp
def S10 (n : Nat) (D : List Mom) (i : Nat) : St :=
  ⟨[(3, .slr 0 1000000000 [] 0 n 2), (8, .int .i64 n), (9, .int .i64 i)], [], [(1000000000, Mc ((D.take i).map Mom.clean ++ D.drop i))], [], []⟩
theorem loop10 (D : List Mom) (hD : D.length < 1000000) {st : St} (h0 : maskSt [3, 8, 9] [] [] [3] st = some (S10 D.length D 0)) :
    loopW (maskSt [3, 8, 9] [] [] [3]) (Cd.run (app E) c10.body.inner.body) st = c10.body.inner.body.run (app E) (S10 D.length D D.length) := by
  refine loop_eq (S10 D.length D) D.length (fun i hi => ?_) ?_ h0
  · have hi' : (i : Int) < D.length := by omega
    have hw := wrap_succ i (by omega)
    have hd : D.drop i = D[i] :: D.drop (i + 1) := List.drop_eq_getElem_cons hi
    have hA : ((D.take i).map Mom.clean).length = i := by simp; omega
    unfold S10
    rw [hd, take_succ' D i hi, List.map_append, List.map_cons, List.map_nil]
    generalize hAA : (D.take i).map Mom.clean = A at hA
    generalize D[i] = m
    generalize D.drop (i + 1) = B
    have hs := splice_mc A B m (.lst none true 15 [])
    have ho := old_mc A B m
    rw [hA] at hs ho
    have hle : i * 2 + 1 + 1 ≤ (Mc (A ++ m :: B)).length := by rw [mc_len]; simp only [List.length_append, List.length_cons, hA]; omega
    have hfin : Mc A ++ (.lst none m.na 13 (As m.acts) :: .lst none true 15 [] :: Mc B) = Mc (A ++ [m.clean] ++ B) := by
      rw [List.append_assoc, mc_app, mc_app]; rfl
    simp only [splice, List.length_cons, List.length_nil, Nat.zero_add, List.append_assoc, List.cons_append, List.nil_append] at hs hfin
    simp [c10, Cd.inner, Cd.body, hi', ho, hle, hs, hfin, hw, turnSt, reach, dedup, idxOf, turnName, PV.names, PV.namess, PV.ren, PV.rens, mc_names, mc_rens, mc_okns]
  · simp [c10, Cd.inner, Cd.body, S10]
theorem kept_none (l : List Act) : kept (fun _ => false) l = l := by simp [kept]
theorem less_clean (m : Mom) : ((Mom.less (fun _ => false) m).clean) = ⟨m.acts.isEmpty, m.acts, true, []⟩ := by simp [Mom.less, Mom.clean, kept_none]
include hms hl in
theorem app10 : app E false (.fn 10 []) [.lst none nl 2 (Ms ms)] [] = some (.lst none ms.isEmpty 2 (Ms (ms.map fun m => ⟨m.acts.isEmpty, m.acts, true, []⟩)), emptyBag, []) := by
  have h := app14r 38 (fun _ => false) app38 nl ms hms hl [[]]
  rw [app_fn E rfl h10 rfl]
  cases ms with
  | nil =>
    simp only [List.map_nil, encs_nil] at h
    rw [show c10.body.run (app E) = c10.body.run (app E) from rfl]
    simp [c10, h]
    rw [loopW_some.2 ⟨1, by
      simp [loopN, turnSt, reach, dedup, idxOf, turnName, PV.names, PV.namess, PV.ren, PV.rens, mc_names, mc_rens, mc_okns, ms_names, ms_rens, ms_okns]
      rfl⟩]
    simp [frzV, frzR]
  | cons x r =>
    simp only [List.map_cons, List.length_map] at h
    generalize hL : Mom.less (fun _ => false) x :: List.map (Mom.less fun _ => false) r = L at h
    have hLl : L.length = r.length + 1 := by rw [← hL]; simp
    have hres : (x :: r).map (fun m => (⟨m.acts.isEmpty, m.acts, true, []⟩ : Mom)) = L.map Mom.clean := by
      rw [← hL]; simp [less_clean, Function.comp_def]
    have hlp := @loop10 L (by rw [hLl]; simpa using hl)
    simp only [S10, c10, Cd.inner, Cd.body, hLl] at hlp
    rw [hres]
    simp [-encs_cons, c10, h, bagName, PV.ren, PV.retag, PV.retag1, mc_rens]
    rw [hlp (by simp [-encs_cons, turnSt, reach, dedup, idxOf, turnName, PV.names, PV.namess, PV.ren, PV.rens, mc_names, mc_rens, mc_okns, ms_names, ms_rens, ms_okns])]
    have ht : List.take (r.length + 1) L = L := List.take_of_length_le (by omega)
    have hdr : L.drop (r.length + 1) = [] := List.drop_of_length_le (by omega)
    obtain ⟨y, q, hyq⟩ : ∃ y q, L.map Mom.clean = y :: q := by
      rw [← hL]; exact ⟨_, _, rfl⟩
    have hq : r.length = q.length := by
      have := congrArg List.length hyq
      simp [hLl] at this
      exact this
    simp [-encs_cons, hdr, ← List.map_take]
    rw [ht, hyq]
    simp [-encs_cons, hq, frzV, frzR, mc_len, mc_chunks, mc_take, mc_out, ms_okns]
end
end Go.Proofs.Ytbbpkkeaddbcnaa.ZJM.QS
