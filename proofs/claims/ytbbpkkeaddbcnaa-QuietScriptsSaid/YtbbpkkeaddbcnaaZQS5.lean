/- QuietScripts: moments without some acts: the outer loop. -/
import Derived.Test.YtbbpkkeaddbcnaaZQS4
set_option linter.unusedSimpArgs false
set_option linter.unusedVariables false
namespace Go.Proofs.Ytbbpkkeaddbcnaa.ZJM.QS
open Go.Proofs.Ytbbpkkeaddbcnaa.ZJM Go.RowKit

/-- A moment without some acts. -/
def Mom.less (p : Act → Bool) (m : Mom) : Mom := ⟨(kept p m.acts).isEmpty, kept p m.acts, m.nf, m.flts⟩
theorem ac_all (l : List Act) : (∀ x ∈ Ac l, x.isCell = true) = True := eq_true (List.all_eq_true.1 (ac_cell l))
theorem mc_all (l : List Mom) : (∀ x ∈ Mc l, x.isCell = true) = True := eq_true (List.all_eq_true.1 (mc_cell l))
theorem mc_one (m : Mom) : Mc [m] = m.cs := flats_one m
theorem ac_chunks (y : Act) (r : List Act) : chunks 13 (r.length + 1) (Ac (y :: r)) = As (y :: r) := flats_chunks (c := Act.cs) (n := 13) (by decide) Act.len (y :: r)
section
variable (g : FuncId) (p : Act → Bool) (hg : ∀ x : Act, app E false (.fn g []) [x.enc] [] = some (.bool (p x), emptyBag, [])) (nl : Bool) (ms : List Mom) (hms : ∀ m ∈ ms, m.ok ∧ m.acts.length * 104 ≤ maxBytes ∧ m.flts.length * 64 ≤ maxBytes) (hl : ms.length < 1000000) (M : Mem)
def done (i : Nat) : List Mom := (ms.take i).map (Mom.less p)
def S14 (i : Nat) : St :=
  ⟨[(1, .fn g []), (5, rowV M (done p ms i)), (11, .lst none nl 2 (Ms ms)), (12, .int .i64 ms.length), (13, .int .i64 i)], [], rowO (done p ms i), [], M⟩
include hg hms hl in
theorem loop14 {st : St} (h0 : maskSt [1, 5, 11, 12, 13] [] [] [5] st = some (S14 g p nl ms M 0)) :
    loopW (maskSt [1, 5, 11, 12, 13] [] [] [5]) (Cd.run (app E) c14.body.inner.body) st = c14.body.inner.body.run (app E) (S14 g p nl ms M ms.length) := by
  refine loop_eq (S14 g p nl ms M) ms.length (fun i hi => ?_) ?_ h0
  · have hi' : (i : Int) < ms.length := by omega
    have hw := wrap_succ i (by omega)
    obtain ⟨⟨hm1, hm2⟩, hm3, hm4⟩ := hms _ (List.getElem_mem hi)
    have h39' := app39 ms[i].nf ms[i].flts hm2 hm4
    have hD : (done p ms i).length ≤ ms.length := by simp only [done, List.length_map, List.length_take]; omega
    have hs : done p ms (i + 1) = done p ms i ++ [ms[i].less p] := by simp only [done, take_succ' ms i hi, List.map_append, List.map_cons, List.map_nil]
    have hin := @loop14b g p hg nl ms M (done p ms i) i ms[i] hm3
    unfold S14
    rw [hs]
    simp only [S14b, Cd.in2, c14, Cd.inner, Cd.body] at hin
    generalize done p ms i = D at hD hin
    cases D with
    | nil =>
      simp [c14, Cd.inner, Cd.body, hi', hi, encs_getE, Mom.enc, Mom.cs, h39', fs_deps, rowV, rowO, splice, as_deps]
      rw [hin (by simp [rowV, rowO, c0, turnSt, reach, dedup, idxOf, turnName, PV.names, PV.namess, PV.ren, PV.rens, ac_names, mc_names, as_names, fs_names, ms_names, ac_rens, mc_rens, as_rens, fs_rens, ms_rens, ac_okns, mc_okns, as_okns, fs_okns, ms_okns, kept])]
      rw [show ms[i].less p = ⟨(kept p ms[i].acts).isEmpty, kept p ms[i].acts, ms[i].nf, ms[i].flts⟩ from rfl, List.take_length]
      generalize kept p ms[i].acts = K
      have hb1 : 48 ≤ maxBytes := by unfold maxBytes; omega
      cases K with
      | nil => simp [hw, hb1, flats_nil, mc_one, Mom.cs, rowV, rowO, c0, turnSt, reach, dedup, idxOf, turnName, PV.names, PV.namess, PV.ren, PV.rens, ac_names, mc_names, as_names, fs_names, ms_names, ac_rens, mc_rens, as_rens, fs_rens, ms_rens, ac_okns, mc_okns, as_okns, fs_okns, ms_okns]
      | cons y r => simp [-encs_cons, hw, hb1, ac_len, ac_all, ac_chunks, mc_one, Mom.cs, rowV, rowO, c0, turnSt, reach, dedup, idxOf, turnName, PV.names, PV.namess, PV.ren, PV.rens, ac_names, mc_names, as_names, fs_names, ms_names, ac_rens, mc_rens, as_rens, fs_rens, ms_rens, ac_okns, mc_okns, as_okns, fs_okns, ms_okns]
    | cons y r =>
      simp [c14, Cd.inner, Cd.body, hi', hi, encs_getE, Mom.enc, Mom.cs, h39', fs_deps, rowV, rowO, splice, as_deps]
      rw [hin (by simp [rowV, rowO, c0, turnSt, reach, dedup, idxOf, turnName, PV.names, PV.namess, PV.ren, PV.rens, ac_names, mc_names, as_names, fs_names, ms_names, ac_rens, mc_rens, as_rens, fs_rens, ms_rens, ac_okns, mc_okns, as_okns, fs_okns, ms_okns, kept])]
      rw [show ms[i].less p = ⟨(kept p ms[i].acts).isEmpty, kept p ms[i].acts, ms[i].nf, ms[i].flts⟩ from rfl, List.take_length]
      generalize kept p ms[i].acts = K
      simp only [List.length_cons] at hD
      have hb2 : (r.length + 1 + 1) * 48 ≤ maxBytes := by unfold maxBytes; omega
      have hq := fun x => (flats_append (c := Mom.cs) (y :: r) [x]).symm
      cases K with
      | nil => simp [-encs_cons, hw, hb2, flats_nil, mc_len, mc_all, rowV, rowO, c0, turnSt, reach, dedup, idxOf, turnName, PV.names, PV.namess, PV.ren, PV.rens, ac_names, mc_names, as_names, fs_names, ms_names, ac_rens, mc_rens, as_rens, fs_rens, ms_rens, ac_okns, mc_okns, as_okns, fs_okns, ms_okns, okns_append, deps_append, namess_append, rens_append]; exact hq ⟨true, [], ms[i].nf, ms[i].flts⟩
      | cons z q => simp [-encs_cons, hw, hb2, ac_len, ac_all, ac_chunks, mc_len, mc_all, rowV, rowO, c0, turnSt, reach, dedup, idxOf, turnName, PV.names, PV.namess, PV.ren, PV.rens, ac_names, mc_names, as_names, fs_names, ms_names, ac_rens, mc_rens, as_rens, fs_rens, ms_rens, ac_okns, mc_okns, as_okns, fs_okns, ms_okns, okns_append, deps_append, namess_append, rens_append]; exact hq ⟨false, z :: q, ms[i].nf, ms[i].flts⟩
  · simp [c14, Cd.inner, Cd.body, S14]
theorem done_all : done p ms ms.length = ms.map (Mom.less p) := by simp only [done, List.take_length]
theorem mc_chunks (y : Mom) (r : List Mom) : chunks 2 (r.length + 1) (Mc (y :: r)) = Ms (y :: r) := flats_chunks (c := Mom.cs) (n := 2) (by decide) Mom.len (y :: r)
theorem mc_out (l : List Mom) (a b c d) : outCs a b c d (Mc l) = some (Mc l) := flats_out Mom.cell l a b c d
theorem mc_take (y : Mom) (r : List Mom) : (Mc (y :: r)).take ((r.length + 1) * 2) = Mc (y :: r) := List.take_of_length_le (by rw [mc_len]; simp)
theorem mc_rec (l : List Mom) : (∀ x ∈ Mc l, isRec x = false) = True := eq_true fun x hx => by
  have := List.all_eq_true.1 (mc_cell l) x hx
  cases x <;> first | rfl | (simp [PV.isCell] at this)
include hg hms hl in
/-- Moments without some acts, as a list. -/
theorem app14 : app E false (.fn 14 []) [.lst none nl 2 (Ms ms), .fn g []] M = some (.lst none (ms.map (Mom.less p)).isEmpty 2 (Ms (ms.map (Mom.less p))), emptyBag, M) := by
  obtain ⟨D, hD⟩ : ∃ D, D = ms.map (Mom.less p) := ⟨_, rfl⟩
  rw [← hD, app_fn E rfl h14 rfl]
  have h := @loop14 g p hg nl ms hms hl M
  simp only [c14, Cd.inner, Cd.body, S14] at h
  simp [c14]
  rw [h (by simp [done, rowV, rowO, c0, turnSt, reach, dedup, idxOf, turnName, PV.names, PV.namess, PV.ren, PV.rens, ac_names, mc_names, as_names, fs_names, ms_names, ac_rens, mc_rens, as_rens, fs_rens, ms_rens, ac_okns, mc_okns, as_okns, fs_okns, ms_okns])]
  rw [done_all, ← hD]
  clear hD
  cases D with
  | nil => simp [rowV, rowO, c0, turnSt, reach, dedup, idxOf, turnName, PV.names, PV.namess, PV.ren, PV.rens, ac_names, mc_names, as_names, fs_names, ms_names, ac_rens, mc_rens, as_rens, fs_rens, ms_rens, ac_okns, mc_okns, as_okns, fs_okns, ms_okns]
  | cons y r => simp [-encs_cons, frzV, frzR, mc_len, mc_chunks, mc_take, mc_out, rowV, rowO, c0, turnSt, reach, dedup, idxOf, turnName, PV.names, PV.namess, PV.ren, PV.rens, ac_names, mc_names, as_names, fs_names, ms_names, ac_rens, mc_rens, as_rens, fs_rens, ms_rens, ac_okns, mc_okns, as_okns, fs_okns, ms_okns]
include hg hms hl in
/-- Moments without some acts, as a row. -/
theorem app14r : app E true (.fn 14 []) [.lst none nl 2 (Ms ms), .fn g []] M = some (match ms.map (Mom.less p) with | [] => (.lst none true 2 [], emptyBag, M) | y :: r => (.slr M.length 0 [] 0 (r.length + 1) 2, ⟨[(0, Mc (y :: r))], []⟩, M)) := by
  obtain ⟨D, hD⟩ : ∃ D, D = ms.map (Mom.less p) := ⟨_, rfl⟩
  rw [← hD, app_fn E rfl h14 rfl]
  have h := @loop14 g p hg nl ms hms hl M
  simp only [c14, Cd.inner, Cd.body, S14] at h
  simp [c14]
  rw [h (by simp [done, rowV, rowO, c0, turnSt, reach, dedup, idxOf, turnName, PV.names, PV.namess, PV.ren, PV.rens, ac_names, mc_names, as_names, fs_names, ms_names, ac_rens, mc_rens, as_rens, fs_rens, ms_rens, ac_okns, mc_okns, as_okns, fs_okns, ms_okns])]
  rw [done_all, ← hD]
  clear hD
  cases D with
  | nil => simp [rowV, rowO, c0, turnSt, reach, dedup, idxOf, turnName, PV.names, PV.namess, PV.ren, PV.rens, ac_names, mc_names, as_names, fs_names, ms_names, ac_rens, mc_rens, as_rens, fs_rens, ms_rens, ac_okns, mc_okns, as_okns, fs_okns, ms_okns]
  | cons y r => simp [-encs_cons, bagEv, bagOf, bagChk, renB, obsB, topsB, nameIn, mc_rec, noTagB, nodupB, tagsOf, tagOf, PV.retag, PV.retag1, mc_len, mc_chunks, mc_take, mc_out, mc_all, mc_okns, rowV, rowO, c0, turnSt, reach, dedup, idxOf, turnName, PV.names, PV.namess, PV.ren, PV.rens, ac_names, mc_names, as_names, fs_names, ms_names, ac_rens, mc_rens, as_rens, fs_rens, ms_rens, ac_okns, mc_okns, as_okns, fs_okns, ms_okns]
end
end Go.Proofs.Ytbbpkkeaddbcnaa.ZJM.QS
