/- QuietScripts: moments without some acts: the inner loop. -/
import Derived.Test.YtbbpkkeaddbcnaaZQS3
set_option linter.unusedSimpArgs false
set_option linter.unusedVariables false
namespace Go.Proofs.Ytbbpkkeaddbcnaa.ZJM.QS
open Go.Proofs.Ytbbpkkeaddbcnaa.ZJM Go.RowKit

theorem ac_names (l : List Act) (a) : PV.namess a (Ac l) = [] := PV.datas_namess _ _ (ac_data l)
theorem mc_names (l : List Mom) (a) : PV.namess a (Mc l) = [] := PV.datas_namess _ _ (mc_data l)
theorem as_names (l : List Act) (a) : PV.namess a (As l) = [] := PV.datas_namess _ _ (as_data l)
theorem fs_names (l : List Flt) (a) : PV.namess a (Fs l) = [] := PV.datas_namess _ _ (fs_data l)
theorem ms_names (l : List Mom) (a) : PV.namess a (Ms l) = [] := PV.datas_namess _ _ (ms_data l)
theorem ac_rens (l : List Act) (a b ρ) : PV.rens a b ρ (Ac l) = Ac l := PV.datas_rens _ _ _ _ (ac_data l)
theorem mc_rens (l : List Mom) (a b ρ) : PV.rens a b ρ (Mc l) = Mc l := PV.datas_rens _ _ _ _ (mc_data l)
theorem as_rens (l : List Act) (a b ρ) : PV.rens a b ρ (As l) = As l := PV.datas_rens _ _ _ _ (as_data l)
theorem fs_rens (l : List Flt) (a b ρ) : PV.rens a b ρ (Fs l) = Fs l := PV.datas_rens _ _ _ _ (fs_data l)
theorem ms_rens (l : List Mom) (a b ρ) : PV.rens a b ρ (Ms l) = Ms l := PV.datas_rens _ _ _ _ (ms_data l)
theorem ac_okns (l : List Act) (a b c) : PV.okns a b c (Ac l) = true := PV.datas_okns _ _ _ _ (ac_data l)
theorem mc_okns (l : List Mom) (a b c) : PV.okns a b c (Mc l) = true := PV.datas_okns _ _ _ _ (mc_data l)
theorem ac_deps (l : List Act) (a) : PV.deps a (Ac l) = true := PV.datas_deps _ _ (ac_data l)
theorem mc_deps (l : List Mom) (a) : PV.deps a (Mc l) = true := PV.datas_deps _ _ (mc_data l)
theorem ac_len (l : List Act) : (Ac l).length = l.length * 13 := flats_len Act.len l
theorem mc_len (l : List Mom) : (Mc l).length = l.length * 2 := flats_len Mom.len l
theorem ac_cell (l : List Act) : (Ac l).all PV.isCell = true := flats_isCell Act.cell l
theorem mc_cell (l : List Mom) : (Mc l).all PV.isCell = true := flats_isCell Mom.cell l

/-- The row under way. -/
def rowV (M : Mem) : List Mom → PV
  | [] => .lst none true 2 []
  | x :: d => .slr M.length 1000000000 [] 0 (d.length + 1) 2
def rowO : List Mom → Lvl
  | [] => []
  | x :: d => [(1000000000, Mc (x :: d))]
/-- The moment's acts that stay, in its cell. -/
def c0 : List Act → PV
  | [] => .lst none true 13 []
  | x :: r => .vec r.length (r.length + 1) 13 (Ac (x :: r))
def kept (p : Act → Bool) (l : List Act) : List Act := l.filter fun a => !p a
theorem kept_succ (p : Act → Bool) (l : List Act) (j : Nat) (h : j < l.length) : kept p (l.take (j + 1)) = kept p (l.take j) ++ (if p l[j] = true then [] else [l[j]]) := by
  unfold kept
  rw [filter_take (fun a => !p a) l j h]
  cases hp : p l[j] <;> simp
section
variable (g : FuncId) (p : Act → Bool) (hg : ∀ x : Act, app E false (.fn g []) [x.enc] [] = some (.bool (p x), emptyBag, [])) (nl : Bool) (ms : List Mom) (M : Mem)
def S14b (D : List Mom) (i : Nat) (m : Mom) (j : Nat) : St :=
  ⟨[(1, .fn g []), (5, rowV M D), (8, .ptr M.length 8 [] 0), (11, .lst none nl 2 (Ms ms)), (12, .int .i64 ms.length), (13, .int .i64 i), (22, .lst none m.na 13 (As m.acts)), (23, .int .i64 m.acts.length), (24, .int .i64 j)], [],
    (8, [c0 (kept p (m.acts.take j)), .lst none m.nf 15 (Fs m.flts)]) :: rowO D, [], M⟩
include hg in
theorem loop14b (D : List Mom) (i : Nat) (m : Mom) (hm : m.acts.length * 104 ≤ maxBytes) {st : St} (h0 : maskSt [1, 5, 8, 11, 12, 13, 22, 23, 24] [8] [] [5] st = some (S14b g p nl ms M D i m 0)) :
    loopW (maskSt [1, 5, 8, 11, 12, 13, 22, 23, 24] [8] [] [5]) (Cd.run (app E) c14.body.in2) st = c14.body.in2.run (app E) (S14b g p nl ms M D i m m.acts.length) := by
  refine loop_eq (S14b g p nl ms M D i m) m.acts.length (fun j hj => ?_) ?_ h0
  · have hj' : (j : Int) < m.acts.length := by omega
    have hw := wrap_succ j (by unfold maxBytes at hm; omega)
    have hgx := hg m.acts[j]
    simp only [Act.enc, Act.cs] at hgx
    have hK : (kept p (m.acts.take j)).length < m.acts.length := by
      refine Nat.lt_of_le_of_lt (List.length_filter_le _ _) ?_
      simp; omega
    unfold S14b
    rw [kept_succ p m.acts j hj]
    generalize kept p (m.acts.take j) = K at hK
    cases hp : p m.acts[j] with
    | true =>
      cases D <;> cases K <;> simp [c14, Cd.in2, Cd.inner, Cd.body, hj', hj, encs_getE, Act.enc, Act.cs, hgx, hp, hw, rowV, rowO, c0, turnSt, reach, dedup, idxOf, turnName, PV.names, PV.namess, PV.ren, PV.rens, ac_names, mc_names, as_names, fs_names, ms_names, ac_rens, mc_rens, as_rens, fs_rens, ms_rens, ac_okns, mc_okns, as_okns, fs_okns, ms_okns]
    | false =>
      have hb1 : 104 ≤ maxBytes := by unfold maxBytes; omega
      cases K with
      | nil => cases D <;> simp [c14, Cd.in2, Cd.inner, Cd.body, hj', hj, encs_getE, Act.enc, Act.cs, hgx, hp, hw, rowV, rowO, c0, turnSt, reach, dedup, idxOf, turnName, PV.names, PV.namess, PV.ren, PV.rens, ac_names, mc_names, as_names, fs_names, ms_names, ac_rens, mc_rens, as_rens, fs_rens, ms_rens, ac_okns, mc_okns, as_okns, fs_okns, ms_okns, ac_len, ac_cell, flats_nil, flats_append, flats_one, hb1]
      | cons y r =>
        have hb2 : (r.length + 1 + 1) * 104 ≤ maxBytes := by
          simp only [List.length_cons] at hK
          exact Nat.le_trans (Nat.mul_le_mul_right _ hK) hm
        have hb3 : (r.length + 1) * 13 + 13 = (r.length + 1 + 1) * 13 := by omega
        cases D <;> simp [c14, Cd.in2, Cd.inner, Cd.body, hj', hj, encs_getE, Act.enc, Act.cs, hgx, hp, hw, rowV, rowO, c0, turnSt, reach, dedup, idxOf, turnName, PV.names, PV.namess, PV.ren, PV.rens, ac_names, mc_names, as_names, fs_names, ms_names, ac_rens, mc_rens, as_rens, fs_rens, ms_rens, ac_okns, mc_okns, as_okns, fs_okns, ms_okns, ac_len, ac_cell, flats_nil, flats_append, flats_one, hb2, hb3, okns_append, deps_append, namess_append, rens_append, ac_deps, mc_deps] <;>
          exact (flats_append (c := Act.cs) (y :: r) [m.acts[j]]).symm
  · simp [c14, Cd.in2, Cd.inner, Cd.body, S14b]
end
end Go.Proofs.Ytbbpkkeaddbcnaa.ZJM.QS
