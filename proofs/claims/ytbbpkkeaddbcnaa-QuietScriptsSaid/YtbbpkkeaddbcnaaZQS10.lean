/- QuietScripts: all acts, one by one. -/
import Derived.Test.YtbbpkkeaddbcnaaZQS3
import Derived.Test.YtbbpkkeaddbcnaaZJ29
set_option linter.unusedSimpArgs false
set_option linter.unusedVariables false
namespace Go.Proofs.Ytbbpkkeaddbcnaa.ZJM.QS
open Go.Proofs.Ytbbpkkeaddbcnaa.ZJM Go.RowKit

theorem as_names' (l : List Mom) (a) : PV.namess a (Ms l) = [] := PV.datas_namess _ _ (ms_data l)
theorem ms_rens' (l : List Mom) (a b ρ) : PV.rens a b ρ (Ms l) = Ms l := PV.datas_rens _ _ _ _ (ms_data l)
theorem app15 (nl : Bool) (ms : List Mom) (M : Mem) : app E false (.fn 15 []) [.lst none nl 2 (Ms ms)] M = some (.fn 40 [.ptr M.length 0 [] 0], ⟨[(0, [.lst none nl 2 (Ms ms)])], []⟩, M) := by
  rw [app_fn E rfl h15 rfl]
  simp [-encs_cons, c15, frzV, frzR, bagEv, bagOf, bagChk, renB, obsB, topsB, nameIn, isRec, noTagB, nodupB, tagsOf, tagOf, PV.ren, PV.rens, PV.retag, PV.retag1, PV.names, PV.namess, reach, dedup, idxOf, as_names', ms_rens', ms_okns]

section
variable {σ : Type} (mem : σ → Lvl) (nl : Bool) (ms : List Mom) (hl : ms.length < 1000000) (hal : ∀ m ∈ ms, m.acts.length < 2000000000000) (y : PV) (hy : ∀ ks ts, y.okn 1 ks ts = true) (sl : Nat) (hsl : ∀ s, get (mem s) sl = some [.lst none nl 2 (Ms ms)])
  (J : Nat → Nat → σ → Prop) (Stop : σ → Prop)
  (hyld : ∀ (i : Nat) (hi : i < ms.length) (k : Nat) (hk : k < ms[i].acts.length) (s : σ) (own1 : Lvl), J i k s → ∃ b s', app E false y [.int .i64 i, ms[i].acts[k].enc] (own1 :: [mem s]) = some (.bool b, emptyBag, own1 :: [mem s']) ∧ (if b = true then J i (k + 1) s' else Stop s'))
def S40b (i : Nat) (m : Mom) (k : Nat) (s : σ) : St :=
  ⟨[(0, y), (3, .int .i64 i), (7, .lst none nl 2 (Ms ms)), (8, .int .i64 ms.length), (9, .int .i64 i), (15, .lst none m.na 13 (As m.acts)), (16, .int .i64 m.acts.length), (17, .int .i64 k)], [], [], [], [mem s]⟩
def S40 (i : Nat) (s : σ) : St :=
  ⟨[(0, y), (7, .lst none nl 2 (Ms ms)), (8, .int .i64 ms.length), (9, .int .i64 i)], [], [], [], [mem s]⟩
include hal hy hyld in
theorem loop40b (i : Nat) (hi : i < ms.length) (s : σ) (hJ : J i 0 s) {st : St} (h0 : maskSt [0, 3, 7, 8, 9, 15, 16, 17] [] [] [] st = some (S40b mem nl ms y i ms[i] 0 s)) :
    ∃ e st', loopW (maskSt [0, 3, 7, 8, 9, 15, 16, 17] [] [] []) (Cd.run (app E) c40.body.in2) st = some (e, st') ∧ e ≠ .normal ∧
      ((e = .exit 2 ∧ ∃ s', J i ms[i].acts.length s' ∧ ∃ b, st' = { S40b mem nl ms y i ms[i] ms[i].acts.length s' with f := (18, b) :: (S40b mem nl ms y i ms[i] ms[i].acts.length s').f }) ∨ (e = .ret ∧ ∃ s', Stop s' ∧ st'.m = [mem s'])) := by
  refine loop_inv (fun k S => ∃ s, J i k s ∧ S = S40b mem nl ms y i ms[i] k s) ms[i].acts.length _ h0 ⟨s, hJ, rfl⟩ ?_ ?_
  · rintro k S hk ⟨s, hJ, rfl⟩
    have hm := hal _ (List.getElem_mem hi)
    have hk' : (k : Int) < ms[i].acts.length := by omega
    have hw := wrap_succ k (by omega)
    obtain ⟨b, s', h1, h2⟩ := hyld i hi k hk s [(6, ms[i].acts[k].cs)] hJ
    simp only [Act.enc, Act.cs] at h1
    cases b with
    | true =>
      have hG : Goes (maskSt [0, 3, 7, 8, 9, 15, 16, 17] [] [] []) (S40b mem nl ms y i ms[i] (k + 1) s') (Cd.run (app E) c40.body.in2 (S40b mem nl ms y i ms[i] k s)) := by
        simp [c40, Cd.in2, Cd.inner, Cd.body, S40b, hk', hk, encs_getE, Act.enc, Act.cs, h1, hw, hy, ms_okns, as_okns]
      obtain ⟨st2, a, b⟩ := hG.get
      exact .inl ⟨st2, _, a, b, s', by simpa using h2, rfl⟩
    | false =>
      refine .inr ?_
      simp [c40, Cd.in2, Cd.inner, Cd.body, S40b, hk', hk, encs_getE, Act.enc, Act.cs, h1, hw, hy, ms_okns, as_okns, EndsL]
      exact ⟨s', by simpa using h2, rfl⟩
  · rintro S ⟨s, hJ, rfl⟩
    simp [c40, Cd.in2, Cd.inner, Cd.body, S40b, EndsL]
    exact ⟨s, hJ, rfl⟩
variable (hJn : ∀ i (hi : i < ms.length) s, J i ms[i].acts.length s → J (i + 1) 0 s)
include hl hal hy hyld hJn in
theorem loop40 (s : σ) (hJ : J 0 0 s) {st : St} (h0 : maskSt [0, 7, 8, 9] [] [] [] st = some (S40 mem nl ms y 0 s)) :
    ∃ e st', loopW (maskSt [0, 7, 8, 9] [] [] []) (Cd.run (app E) c40.body.inner.body) st = some (e, st') ∧ e ≠ .normal ∧
      ((e = .exit 0 ∧ ∃ s', J ms.length 0 s' ∧ st'.m = [mem s'] ∧ st'.own = [] ∧ st'.tops = []) ∨ (e = .ret ∧ ∃ s', Stop s' ∧ st'.m = [mem s'])) := by
  refine loop_inv (fun i S => ∃ s, J i 0 s ∧ S = S40 mem nl ms y i s) ms.length _ h0 ⟨s, hJ, rfl⟩ ?_ ?_
  · rintro i S hi ⟨s, hJ, rfl⟩
    have hi' : (i : Int) < ms.length := by omega
    have hw := wrap_succ i (by omega)
    have hin := @loop40b σ mem nl ms hal y hy J Stop hyld i hi s hJ
    simp only [S40b, c40, Cd.in2, Cd.inner, Cd.body] at hin
    obtain ⟨e, st', h1, h2, h3⟩ := hin (st := { f := [(17, .int .i64 0), (16, .int .i64 ms[i].acts.length), (15, .lst none ms[i].na 13 (As ms[i].acts)), (14, .ptr 1 4 [] 0), (3, .int .i64 i), (4, .ptr 1 4 [] 0), (13, .agg [.lst none ms[i].na 13 (As ms[i].acts), .lst none ms[i].nf 15 (Fs ms[i].flts)]), (12, .elp ms[i].enc 0), (11, .int .i64 i), (10, .bool true), (0, y), (7, .lst none nl 2 (Ms ms)), (8, .int .i64 ms.length), (9, .int .i64 i)], tops := [], own := [(4, [.lst none ms[i].na 13 (As ms[i].acts), .lst none ms[i].nf 15 (Fs ms[i].flts)])], dead := [], m := [mem s] }) (by simp [hy, ms_okns, as_okns])
    simp only [Mom.enc, Mom.cs] at h1
    rcases h3 with ⟨rfl, s', hJ', b, rfl⟩ | ⟨rfl, s', hS, hm⟩
    · have hG : Goes (maskSt [0, 7, 8, 9] [] [] []) (S40 mem nl ms y (i + 1) s') (Cd.run (app E) c40.body.inner.body (S40 mem nl ms y i s)) := by
        simp [c40, Cd.inner, Cd.body, S40, hi', hi, encs_getE, Mom.enc, Mom.cs, as_deps, fs_deps, h1, hw, hy, ms_okns]
      obtain ⟨st2, a, b⟩ := hG.get
      exact .inl ⟨st2, _, a, b, s', hJn i hi s' hJ', rfl⟩
    · refine .inr ?_
      simp [c40, Cd.inner, Cd.body, S40, hi', hi, encs_getE, Mom.enc, Mom.cs, as_deps, fs_deps, h1, EndsL]
      exact ⟨s', hS, hm⟩
  · rintro S ⟨s, hJ, rfl⟩
    simp [c40, Cd.inner, Cd.body, S40, EndsL]
    exact ⟨s, hJ, rfl⟩
include hl hal hy hyld hJn hsl in
/-- All acts, one by one, handed to whoever wants them. -/
theorem app40 (hyt : isTup y = false) (s : σ) (hJ : J 0 0 s) : ∃ s', (J ms.length 0 s' ∨ Stop s') ∧ app E false (.fn 40 [.ptr 0 sl [] 0]) [y] [mem s] = some (.tup [], emptyBag, [mem s']) := by
  rw [app_fn E rfl h40 (by
    rw [show ([y] ++ [PV.ptr 0 sl [] 0]).all (fun v => !isTup v) = true by
      simp only [List.cons_append, List.nil_append, List.all_cons, List.all_nil, hyt]; rfl]
    rfl)]
  obtain ⟨e, st', h1, h2, h3⟩ := @loop40 σ mem nl ms hl hal y hy J Stop hyld hJn s hJ { f := [(9, .int .i64 0), (8, .int .i64 ms.length), (7, .lst none nl 2 (Ms ms)), (0, y), (1, .ptr 0 sl [] 0)], tops := [], own := [], dead := [], m := [mem s] } (by simp [S40, hy, ms_okns])
  simp only [c40, Cd.inner, Cd.body] at h1
  rcases h3 with ⟨rfl, s', hJ', hm, ho, ht⟩ | ⟨rfl, s', hS, hm⟩
  · refine ⟨s', .inl hJ', ?_⟩
    simp [c40, hsl, h1, hm]
  · refine ⟨s', .inr hS, ?_⟩
    simp [c40, hsl, h1, hm]
end
end Go.Proofs.Ytbbpkkeaddbcnaa.ZJM.QS
