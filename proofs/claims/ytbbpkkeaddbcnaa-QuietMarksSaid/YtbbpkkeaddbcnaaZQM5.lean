/- A part of the proof that the law QuietMarks holds at whatever it is handed. -/
import Derived.Test.YtbbpkkeaddbcnaaZQM4
set_option linter.unusedSimpArgs false
set_option linter.unusedVariables false
namespace Go.Proofs.Ytbbpkkeaddbcnaa.ZIM.QM
open Go.Proofs.Ytbbpkkeaddbcnaa.ZIM Go.RowKit

theorem live_app : app fns (.fn 17 []) [] [[]] = some (.bool true, [[]]) := app_some.2 ⟨20, live_ok⟩
def cut (r : Rnd) : Rnd := { r with ms := r.ms.take 8 }
/-- As it comes: with any number of marks. -/
def Rnd.plain (x : Rnd) : Prop := QM.plain x.p ∧ QM.plain x.q ∧ QM.plain x.r
theorem cut_ok {r : Rnd} (h : r.plain) : (cut r).ok := ⟨h.1, h.2.1, h.2.2, by simp [cut]; omega⟩
theorem Rnd.data' {x : Rnd} (h : x.plain) : x.enc.data = true := by
  obtain ⟨h1, h2, h3⟩ := h
  simp [Rnd.enc, PV.data, PV.datas, h1.1, h2.1, h3.1, menc, PV.datas_map Mark.data]
theorem renc_okns' {ls : List Rnd} (h : ∀ r ∈ ls, r.plain) (a b c) : PV.okns a b c (renc ls) = true := PV.datas_okns _ _ _ _ (PV.datas_map' fun r hr => Rnd.data' (h r hr))
theorem renc_snoc (acc : List Rnd) (x : Rnd) : renc acc ++ [x.enc] = renc (acc ++ [x]) := by simp [renc]
def cuts (rs : List Rnd) (i : Nat) : List Rnd := (rs.take i).map cut
theorem cuts_ok {rs : List Rnd} (h : ∀ r ∈ rs, r.plain) (i : Nat) : ∀ r ∈ cuts rs i, r.ok := fun r hr => by
  obtain ⟨x, hx, rfl⟩ := List.mem_map.1 hr
  exact cut_ok (h x (List.mem_of_mem_take hx))
theorem cuts_succ (rs : List Rnd) (i : Nat) (h : i < rs.length) : cuts rs (i + 1) = cuts rs i ++ [cut rs[i]] := by
  unfold cuts
  rw [List.take_add_one, List.getElem?_eq_getElem h, List.map_append]
  rfl
theorem menc_take (ls : List Mark) (n : Nat) : (menc ls).take n = menc (ls.take n) := by simp [menc, List.map_take]
theorem kenc_take (ls : List Int) (n : Nat) : (kenc ls).take n = kenc (ls.take n) := by simp [kenc, List.map_take]

section
variable (nk : Bool) (ks : List Int) (hk : ks.length < 1000000) (nr : Bool) (rs : List Rnd) (hr : ∀ r ∈ rs, r.plain) (m : Mem)
def S4 (i : Nat) : St :=
  ⟨[(0, .lst none nk 1 (kenc ks)), (1, .lst none nr 6 (renc rs)), (5, .lst (some 13) false 6 (renc (cuts rs i))), (6, .int .i64 i)], [(13, (cuts rs i).length, 53)], [], []⟩
include hr in
theorem loop4 {st : St} (h0 : maskSt [0, 1, 5, 6] [] [13] st = some (S4 nk ks nr rs 0)) :
    loopW (maskSt [0, 1, 5, 6] [] [13]) (Cd.run (app fns) c4.body.inner.body) st = c4.body.inner.body.run (app fns) (S4 nk ks nr rs (min rs.length 20)) := by
  refine loop_eq (S4 nk ks nr rs) (min rs.length 20) (fun i hi => ?_) ?_ h0
  · have hi1 : i < rs.length := by omega
    have hi' : (i : Int) < rs.length := by omega
    have hi2 : (i : Int) < 20 := by omega
    have hw := wrap_succ i (by omega)
    have hb : ((cuts rs i).length + 1) * 112 ≤ maxBytes := by
      have : (cuts rs i).length ≤ i := by simp [cuts]; omega
      unfold maxBytes; omega
    have hA := renc_okns (cuts_ok hr (i + 1))
    unfold S4
    rw [cuts_succ rs i hi1] at hA ⊢
    generalize cuts rs i = A at hb hA
    obtain ⟨⟨p1, p2, p3⟩, ⟨q1, q2, q3⟩, r1, r2, r3⟩ := hr _ (List.getElem_mem hi1)
    have e : renc (A ++ [cut rs[i]]) = renc A ++ [.agg [.int .i64 rs[i].t, rs[i].p, rs[i].q, rs[i].r, .lst none rs[i].nl 5 (menc (rs[i].ms.take 8)), .int .i64 rs[i].w]] := (renc_snoc A (cut rs[i])).symm
    rw [e] at hA ⊢
    have hmin : (if (8 : Int) < rs[i].ms.length then (8 : Int) else rs[i].ms.length) = ((min 8 rs[i].ms.length : Nat) : Int) := by split <;> omega
    have htk : rs[i].ms.take (min 8 rs[i].ms.length) = rs[i].ms.take 8 := by
      rcases Nat.le_total 8 rs[i].ms.length with h | h
      · rw [Nat.min_eq_left h]
      · rw [Nat.min_eq_right h, List.take_length, List.take_of_length_le h]
    have hle : min 8 rs[i].ms.length ≤ rs[i].ms.length := Nat.min_le_right ..
    simp [c4, Cd.inner, Cd.body, hi', hi2, hi1, renc_getE, renc_len, Rnd.enc, p2, q2, r2, p3, q3, r3, menc_len, menc_take, hmin, htk, hle, hb, hw, kenc_okns, renc_okns' hr, hA]
  · by_cases h : rs.length < 20
    · simp [c4, Cd.inner, Cd.body, S4, renc_len, Nat.min_eq_left (Nat.le_of_lt h)]
    · have h2 : min rs.length 20 = 20 := by omega
      by_cases h3 : (20 : Int) < rs.length
      · simp [c4, Cd.inner, Cd.body, S4, renc_len, h2, h3]
      · simp [c4, Cd.inner, Cd.body, S4, renc_len, h2, h3]
include hr in
theorem app4 : app fns (.fn 4 []) [.lst none nk 1 (kenc ks), .lst none nr 6 (renc rs)] [] = some (.bool true, []) := by
  rw [app_fn fns h4 rfl]
  have hin := fun st => @loop4 nk (ks.take 8) nr rs hr st
  simp only [c4, Cd.inner, Cd.body, S4] at hin
  have e0 : renc (cuts rs 0) = [] := rfl
  have e1 : (cuts rs 0).length = 0 := rfl
  simp only [e0, e1] at hin
  have hmin : (if (8 : Int) < ks.length then (8 : Int) else ks.length) = ((min 8 ks.length : Nat) : Int) := by split <;> omega
  have htk : ks.take (min 8 ks.length) = ks.take 8 := by
    rcases Nat.le_total 8 ks.length with h | h
    · rw [Nat.min_eq_left h]
    · rw [Nat.min_eq_right h, List.take_length, List.take_of_length_le h]
  have hle : min 8 ks.length ≤ ks.length := Nat.min_le_right ..
  have hok := cuts_ok hr (min rs.length 20)
  have hcl : (cuts rs (min rs.length 20)).length ≤ 20 := by simp [cuts]; omega
  have hk8 : (ks.take 8).length < 1000000 := by simp; omega
  have h19 := app19 nk (ks.take 8) hk8 false _ hok hcl [[]]
  have h20 := app20 nk (ks.take 8) hk8 false _ hok hcl [[]]
  have hml := marks_len (ks.take 8) _ hok
  have h18 := fun nx => app18 nx false (marks (ks.take 8) (cuts rs (min rs.length 20))) (by omega) [[]]
  have key : ∀ n, n = min rs.length 20 → (decide ((n : Int) < rs.length) = true → ¬ ((n : Int) < 20)) := by intro n hn h; simp at h; omega
  by_cases h : rs.length < 20
  · have h2 : min rs.length 20 = rs.length := by omega
    rw [h2] at hin h19 h20 h18
    simp [c4, kenc_len, kenc_take, hmin, htk, hle, hin, sized, kenc_okns, renc_okns' hr, renc_len, live_app, h19, h20, h18]
  · have h2 : min rs.length 20 = 20 := by omega
    rw [h2] at hin h19 h20 h18
    by_cases h3 : (20 : Int) < rs.length
    · simp [c4, kenc_len, kenc_take, hmin, htk, hle, hin, sized, kenc_okns, renc_okns' hr, renc_len, live_app, h19, h20, h18, h3]
    · simp [c4, kenc_len, kenc_take, hmin, htk, hle, hin, sized, kenc_okns, renc_okns' hr, renc_len, live_app, h19, h20, h18, h3]
end
end Go.Proofs.Ytbbpkkeaddbcnaa.ZIM.QM
