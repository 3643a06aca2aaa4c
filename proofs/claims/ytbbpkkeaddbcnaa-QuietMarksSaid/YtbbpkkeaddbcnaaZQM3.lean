/- A part of the proof that the law QuietMarks holds at whatever it is handed. -/
import Derived.Test.YtbbpkkeaddbcnaaZQM2
import Derived.Test.YtbbpkkeaddbcnaaZIM23
set_option linter.unusedSimpArgs false
set_option linter.unusedVariables false
namespace Go.Proofs.Ytbbpkkeaddbcnaa.ZIM.QM
open Go.Proofs.Ytbbpkkeaddbcnaa.ZIM Go.RowKit

theorem h58 : fns 58 = some c58 := rfl
theorem h41 : fns 41 = some c41 := rfl
theorem h19 : fns 19 = some c19 := rfl
theorem h20 : fns 20 = some c20 := rfl
theorem h18 : fns 18 = some c18 := rfl
theorem h4 : fns 4 = some c4 := rfl

def kenc (ks : List Int) : List PV := ks.map (PV.int .i64)
def S58 (nl : Bool) (ks : List Int) (x : Int) (m : Mem) (i : Nat) : St :=
  ⟨[(0, .lst none nl 1 (kenc ks)), (1, .int .i64 x), (7, .int .i64 ks.length), (8, .int .i64 i)], [], [], m⟩
theorem kenc_get (ks : List Int) (i : Nat) (h : i < ks.length) : (kenc ks)[i]? = some (.int .i64 ks[i]) := by simp [kenc, h]
theorem kenc_len (ks : List Int) : (kenc ks).length = ks.length := by simp [kenc]
theorem kenc_okns (ks : List Int) (a b c) : PV.okns a b c (kenc ks) = true := PV.datas_okns _ _ _ _ (PV.datas_map (fun _ => rfl) ks)
theorem kenc_deps (ks : List Int) (a) : PV.deps a (kenc ks) = true := PV.datas_deps _ _ (PV.datas_map (fun _ => rfl) ks)

theorem loop58 (nl : Bool) (ks : List Int) (hks : ks.length < 1000000) (x : Int) (m : Mem) (st : St) (h0 : maskSt [0, 1, 7, 8] [] [] st = some (S58 nl ks x m 0)) :
    ∃ i e st', i ≤ ks.length ∧ (∀ j, j < i → ¬ ks[j]? = some x) ∧ (i < ks.length → ks[i]? = some x) ∧ loopW (maskSt [0, 1, 7, 8] [] []) (Cd.run (app fns) c58.body.inner.body) st = some (e, st') ∧
      (st'.m = m ∧ (i < ks.length → e = .ret ∧ get st'.f 4 = some (.int .i64 i)) ∧ (¬ i < ks.length → e = .exit 0)) := by
  refine loop_until (S58 nl ks x m) ks.length (fun i => ks[i]? = some x) (fun i e st' => st'.m = m ∧ (i < ks.length → e = .ret ∧ get st'.f 4 = some (.int .i64 i)) ∧ (¬ i < ks.length → e = .exit 0)) h0 ?_ ?_ ?_
  · intro i hi hx
    have hi' : (i : Int) < ks.length := by omega
    have hx' : (x == ks[i]) = false := by simpa using fun hh : x = ks[i] => hx (by simp [hi, hh])
    have hw := wrap_succ i (by omega)
    simp [c58, Cd.inner, Cd.body, S58, hi', kenc_get, hi, hx', hw, kenc_okns]
  · intro i hi hx
    have hi' : (i : Int) < ks.length := by omega
    have hx' : x = ks[i] := by simpa [hi] using hx.symm
    subst hx'
    simp [c58, Cd.inner, Cd.body, S58, hi', kenc_get, hi, Ends]
  · simp [c58, Cd.inner, Cd.body, S58, Ends]
theorem app58 (nl : Bool) (ks : List Int) (hks : ks.length < 1000000) (x : Int) (m : Mem) :
    ∃ n : Int, app fns (.fn 58 []) [.lst none nl 1 (kenc ks), .int .i64 x] m = some (.int .i64 n, m) ∧ (0 ≤ n ↔ x ∈ ks) := by
  rw [app_fn fns h58 rfl]
  obtain ⟨i, e, st', h1, h2, h3, h4, h5, h6, h7⟩ := loop58 nl ks hks x m ⟨[(8, .int .i64 0), (7, .int .i64 ks.length), (6, .lst none nl 1 (kenc ks)), (4, .int .i64 0), (0, .lst none nl 1 (kenc ks)), (1, .int .i64 x)], [], [], m⟩
    (by simp [kenc_okns, S58])
  simp only [c58, Cd.inner, Cd.body] at h4
  by_cases hi : i < ks.length
  · obtain ⟨rfl, h8⟩ := h6 hi
    refine ⟨i, ?_, ?_⟩
    · simp [c58, kenc_len, h4, h8, h5]
    · exact ⟨fun _ => List.mem_of_getElem? (h3 hi), fun _ => by omega⟩
  · have := h7 hi
    subst this
    refine ⟨-1, ?_, ?_⟩
    · simp [c58, kenc_len, h4, h5]
    · refine ⟨fun h => by omega, fun h => ?_⟩
      obtain ⟨j, hj⟩ := List.getElem?_of_mem h
      have := (List.getElem?_eq_some_iff.1 hj).1
      exact absurd hj (h2 j (by omega))
theorem app41 (nl : Bool) (ks : List Int) (hks : ks.length < 1000000) (x : Int) (m : Mem) : app fns (.fn 41 []) [.lst none nl 1 (kenc ks), .int .i64 x] m = some (.bool (decide (x ∈ ks)), m) := by
  rw [app_fn fns h41 rfl]
  obtain ⟨n, h1, h2⟩ := app58 nl ks hks x ([] :: m)
  have h3 : decide (n ≥ 0) = decide (x ∈ ks) := by rw [decide_eq_decide]; exact h2
  simp [c41, h1, h2]

structure Mark where
  a : Int
  b : Int
  c : Int
  d : Int
  s : ByteArray
def Mark.enc (x : Mark) : PV := .agg [.int .i64 x.a, .int .i64 x.b, .int .i64 x.c, .int .i64 x.d, .str x.s]
def menc (ls : List Mark) : List PV := ls.map Mark.enc
structure Rnd where
  t : Int
  p : PV
  q : PV
  r : PV
  nl : Bool
  ms : List Mark
  w : Int
def Rnd.enc (x : Rnd) : PV := .agg [.int .i64 x.t, x.p, x.q, x.r, .lst none x.nl 5 (menc x.ms), .int .i64 x.w]
def plain (v : PV) : Prop := v.data = true ∧ v.isCell = true ∧ v.untag1 = v
def Rnd.ok (x : Rnd) : Prop := plain x.p ∧ plain x.q ∧ plain x.r ∧ x.ms.length ≤ 8
theorem Mark.data (x : Mark) : x.enc.data = true := rfl
theorem Rnd.data {x : Rnd} (h : x.ok) : x.enc.data = true := by
  obtain ⟨h1, h2, h3, _⟩ := h
  simp [Rnd.enc, PV.data, PV.datas, h1.1, h2.1, h3.1, menc, PV.datas_map Mark.data]
def renc (ls : List Rnd) : List PV := ls.map Rnd.enc
theorem renc_get (ls : List Rnd) (i : Nat) (h : i < ls.length) : (renc ls)[i]? = some ls[i].enc := by simp [renc, h]
theorem menc_get (ls : List Mark) (i : Nat) (h : i < ls.length) : (menc ls)[i]? = some ls[i].enc := by simp [menc, h]
theorem renc_len (ls : List Rnd) : (renc ls).length = ls.length := by simp [renc]
theorem menc_len (ls : List Mark) : (menc ls).length = ls.length := by simp [menc]
theorem renc_getE (ls : List Rnd) (i : Nat) (h : i < (renc ls).length) : (renc ls)[i] = (ls[i]'(by simpa [renc] using h)).enc := by simp [renc]
theorem menc_getE (ls : List Mark) (i : Nat) (h : i < (menc ls).length) : (menc ls)[i] = (ls[i]'(by simpa [menc] using h)).enc := by simp [menc]
theorem kenc_getE (ls : List Int) (i : Nat) (h : i < (kenc ls).length) : (kenc ls)[i] = .int .i64 (ls[i]'(by simpa [kenc] using h)) := by simp [kenc]
theorem renc_okns {ls : List Rnd} (h : ∀ r ∈ ls, r.ok) (a b c) : PV.okns a b c (renc ls) = true := PV.datas_okns _ _ _ _ (PV.datas_map' fun r hr => Rnd.data (h r hr))
theorem menc_okns (ls : List Mark) (a b c) : PV.okns a b c (menc ls) = true := PV.datas_okns _ _ _ _ (PV.datas_map Mark.data ls)
theorem menc_deps (ls : List Mark) (a) : PV.deps a (menc ls) = true := PV.datas_deps _ _ (PV.datas_map Mark.data ls)
theorem menc_snoc (acc : List Mark) (x : Mark) : menc acc ++ [x.enc] = menc (acc ++ [x]) := by simp [menc]

def sel (ks : List Int) (ms : List Mark) : List Mark := ms.filter fun x => decide (x.c ∈ ks)
def marks (ks : List Int) (rs : List Rnd) : List Mark := rs.flatMap fun r => sel ks r.ms

def S19b (nk : Bool) (ks : List Int) (nr : Bool) (rs : List Rnd) (m : Mem) (acc : List Mark) (i : Nat) (r : Rnd) (j : Nat) : St :=
  ⟨[(0, .lst none nk 1 (kenc ks)), (5, .lst (some 5) (acc ++ sel ks (r.ms.take j)).isEmpty 5 (menc (acc ++ sel ks (r.ms.take j)))), (10, .lst none nr 6 (renc rs)), (11, .int .i64 rs.length), (12, .int .i64 i),
    (17, .lst none r.nl 5 (menc r.ms)), (18, .int .i64 r.ms.length), (19, .int .i64 j)], [(5, (acc ++ sel ks (r.ms.take j)).length, 100)], [], m⟩
theorem sel_take (ks : List Int) (ms : List Mark) (j : Nat) (h : j < ms.length) : sel ks (ms.take (j + 1)) = sel ks (ms.take j) ++ (if ms[j].c ∈ ks then [ms[j]] else []) := by
  unfold sel
  rw [List.take_add_one, List.getElem?_eq_getElem h, List.filter_append]
  by_cases hc : ms[j].c ∈ ks <;> simp [hc]
theorem sel_len (ks : List Int) (ms : List Mark) : (sel ks ms).length ≤ ms.length := List.length_filter_le _ _
theorem loop19b (nk : Bool) (ks : List Int) (hk : ks.length < 1000000) (nr : Bool) (rs : List Rnd) (hr : ∀ r ∈ rs, r.ok) (m : Mem) (acc : List Mark) (ha : acc.length < 10000) (i : Nat) (hi : i < rs.length) (hi2 : i < 1000000) (r : Rnd) (h8 : r.ms.length ≤ 8) {st : St}
    (h0 : maskSt [0, 5, 10, 11, 12, 17, 18, 19] [] [5] st = some (S19b nk ks nr rs m acc i r 0)) :
    loopW (maskSt [0, 5, 10, 11, 12, 17, 18, 19] [] [5]) (Cd.run (app fns) c19.body.in2) st = c19.body.in2.run (app fns) (S19b nk ks nr rs m acc i r r.ms.length) := by
  refine loop_eq (S19b nk ks nr rs m acc i r) r.ms.length (fun j hj => ?_) ?_ h0
  · have hj' : (j : Int) < r.ms.length := by omega
    have hw := wrap_succ j (by omega)
    have hb : ((acc ++ sel ks (r.ms.take j)).length + 1) * 48 ≤ maxBytes := by
      have := sel_len ks (r.ms.take j)
      simp only [List.length_append, List.length_take] at this ⊢
      unfold maxBytes; omega
    unfold S19b
    rw [sel_take ks r.ms j hj]
    generalize hA : acc ++ sel ks (r.ms.take j) = A at hb
    rw [← List.append_assoc, hA]
    by_cases hc : r.ms[j].c ∈ ks
    · simp [c19, Cd.in2, Cd.inner, Cd.body, hj', menc_getE, menc_len, hj, Mark.enc, app41 nk ks hk, hc, hb, hw, kenc_okns, renc_okns hr, menc_okns]
      have e := menc_snoc A r.ms[j]
      simp only [Mark.enc] at e
      rw [e]
      exact ⟨menc_okns _ _ _ _, rfl⟩
    · simp [c19, Cd.in2, Cd.inner, Cd.body, hj', menc_getE, menc_len, hj, Mark.enc, app41 nk ks hk, hc, hb, hw, kenc_okns, renc_okns hr, menc_okns]
  · simp [c19, Cd.in2, Cd.inner, Cd.body, S19b]

def S19 (nk : Bool) (ks : List Int) (nr : Bool) (rs : List Rnd) (m : Mem) (i : Nat) : St :=
  ⟨[(0, .lst none nk 1 (kenc ks)), (5, .lst (some 5) (marks ks (rs.take i)).isEmpty 5 (menc (marks ks (rs.take i)))), (10, .lst none nr 6 (renc rs)), (11, .int .i64 rs.length), (12, .int .i64 i)], [(5, (marks ks (rs.take i)).length, 100)], [], m⟩
theorem marks_take (ks : List Int) (rs : List Rnd) (i : Nat) (h : i < rs.length) : marks ks (rs.take (i + 1)) = marks ks (rs.take i) ++ sel ks rs[i].ms := by
  unfold marks
  rw [List.take_add_one, List.getElem?_eq_getElem h, List.flatMap_append]
  simp
theorem marks_len (ks : List Int) : ∀ (rs : List Rnd), (∀ r ∈ rs, r.ok) → (marks ks rs).length ≤ rs.length * 8
  | [], _ => by simp [marks]
  | r :: rs, h => by
    have h1 := marks_len ks rs fun x hx => h x (by simp [hx])
    have h2 := sel_len ks r.ms
    have h3 := (h r (by simp)).2.2.2
    simp only [marks, List.flatMap_cons, List.length_append, List.length_cons] at h1 ⊢
    omega
theorem loop19 (nk : Bool) (ks : List Int) (hk : ks.length < 1000000) (nr : Bool) (rs : List Rnd) (hr : ∀ r ∈ rs, r.ok) (hl : rs.length ≤ 20) (m : Mem) {st : St} (h0 : maskSt [0, 5, 10, 11, 12] [] [5] st = some (S19 nk ks nr rs m 0)) :
    loopW (maskSt [0, 5, 10, 11, 12] [] [5]) (Cd.run (app fns) c19.body.inner.body) st = c19.body.inner.body.run (app fns) (S19 nk ks nr rs m rs.length) := by
  refine loop_eq (S19 nk ks nr rs m) rs.length (fun i hi => ?_) ?_ h0
  · have hi' : (i : Int) < rs.length := by omega
    have hw := wrap_succ i (by omega)
    have hri := hr _ (List.getElem_mem hi)
    have hlen := marks_len ks (rs.take i) fun x hx => hr x (List.mem_of_mem_take hx)
    rw [List.length_take] at hlen
    unfold S19
    rw [marks_take ks rs i hi]
    generalize marks ks (rs.take i) = A at hlen
    have hin := fun st => @loop19b nk ks hk nr rs hr m A (by omega) i hi (by omega) rs[i] hri.2.2.2 st
    simp only [c19, Cd.in2, Cd.inner, Cd.body, S19b, List.take_zero, List.take_length] at hin
    have e0 : sel ks [] = [] := rfl
    simp only [e0, List.append_nil] at hin
    obtain ⟨⟨p1, p2, p3⟩, ⟨q1, q2, q3⟩, ⟨r1, r2, r3⟩, _⟩ := hri
    simp [c19, Cd.in2, Cd.inner, Cd.body, hi', renc_getE, renc_len, hi, Rnd.enc, p2, q2, r2, menc_len, hin, kenc_okns, renc_okns hr, menc_okns, hw]
  · simp [c19, Cd.in2, Cd.inner, Cd.body, S19]

theorem app19 (nk : Bool) (ks : List Int) (hk : ks.length < 1000000) (nr : Bool) (rs : List Rnd) (hr : ∀ r ∈ rs, r.ok) (hl : rs.length ≤ 20) (m : Mem) :
    app fns (.fn 19 []) [.lst none nk 1 (kenc ks), .lst none nr 6 (renc rs)] m = some (.lst none (marks ks rs).isEmpty 5 (menc (marks ks rs)), m) := by
  rw [app_fn fns h19 rfl]
  have hin := fun st => @loop19 nk ks hk nr rs hr hl m st
  simp only [c19, Cd.inner, Cd.body, S19, List.take_zero, List.take_length] at hin
  have e0 : marks ks [] = [] := rfl
  have e1 : menc [] = [] := rfl
  simp only [e0, e1] at hin
  simp [c19, renc_len, hin, kenc_okns, renc_okns hr, menc_deps]
end Go.Proofs.Ytbbpkkeaddbcnaa.ZIM.QM
