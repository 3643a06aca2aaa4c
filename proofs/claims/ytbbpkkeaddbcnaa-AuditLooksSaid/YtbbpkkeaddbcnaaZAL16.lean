/- AuditLooks: how spoilt a window is, by the reference. -/
import Derived.Test.YtbbpkkeaddbcnaaZAL15
set_option linter.unusedSimpArgs false
set_option linter.unusedVariables false
namespace Go.Proofs.Ytbbpkkeaddbcnaa.ZIM.AL
open Go.Proofs.Ytbbpkkeaddbcnaa.ZIM Go.RowKit

theorem h51 : fns 51 = some c51 := rfl
theorem h30 : fns 30 = some c30 := rfl
def offs (x : Link) (rs : List Rnd) (id t : Int) (c : Came) : Bool := c.f.id == id && decide (waited x t c rs < 0)
def inWin (a b : Int) (r : Rnd) : Bool := tick r.t && (!decide (r.t < a) && !decide (r.t > b))
def oneR (x : Link) (rs : List Rnd) (id a b : Int) (r : Rnd) : Bool := inWin a b r && r.cs.any (offs x rs id r.t)
section
variable (x : Link) (id a b : Int) (nr : Bool) (rs : List Rnd) (hk : ∀ r ∈ rs, r.ok ∧ r.cs.length ≤ 4 ∧ r.ms.length ≤ 5) (hl : rs.length ≤ 1000) (m : Mem)
def S51b (i : Nat) (j : Nat) : St :=
  ⟨[(1, .int .i64 id), (2, .int .i64 a), (3, .int .i64 b), (4, .lst none nr 6 (encs Rnd.enc rs)), (5, .ptr m.length 5 0), (11, .int .i64 i), (12, .int .i64 j)], [], [(5, x.cells)], m⟩
include hk hl in
theorem body51b (i : Nat) (hi : i < rs.length) (j : Nat) (hj : j < rs[i].cs.length) (hs : offs x rs id rs[i].t rs[i].cs[j] = true) :
    Ends (fun e st => e = .ret ∧ get st.f 10 = some (.bool true) ∧ st.m = m) (c51.body.in2.body.run (app fns) (S51b x id a b nr rs m i j)) := by
  obtain ⟨⟨⟨p1, p2, p3⟩, q1, q2, q3⟩, h4, h5⟩ := hk _ (List.getElem_mem hi)
  have hj' : (j : Int) < rs[i].cs.length := by omega
  have hds : ∀ a, PV.deps a (encs Rnd.enc rs) = true := encs_deps fun r h => Rnd.data (hk r h).1
  have h49 := fun m => app49 x rs[i].t rs[i].cs[j] nr rs (hk5 rs hk) hl m
  simp only [Link.enc, Came.enc] at h49
  unfold offs at hs
  simp only [Bool.and_eq_true, decide_eq_true_eq] at hs
  obtain ⟨h1, h2⟩ := hs
  simp [c51, Cd.in2, Cd.inner, Cd.body, S51b, hj', hj, hi, encs_getE, Rnd.enc, p2, q2, p3, q3, Came.enc, Link.cells, h49, h1, h2, hds, splice, Ends]
include hk hl in
theorem loop51b (i : Nat) (hi : i < rs.length) (n : Nat) (hn : n ≤ rs[i].cs.length) (hs : ∀ j (hj : j < rs[i].cs.length), j < n → offs x rs id rs[i].t rs[i].cs[j] = false) (he : ∀ hj : n < rs[i].cs.length, offs x rs id rs[i].t rs[i].cs[n] = true)
    {st : St} (h0 : maskSt [1, 2, 3, 4, 5, 11, 12] [5] [] st = some (S51b x id a b nr rs m i 0)) :
    loopW (maskSt [1, 2, 3, 4, 5, 11, 12] [5] []) (Cd.run (app fns) c51.body.in2.body) st = c51.body.in2.body.run (app fns) (S51b x id a b nr rs m i n) := by
  obtain ⟨⟨⟨p1, p2, p3⟩, q1, q2, q3⟩, h4, h5⟩ := hk _ (List.getElem_mem hi)
  have hrs := ks_okns5 rs (hk5 rs hk)
  have hds : ∀ a, PV.deps a (encs Rnd.enc rs) = true := encs_deps fun r h => Rnd.data (hk r h).1
  refine loop_eq (S51b x id a b nr rs m i) n (fun j hj => ?_) ?_ h0
  · have hj1 : j < rs[i].cs.length := by omega
    have hj' : (j : Int) < rs[i].cs.length := by omega
    have hw := wrap_succ j (by omega)
    have h49 := fun m => app49 x rs[i].t rs[i].cs[j] nr rs (hk5 rs hk) hl m
    simp only [Link.enc, Came.enc] at h49
    have hs1 := hs j hj1 hj
    unfold offs at hs1
    cases h1 : (rs[i].cs[j].f.id == id) with
    | false => simp [c51, Cd.in2, Cd.inner, Cd.body, S51b, hj', hj1, hi, encs_getE, Rnd.enc, p2, q2, p3, q3, Came.enc, Link.cells, h49, h1, hrs, hw, splice]
    | true =>
      simp only [h1, Bool.true_and, decide_eq_false_iff_not] at hs1
      simp [c51, Cd.in2, Cd.inner, Cd.body, S51b, hj', hj1, hi, encs_getE, Rnd.enc, p2, q2, p3, q3, Came.enc, Link.cells, h49, h1, hs1, hrs, hds, hw, splice]
  · by_cases hj : n < rs[i].cs.length
    · obtain ⟨e, st, h, h2, _⟩ := (body51b x id a b nr rs hk hl m i hi n hj (he hj)).get
      rw [h]
      cases e <;> first | trivial | exact absurd rfl h2
    · have : n = rs[i].cs.length := by omega
      subst this
      simp [c51, Cd.in2, Cd.inner, Cd.body, S51b, hi, encs_getE, Rnd.enc, p2, q2, p3, q3]
theorem any_first {α : Type} (p : α → Bool) (l : List α) : ∃ n, n ≤ l.length ∧ (∀ j (hj : j < l.length), j < n → p l[j] = false) ∧ (∀ hj : n < l.length, p l[n] = true) ∧ (l.any p = true ↔ n < l.length) := by
  induction l with
  | nil => exact ⟨0, Nat.le_refl _, fun j hj => by simp at hj, fun hj => by simp at hj, by simp⟩
  | cons x r ih =>
    by_cases hx : p x = true
    · exact ⟨0, by simp, fun j hj h => by omega, fun _ => hx, by simp [hx]⟩
    · obtain ⟨n, h1, h2, h3, h4⟩ := ih
      refine ⟨n + 1, by simpa using h1, fun j hj h => ?_, fun hj => ?_, ?_⟩
      · cases j with
        | zero => simpa using hx
        | succ j => exact h2 j (by simpa using hj) (by omega)
      · exact h3 (by simpa using hj)
      · simp [hx, h4]
def S51 (i : Nat) : St :=
  ⟨[(1, .int .i64 id), (2, .int .i64 a), (3, .int .i64 b), (4, .lst none nr 6 (encs Rnd.enc rs)), (5, .ptr m.length 5 0), (11, .int .i64 i)], [], [(5, x.cells)], m⟩
include hk hl in
theorem body51 (i : Nat) (hi : i < rs.length) (hs : oneR x rs id a b rs[i] = true) :
    Ends (fun e st => e = .ret ∧ get st.f 10 = some (.bool true) ∧ st.m = m) (c51.body.inner.body.run (app fns) (S51 x id a b nr rs m i)) := by
  obtain ⟨n, n1, n2, n3, n4⟩ := any_first (offs x rs id rs[i].t) rs[i].cs
  have hin := fun st => @loop51b x id a b nr rs hk hl m i hi n n1 n2 n3 st
  simp only [oneR, inWin, Bool.and_eq_true, Bool.not_eq_true', decide_eq_false_iff_not] at hs
  obtain ⟨⟨ht, hA, hB⟩, hC⟩ := hs
  have hnl := n4.1 hC
  have hb := body51b x id a b nr rs hk hl m i hi n hnl (n3 hnl)
  obtain ⟨hok, h4, h5⟩ := hk _ (List.getElem_mem hi)
  have h45 := fun m => app45 rs[i] hok m
  obtain ⟨⟨p1, p2, p3⟩, q1, q2, q3⟩ := hok
  simp only [Rnd.enc] at h45
  have hi' : (i : Int) < rs.length := by omega
  have hrs := ks_okns5 rs (hk5 rs hk)
  obtain ⟨e, st, g1, g2, rfl, g4, g5⟩ := hb.get
  have hin2 := fun st' h => (hin st' h).trans g1
  simp only [c51, Cd.in2, Cd.inner, Cd.body, S51b, Link.cells] at hin2
  simp [c51, Cd.in2, Cd.inner, Cd.body, S51, hi', hi, encs_getE, Rnd.enc, p2, q2, p3, q3, Link.cells, hin2, ht, hA, hB, h45, hrs, Ends, g4, g5]
include hk hl in
theorem loop51 (n : Nat) (hn : n ≤ rs.length) (hs : ∀ j (hj : j < rs.length), j < n → oneR x rs id a b rs[j] = false) (he : ∀ hj : n < rs.length, oneR x rs id a b rs[n] = true) {st : St} (h0 : maskSt [1, 2, 3, 4, 5, 11] [5] [] st = some (S51 x id a b nr rs m 0)) :
    loopW (maskSt [1, 2, 3, 4, 5, 11] [5] []) (Cd.run (app fns) c51.body.inner.body) st = c51.body.inner.body.run (app fns) (S51 x id a b nr rs m n) := by
  refine loop_eq (S51 x id a b nr rs m) n (fun i hi => ?_) ?_ h0
  · have hi1 : i < rs.length := by omega
    obtain ⟨hok, h4, h5⟩ := hk _ (List.getElem_mem hi1)
    have h45 := fun m => app45 rs[i] hok m
    obtain ⟨⟨p1, p2, p3⟩, q1, q2, q3⟩ := hok
    simp only [Rnd.enc] at h45
    have hi' : (i : Int) < rs.length := by omega
    have hrs := ks_okns5 rs (hk5 rs hk)
    have hw := wrap_succ i (by omega)
    have h1 := hs i hi1 hi
    obtain ⟨n, n1, n2, n3, n4⟩ := any_first (offs x rs id rs[i].t) rs[i].cs
    have hin := fun st => @loop51b x id a b nr rs hk hl m i hi1 n n1 n2 n3 st
    simp only [oneR, inWin] at h1
    cases ht : tick rs[i].t with
    | false => simp [c51, Cd.in2, Cd.inner, Cd.body, S51, hi', hi1, encs_getE, Rnd.enc, p2, q2, p3, q3, Link.cells, ht, h45, hrs, hw]
    | true =>
      by_cases hA : rs[i].t < a
      · simp [c51, Cd.in2, Cd.inner, Cd.body, S51, hi', hi1, encs_getE, Rnd.enc, p2, q2, p3, q3, Link.cells, ht, hA, h45, hrs, hw]
      · by_cases hB : rs[i].t > b
        · simp [c51, Cd.in2, Cd.inner, Cd.body, S51, hi', hi1, encs_getE, Rnd.enc, p2, q2, p3, q3, Link.cells, ht, hA, hB, h45, hrs, hw]
        · have hC : ¬ rs[i].cs.any (offs x rs id rs[i].t) = true := by intro h; simp [ht, hA, hB, h] at h1
          have hnl : n = rs[i].cs.length := by
            have := mt n4.2 hC; omega
          subst hnl
          simp only [c51, Cd.in2, Cd.inner, Cd.body, S51b, Link.cells] at hin
          simp [c51, Cd.in2, Cd.inner, Cd.body, S51, hi', hi1, encs_getE, Rnd.enc, p2, q2, p3, q3, Link.cells, ht, hA, hB, h45, hrs, hw, hin]
  · by_cases hj : n < rs.length
    · obtain ⟨e, st, h, h2, _⟩ := (body51 x id a b nr rs hk hl m n hj (he hj)).get
      rw [h]
      cases e <;> first | trivial | exact absurd rfl h2
    · have : n = rs.length := by omega
      subst this
      simp [c51, Cd.in2, Cd.inner, Cd.body, S51]
include hk hl in
theorem app51 : app fns (.fn 51 []) [x.enc, .int .i64 id, .int .i64 a, .int .i64 b, .lst none nr 6 (encs Rnd.enc rs)] m = some (.bool (rs.any (oneR x rs id a b)), m) := by
  rw [app_fn fns h51 rfl]
  obtain ⟨n, n1, n2, n3, n4⟩ := any_first (oneR x rs id a b) rs
  have hin := fun st => @loop51 x id a b nr rs hk hl m n n1 n2 n3 st
  have hrs := ks_okns5 rs (hk5 rs hk)
  by_cases hn : n < rs.length
  · obtain ⟨e, st, g1, g2, rfl, g4, g5⟩ := (body51 x id a b nr rs hk hl m n hn (n3 hn)).get
    have hin2 := fun st' h => (hin st' h).trans g1
    simp only [c51, Cd.inner, Cd.body, S51, Link.cells] at hin2
    have ha := n4.2 hn
    simp [c51, Link.enc, hin2, hrs, g4, g5, ha, -List.any_eq_true]
  · have hnl : n = rs.length := by omega
    subst hnl
    have ha : rs.any (oneR x rs id a b) = false := by
      cases h : rs.any (oneR x rs id a b) with
      | false => rfl
      | true => exact absurd (n4.1 h) hn
    simp only [c51, Cd.inner, Cd.body, S51, Link.cells] at hin
    simp [c51, Link.enc, hin, hrs, ha, -List.any_eq_false]
def refSpoilt (x : Link) (a b : Int) (rs : List Rnd) : Int :=
  (if rs.any (oneR x rs x.plain a b) = true then 1 else 0) + (if (x.turned != x.plain && rs.any (oneR x rs x.turned a b)) = true then 1 else 0)
include hk hl in
theorem app30 : app fns (.fn 30 []) [x.enc, .int .i64 a, .int .i64 b, .lst none nr 6 (encs Rnd.enc rs)] m = some (.int .i64 (refSpoilt x a b rs), m) := by
  rw [app_fn fns h30 rfl]
  have h1 := fun m => app51 x x.plain a b nr rs hk hl m
  have h2 := fun m => app51 x x.turned a b nr rs hk hl m
  simp only [Link.enc] at h1 h2
  have w1 : IntKind.i64.wrap 1 = 1 := by decide
  have w2 : IntKind.i64.wrap 2 = 2 := by decide
  unfold refSpoilt
  generalize rs.any (oneR x rs x.plain a b) = A at h1
  generalize rs.any (oneR x rs x.turned a b) = B at h2
  cases ht : (x.turned != x.plain) <;> cases A <;> cases B <;> simp [c30, Link.enc, h1, h2, ht, w1, w2]
end
end Go.Proofs.Ytbbpkkeaddbcnaa.ZIM.AL
