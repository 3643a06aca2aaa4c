/- Whether an entry is mapped twice, or a safe value is mapped: the two loops. -/
import Derived.Test.YtmffcpiffkclgaaZEY1
set_option linter.unusedSimpArgs false
set_option linter.unusedVariables false
set_option maxRecDepth 10000
namespace Go.Proofs.Ytmffcpiffkclgaa.ZJM.DC
open Go.Proofs.Ytmffcpiffkclgaa.ZJM Go.RowKit

def keq (f : Nat → Int) (i k : Nat) : Bool := (slF f i).i == (slF f k).i && (slF f i).s == (slF f k).s
def ieq (f : Nat → Int) (i k : Nat) : Bool := (slF f i).s == (slF f k).s && IntKind.i64.wrap ((slF f i).i - 256) == (slF f k).i
def nM (f : Nat → Int) : Nat := min (f 5).toNat 8
def twF (f : Nat → Int) : Bool := (List.range (nM f)).any fun i => (List.range i).any fun k => keq f i k
def inF (f : Nat → Int) : Bool := (List.range (nM f)).any fun i => (List.range (nM f)).any fun k => ieq f i k
theorem any_false {n : Nat} {p : Nat → Bool} : (List.range n).any p = false ↔ ∀ i, i < n → p i = false := by
  rw [List.any_eq_false]
  simp only [List.mem_range, Bool.not_eq_true]
section
variable (f : Nat → Int)
def S53 (f : Nat → Int) (t : Nat) : St := ⟨[(1, .ptr 0 1 [] 0), (3, .int .i64 t)], [], [(1, CF f 30)], [], []⟩
def S53i (f : Nat → Int) (i k : Nat) : St := ⟨[(1, .ptr 0 1 [] 0), (3, .int .i64 i), (4, .int .i64 k)], [], [(1, CF f 30)], [], []⟩
theorem two_at (t : Nat) (h : t < 8) : List.take 2 (List.drop (6 + t * 3) (CF f 30)) = [.int .i64 (slF f t).i, .int .i64 (slF f t).s] := by
  rw [CF_two f 30 _ (by omega), show 6 + t * 3 = t * 3 + 6 by omega]; rfl
theorem get_i (t : Nat) (h : t < 8) : (CF f 30)[6 + t * 3]? = some (.int .i64 (slF f t).i) := by
  rw [CF_get f 30 (by omega), show 6 + t * 3 = t * 3 + 6 by omega]; rfl
theorem get_s (t : Nat) (h : t < 8) : (CF f 30)[6 + t * 3 + 1]? = some (.int .i64 (slF f t).s) := by
  rw [CF_get f 30 (by omega), show 6 + t * 3 = t * 3 + 6 by omega]; rfl
theorem inner53 (i : Nat) (hi : i < 8) : ∃ e st', loopW (maskSt [1, 3, 4] [1] [] []) (Cd.run (app E) cx53.body.in2) (S53i f i 0) = some (e, st') ∧ e ≠ .normal ∧
    ((e = .exit 2 ∧ (∀ k, k < i → keq f i k = false) ∧ get st'.f 1 = some (.ptr 0 1 [] 0) ∧ get st'.f 3 = some (.int .i64 i) ∧ st'.own = [(1, CF f 30)] ∧ st'.m = [] ∧ st'.tops = [] ∧ st'.dead = []) ∨
     (e = .ret ∧ (∃ k, k < i ∧ keq f i k = true) ∧ get st'.f 2 = some (.bool true) ∧ st'.m = [])) := by
  have hS0 : maskSt [1, 3, 4] [1] [] [] (S53i f i 0) = some (S53i f i 0) := by simp [-isPlace, -moves, S53i]
  refine loop_inv (fun t S => (∀ k, k < t → keq f i k = false) ∧ S = S53i f i t) i _ hS0 ⟨fun k hk => by omega, rfl⟩ ?_ ?_
  · rintro t S ht ⟨hall, rfl⟩
    have hti : (t : Int) < i := by omega
    have hw := wrap_succ t (by omega)
    have hi8 : (i : Int) < 8 := by omega
    have ht8 : (t : Int) < 8 := by omega
    have a1 := two_at f i hi
    have a2 := two_at f t (by omega)
    have b1 : 6 + i * 3 + 2 ≤ 30 := by omega
    have b2 : 6 + t * 3 + 2 ≤ 30 := by omega
    have hk : keq f i t = ((slF f i).i == (slF f t).i && (slF f i).s == (slF f t).s) := rfl
    cases hq : keq f i t with
    | true =>
      refine .inr ?_
      rw [hq] at hk
      have hk' := hk.symm
      simp only [Bool.and_eq_true] at hk'
      obtain ⟨c1, c2⟩ := hk'
      simp [-isPlace, -moves, cx53, Cd.in2, Cd.inner, Cd.body, S53i, hti, hi, hi8, ht8, a1, a2, b1, b2, c1, c2, EndsL]
      exact ⟨t, ht, hq⟩
    | false =>
      rw [hq] at hk
      have hG : Goes (maskSt [1, 3, 4] [1] [] []) (S53i f i (t + 1)) (Cd.run (app E) cx53.body.in2 (S53i f i t)) := by
        generalize slF f i = x at *
        generalize slF f t = y at *
        cases c1 : (x.i == y.i) with
        | false => simp [-isPlace, -moves, cx53, Cd.in2, Cd.inner, Cd.body, S53i, hti, hi, hi8, ht8, a1, a2, b1, b2, c1, hw]
        | true =>
          rw [c1, Bool.true_and] at hk
          have c2 : (x.s == y.s) = false := hk.symm
          simp [-isPlace, -moves, cx53, Cd.in2, Cd.inner, Cd.body, S53i, hti, hi, hi8, ht8, a1, a2, b1, b2, c1, c2, hw]
      obtain ⟨st2, q1, q2⟩ := hG.get
      refine .inl ⟨st2, _, q1, q2, fun k hk => ?_, rfl⟩
      by_cases e : k = t
      · rw [e]; exact hq
      · exact hall k (by omega)
  · rintro S ⟨hall, rfl⟩
    simp [cx53, Cd.in2, Cd.inner, Cd.body, S53i, EndsL]
    exact hall
theorem outer53 : ∃ e st', loopW (maskSt [1, 3] [1] [] []) (Cd.run (app E) cx53.body.inner.body) (S53 f 0) = some (e, st') ∧ e ≠ .normal ∧
    ((e = .exit 0 ∧ twF f = false ∧ st'.m = []) ∨ (e = .ret ∧ twF f = true ∧ get st'.f 2 = some (.bool true) ∧ st'.m = [])) := by
  have hS0 : maskSt [1, 3] [1] [] [] (S53 f 0) = some (S53 f 0) := by simp [-isPlace, -moves, S53]
  have k5 := CF_get f 30 (k := 5) (by omega)
  refine loop_inv (fun t S => (∀ i, i < t → ∀ k, k < i → keq f i k = false) ∧ S = S53 f t) (nM f) _ hS0 ⟨fun k hk => by omega, rfl⟩ ?_ ?_
  · rintro t S ht ⟨hall, rfl⟩
    have htn : t < nM f := ht
    unfold nM at ht
    have ht8 : t < 8 := by omega
    have ht8i : (t : Int) < 8 := by omega
    have htN : (t : Int) < f 5 := by omega
    have hw := wrap_succ t (by omega)
    obtain ⟨e, ⟨f', tops', own', dead', m'⟩, q1, q2, q3⟩ := inner53 f t ht8
    have hSi : maskSt [1, 3, 4] [1] [] [] (S53i f t 0) = some (S53i f t 0) := by simp [-isPlace, -moves, S53i]
    have hl := loop_at hSi q1
    simp only [cx53, Cd.in2, Cd.inner, Cd.body, S53i] at hl
    rcases q3 with ⟨rfl, hno, g1, g3, go, gm, gt, gd⟩ | ⟨rfl, ⟨k, hk1, hk2⟩, g2, gm⟩
    · simp only at g1 g3 go gm gt gd
      subst go gm gt gd
      have hG : Goes (maskSt [1, 3] [1] [] []) (S53 f (t + 1)) (Cd.run (app E) cx53.body.inner.body (S53 f t)) := by
        simp [-isPlace, -moves, cx53, Cd.inner, Cd.body, S53, htN, ht8i, k5, hl, g1, g3, hw]
      obtain ⟨st2, p1, p2⟩ := hG.get
      refine .inl ⟨st2, _, p1, p2, fun i hi k hk => ?_, rfl⟩
      by_cases e : i = t
      · subst e; exact hno k hk
      · exact hall i (by omega) k hk
    · simp only at g2 gm
      subst gm
      have htw : twF f = true := by
        unfold twF
        rw [List.any_eq_true]
        refine ⟨t, List.mem_range.2 htn, ?_⟩
        rw [List.any_eq_true]
        exact ⟨k, List.mem_range.2 hk1, hk2⟩
      rw [htw]
      refine .inr ?_
      simp [-isPlace, -moves, cx53, Cd.inner, Cd.body, S53, htN, ht8i, k5, hl, g2, EndsL]
  · rintro S ⟨hall, rfl⟩
    have htw : twF f = false := any_false.2 fun i hi => any_false.2 fun k hk => hall i hi k hk
    rw [htw]
    by_cases h8 : (f 5).toNat ≤ 8
    · have e : nM f = (f 5).toNat := by unfold nM; omega
      have hN : ¬ ((nM f : Nat) : Int) < f 5 := by omega
      generalize nM f = n at *
      simp [-isPlace, -moves, cx53, Cd.inner, Cd.body, S53, k5, hN, EndsL]
    · have e : nM f = 8 := by unfold nM; omega
      have hN : (8 : Int) < f 5 := by omega
      rw [e]
      simp [-isPlace, -moves, cx53, Cd.inner, Cd.body, S53, k5, hN, EndsL]
theorem appx53 : app E false (.fn 53 []) [.agg (CF f 30)] [] = some (.bool (twF f), emptyBag, []) := by
  obtain ⟨e, ⟨f', tops', own', dead', m'⟩, q1, q2, q3⟩ := outer53 f
  have hS0 : maskSt [1, 3] [1] [] [] (S53 f 0) = some (S53 f 0) := by simp [-isPlace, -moves, S53]
  have hl := loop_at hS0 q1
  simp only [cx53, Cd.inner, Cd.body, S53] at hl
  rw [app_fn E rfl hx53 rfl]
  rcases q3 with ⟨rfl, hz, gm⟩ | ⟨rfl, hz, g2, gm⟩
  · simp only at gm
    subst gm
    rw [hz]
    simp [-isPlace, -moves, cx53, hl]
  · simp only at gm g2
    subst gm
    rw [hz]
    simp [-isPlace, -moves, cx53, hl, g2]
end
end Go.Proofs.Ytmffcpiffkclgaa.ZJM.DC

set_option linter.unusedSimpArgs false
set_option linter.unusedVariables false
set_option maxRecDepth 10000
namespace Go.Proofs.Ytmffcpiffkclgaa.ZJM.DC
open Go.Proofs.Ytmffcpiffkclgaa.ZJM Go.RowKit

section
variable (f : Nat → Int)
theorem nM_at {f : Nat → Int} {t : Nat} (h : t < nM f) : t < 8 ∧ (t : Int) < 8 ∧ (t : Int) < f 5 := by unfold nM at h; omega
theorem inner55 (i : Nat) (hi : i < 8) : ∃ e st', loopW (maskSt [1, 3, 4] [1] [] []) (Cd.run (app E) cx55.body.in2) (S53i f i 0) = some (e, st') ∧ e ≠ .normal ∧
    ((e = .exit 2 ∧ (∀ k, k < nM f → ieq f i k = false) ∧ get st'.f 1 = some (.ptr 0 1 [] 0) ∧ get st'.f 3 = some (.int .i64 i) ∧ st'.own = [(1, CF f 30)] ∧ st'.m = [] ∧ st'.tops = [] ∧ st'.dead = []) ∨
     (e = .ret ∧ (∃ k, k < nM f ∧ ieq f i k = true) ∧ get st'.f 2 = some (.bool true) ∧ st'.m = [])) := by
  have hS0 : maskSt [1, 3, 4] [1] [] [] (S53i f i 0) = some (S53i f i 0) := by simp [-isPlace, -moves, S53i]
  have k5 := CF_get f 30 (k := 5) (by omega)
  refine loop_inv (fun t S => (∀ k, k < t → ieq f i k = false) ∧ S = S53i f i t) (nM f) _ hS0 ⟨fun k hk => by omega, rfl⟩ ?_ ?_
  · rintro t S ht ⟨hall, rfl⟩
    obtain ⟨ht8n, ht8, htN⟩ := nM_at ht
    have hw := wrap_succ t (by omega)
    have hi8 : (i : Int) < 8 := by omega
    have a1 := get_i f i hi
    have a2 := get_s f i hi
    have a3 := get_i f t ht8n
    have a4 := get_s f t ht8n
    have b1 : 6 + i * 3 < 30 := by omega
    have b2 : 6 + t * 3 < 30 := by omega
    have b3 : 6 + i * 3 + 1 < 30 := by omega
    have b4 : 6 + t * 3 + 1 < 30 := by omega
    have d1 : ∀ h, (CF f 30)[6 + i * 3]'h = .int .i64 (slF f i).i := fun h => (List.getElem?_eq_some_iff.1 a1).2
    have d2 : ∀ h, (CF f 30)[6 + i * 3 + 1]'h = .int .i64 (slF f i).s := fun h => (List.getElem?_eq_some_iff.1 a2).2
    have d3 : ∀ h, (CF f 30)[6 + t * 3]'h = .int .i64 (slF f t).i := fun h => (List.getElem?_eq_some_iff.1 a3).2
    have d4 : ∀ h, (CF f 30)[6 + t * 3 + 1]'h = .int .i64 (slF f t).s := fun h => (List.getElem?_eq_some_iff.1 a4).2
    have hk : ieq f i t = ((slF f i).s == (slF f t).s && IntKind.i64.wrap ((slF f i).i - 256) == (slF f t).i) := rfl
    cases hq : ieq f i t with
    | true =>
      refine .inr ?_
      rw [hq] at hk
      have hk' := hk.symm
      simp only [Bool.and_eq_true] at hk'
      obtain ⟨c1, c2⟩ := hk'
      simp [-isPlace, -moves, -CF_getE, cx55, Cd.in2, Cd.inner, Cd.body, S53i, k5, CF_getE f 30 (k := 5), ht8, htN, hi, hi8, ht8n, a1, a2, a3, a4, d1, d2, d3, d4, b1, b2, b3, b4, c1, c2, EndsL]
      exact ⟨t, ht, hq⟩
    | false =>
      rw [hq] at hk
      have hG : Goes (maskSt [1, 3, 4] [1] [] []) (S53i f i (t + 1)) (Cd.run (app E) cx55.body.in2 (S53i f i t)) := by
        generalize slF f i = x at *
        generalize slF f t = y at *
        cases c1 : (x.s == y.s) with
        | false => simp [-isPlace, -moves, -CF_getE, cx55, Cd.in2, Cd.inner, Cd.body, S53i, k5, CF_getE f 30 (k := 5), ht8, htN, hi, hi8, ht8n, a1, a2, a3, a4, d1, d2, d3, d4, b1, b2, b3, b4, c1, hw]
        | true =>
          rw [c1, Bool.true_and] at hk
          have c2 := hk.symm
          simp [-isPlace, -moves, -CF_getE, cx55, Cd.in2, Cd.inner, Cd.body, S53i, k5, CF_getE f 30 (k := 5), ht8, htN, hi, hi8, ht8n, a1, a2, a3, a4, d1, d2, d3, d4, b1, b2, b3, b4, c1, c2, hw]
      obtain ⟨st2, q1, q2⟩ := hG.get
      refine .inl ⟨st2, _, q1, q2, fun k hk => ?_, rfl⟩
      by_cases e : k = t
      · rw [e]; exact hq
      · exact hall k (by omega)
  · rintro S ⟨hall, rfl⟩
    by_cases h8 : (f 5).toNat ≤ 8
    · have hN : ¬ ((nM f : Nat) : Int) < f 5 := by unfold nM; omega
      generalize nM f = n at *
      simp [-isPlace, -moves, cx55, Cd.in2, Cd.inner, Cd.body, S53i, k5, hN, EndsL]
      exact hall
    · have e : nM f = 8 := by unfold nM; omega
      have hN : (8 : Int) < f 5 := by omega
      rw [e] at hall ⊢
      simp [-isPlace, -moves, cx55, Cd.in2, Cd.inner, Cd.body, S53i, k5, hN, EndsL]
      exact hall
theorem outer55 : ∃ e st', loopW (maskSt [1, 3] [1] [] []) (Cd.run (app E) cx55.body.inner.body) (S53 f 0) = some (e, st') ∧ e ≠ .normal ∧
    ((e = .exit 0 ∧ inF f = false ∧ st'.m = []) ∨ (e = .ret ∧ inF f = true ∧ get st'.f 2 = some (.bool true) ∧ st'.m = [])) := by
  have hS0 : maskSt [1, 3] [1] [] [] (S53 f 0) = some (S53 f 0) := by simp [-isPlace, -moves, S53]
  have k5 := CF_get f 30 (k := 5) (by omega)
  refine loop_inv (fun t S => (∀ i, i < t → ∀ k, k < nM f → ieq f i k = false) ∧ S = S53 f t) (nM f) _ hS0 ⟨fun k hk => by omega, rfl⟩ ?_ ?_
  · rintro t S ht ⟨hall, rfl⟩
    obtain ⟨ht8, ht8i, htN⟩ := nM_at ht
    have hw := wrap_succ t (by omega)
    obtain ⟨e, ⟨f', tops', own', dead', m'⟩, q1, q2, q3⟩ := inner55 f t ht8
    have hSi : maskSt [1, 3, 4] [1] [] [] (S53i f t 0) = some (S53i f t 0) := by simp [-isPlace, -moves, S53i]
    have hl := loop_at hSi q1
    simp only [cx55, Cd.in2, Cd.inner, Cd.body, S53i] at hl
    rcases q3 with ⟨rfl, hno, g1, g3, go, gm, gt, gd⟩ | ⟨rfl, ⟨k, hk1, hk2⟩, g2, gm⟩
    · simp only at g1 g3 go gm gt gd
      subst go gm gt gd
      have hG : Goes (maskSt [1, 3] [1] [] []) (S53 f (t + 1)) (Cd.run (app E) cx55.body.inner.body (S53 f t)) := by
        simp [-isPlace, -moves, cx55, Cd.inner, Cd.body, S53, htN, ht8i, k5, hl, g1, g3, hw]
      obtain ⟨st2, p1, p2⟩ := hG.get
      refine .inl ⟨st2, _, p1, p2, fun i hi k hk => ?_, rfl⟩
      by_cases e : i = t
      · subst e; exact hno k hk
      · exact hall i (by omega) k hk
    · simp only at g2 gm
      subst gm
      have htw : inF f = true := by
        unfold inF
        rw [List.any_eq_true]
        refine ⟨t, List.mem_range.2 ht, ?_⟩
        rw [List.any_eq_true]
        exact ⟨k, List.mem_range.2 hk1, hk2⟩
      rw [htw]
      refine .inr ?_
      simp [-isPlace, -moves, cx55, Cd.inner, Cd.body, S53, htN, ht8i, k5, hl, g2, EndsL]
  · rintro S ⟨hall, rfl⟩
    have htw : inF f = false := any_false.2 fun i hi => any_false.2 fun k hk => hall i hi k hk
    rw [htw]
    by_cases h8 : (f 5).toNat ≤ 8
    · have hN : ¬ ((nM f : Nat) : Int) < f 5 := by unfold nM; omega
      generalize nM f = n at *
      simp [-isPlace, -moves, cx55, Cd.inner, Cd.body, S53, k5, hN, EndsL]
    · have e : nM f = 8 := by unfold nM; omega
      have hN : (8 : Int) < f 5 := by omega
      rw [e]
      simp [-isPlace, -moves, cx55, Cd.inner, Cd.body, S53, k5, hN, EndsL]
theorem appx55 : app E false (.fn 55 []) [.agg (CF f 30)] [] = some (.bool (inF f), emptyBag, []) := by
  obtain ⟨e, ⟨f', tops', own', dead', m'⟩, q1, q2, q3⟩ := outer55 f
  have hS0 : maskSt [1, 3] [1] [] [] (S53 f 0) = some (S53 f 0) := by simp [-isPlace, -moves, S53]
  have hl := loop_at hS0 q1
  simp only [cx55, Cd.inner, Cd.body, S53] at hl
  rw [app_fn E rfl hx55 rfl]
  rcases q3 with ⟨rfl, hz, gm⟩ | ⟨rfl, hz, g2, gm⟩
  · simp only at gm
    subst gm
    rw [hz]
    simp [-isPlace, -moves, cx55, hl]
  · simp only at gm g2
    subst gm
    rw [hz]
    simp [-isPlace, -moves, cx55, hl, g2]
end
end Go.Proofs.Ytmffcpiffkclgaa.ZJM.DC

set_option linter.unusedSimpArgs false
set_option linter.unusedVariables false
set_option maxRecDepth 10000
namespace Go.Proofs.Ytmffcpiffkclgaa.ZJM.DC
open Go.Proofs.Ytmffcpiffkclgaa.ZJM Go.RowKit

theorem flat_congr {L : List Slot} {g h : Slot → List Int} (hx : ∀ x ∈ L, g x = h x) : L.flatMap g = L.flatMap h := by
  induction L with
  | nil => rfl
  | cons x L ih => rw [List.flatMap_cons, List.flatMap_cons, hx x (by simp), ih fun y hy => hx y (by simp [hy])]
theorem putR_other {r : RD} {i s : Int} {b : List Int} {y : Slot} (h : ¬ (y.i = i ∧ y.s = s)) : slotB (putR r i s b) y = slotB r y := by
  unfold putR
  split
  · rw [slotB_hold, if_neg fun hh => h ⟨hh.1, hh.2.1⟩]
  · rfl
theorem puts_other (q : List (Slot × List Int)) (r : RD) (y : Slot) (h : ∀ x ∈ q, ¬ (y.i = x.1.i ∧ y.s = x.1.s)) : slotB (putsR r q) y = slotB r y := by
  induction q generalizing r with
  | nil => rfl
  | cons x q ih =>
    have e : putsR r (x :: q) = putsR (putR r x.1.i x.1.s x.2) q := rfl
    rw [e, ih _ fun z hz => h z (by simp [hz]), putR_other (h x (by simp))]
theorem skel_rel (r : RD) (f : Nat → Int) (b : List Int) : skel (relR r f b) = skel r := by
  unfold relR
  split
  · unfold unpR
    split
    · exact skel_puts _ _
    · rfl
  · rfl
theorem hasK_false {L : List Slot} {i s : Int} (h : hasK L i s = false) : ∀ x ∈ L, ¬ (i = x.i ∧ s = x.s) := by
  intro x hx hh
  unfold hasK at h
  rw [List.any_eq_false] at h
  have := h x hx
  simp [hh.1, hh.2] at this
def LM (f : Nat → Int) : List Slot := slsF f (nM f)
theorem LM_LF {f : Nat → Int} (h8 : f 5 ≤ 8) : LM f = LF f := by
  unfold LM LF nM
  congr 1
  omega
theorem rel_other {r : RD} {f : Nat → Int} {b : List Int} {y : Slot} (h : hasK (LM f) y.i y.s = false) : slotB (relR r f b) y = slotB r y := by
  unfold relR
  split
  · next hf =>
    rw [LM_LF (fitsI_check hf).2.1] at h
    unfold unpR
    split
    · refine puts_other _ _ _ fun x hx => ?_
      exact hasK_false h x.1 (List.of_mem_zip hx).1
    · rfl
  · rfl
theorem fits_skel {r r' : RD} (h : skel r' = skel r) (f : Nat → Int) : fitsI r' f = fitsI r f := by
  unfold fitsI
  rw [skel_check h]
/-- No two of them are one entry. -/
def Diff (L : List Slot) : Prop := L.Pairwise fun x y => ¬ (x.i = y.i ∧ x.s = y.s)
theorem puts_get (L : List Slot) (P : List (List Int)) (hlen : P.length = L.length) (r : RD) (hd : Diff L) (h : ∀ j (hj : j < L.length) (hp : j < P.length), oneA r L[j] = true ∧ fitB r L[j] P[j] = true) :
    catA (putsR r (L.zip P)) L = P.flatten := by
  induction L generalizing P r with
  | nil =>
    cases P with
    | nil => rfl
    | cons p P => simp at hlen
  | cons x L ih =>
    cases P with
    | nil => simp at hlen
    | cons p P =>
      simp only [List.length_cons, Nat.add_right_cancel_iff] at hlen
      unfold Diff at hd
      rw [List.pairwise_cons] at hd
      obtain ⟨h1, h2⟩ := h 0 (by simp) (by simp)
      simp only [List.getElem_cons_zero] at h1 h2
      obtain ⟨n, hn⟩ := one_find h1
      have hz := one_put h1 h2
      have hsk : skel (putR r x.i x.s p) = skel r := skel_put _ _ _ _
      have e : putsR r ((x :: L).zip (p :: P)) = putsR (putR r x.i x.s p) (L.zip P) := rfl
      have hx : slotB (putsR (putR r x.i x.s p) (L.zip P)) x = p := by
        rw [puts_other _ _ _ fun z hz2 => hd.1 z.1 (List.of_mem_zip hz2).1, slotB_put hz hn, if_pos ⟨rfl, rfl⟩]
      have hih := ih P hlen (putR r x.i x.s p) hd.2 fun j hj hp => by
        rw [skel_one hsk, skel_fit hsk]
        have := h (j + 1) (by simp; omega) (by simp; omega)
        simpa using this
      rw [e]
      unfold catA at hih ⊢
      rw [List.flatMap_cons, List.flatten_cons, hx, hih]
theorem parts_flat (L : List Slot) (hok : ∀ x ∈ L, x.n = 8 ∨ x.n = 16 ∨ x.n = 32) : ∀ (b : List Int) (acc : Int), (b.length : Int) + acc = szA acc L → (partsA b L).flatten = b := by
  induction L with
  | nil =>
    intro b acc h
    simp only [szA] at h
    have : b = [] := List.length_eq_zero_iff.1 (by omega)
    rw [this]; rfl
  | cons x L ih =>
    intro b acc h
    have hx := hok x (by simp)
    rw [szA, if_pos hx] at h
    have hge : ∀ (L : List Slot) (acc : Int), (∀ x ∈ L, x.n = 8 ∨ x.n = 16 ∨ x.n = 32) → acc ≤ szA acc L := by
      intro L
      induction L with
      | nil => intro acc _; simp [szA]
      | cons y L ih2 =>
        intro acc hy
        have hy1 := hy y (by simp)
        rw [szA, if_pos hy1]
        have := ih2 (acc + y.n / 8) fun z hz => hy z (by simp [hz])
        omega
    have h2 := hge L (acc + x.n / 8) fun y hy => hok y (by simp [hy])
    have hlen : (x.n / 8).toNat ≤ b.length := by omega
    rw [partsA, List.flatten_cons, ih (fun y hy => hok y (by simp [hy])) (b.drop (x.n / 8).toNat) (acc + x.n / 8) (by rw [List.length_drop]; omega)]
    exact List.take_append_drop _ _
theorem rel_ok {r : RD} {f : Nat → Int} {b : List Int} (h : relC r f b = 0) : fitsI r f = true ∧ checkA r (LF f) = 0 ∧ (b.length : Int) = sizeA (LF f) ∧ partsOK r b (LF f) = true ∧ relR r f b = putsR r ((LF f).zip (partsA b (LF f))) := by
  unfold relC at h
  by_cases hf : fitsI r f = true
  case neg => rw [if_neg hf] at h; simp at h
  rw [if_pos hf] at h
  have hu := h
  unfold unpC at h
  by_cases h1 : checkA r (LF f) = 0
  case neg => rw [if_neg h1] at h; simp at h
  rw [if_pos h1] at h
  by_cases h2 : (b.length : Int) = sizeA (LF f)
  case neg => rw [if_neg h2] at h; simp at h
  rw [if_pos h2] at h
  by_cases h3 : partsOK r b (LF f) = true
  case neg => rw [if_neg h3] at h; simp at h
  exact ⟨hf, h1, h2, h3, by rw [relR, if_pos hf, unpR, if_pos hu]⟩
theorem sz_ok {r : RD} {L : List Slot} (hr : r.ok) (hc : checkA r L = 0) : (∀ x ∈ L, x.n = 8 ∨ x.n = 16 ∨ x.n = 32) ∧ sizeA L = szA 0 L := by
  obtain ⟨h8, hc0⟩ := check_chk hc
  refine ⟨fun x hx => (oneA_ok hr (chk_each hc0 x hx)).1, ?_⟩
  rw [sizeA, if_neg (by omega)]
theorem tw_diff {f : Nat → Int} (h8 : f 5 ≤ 8) (h : twF f = false) : Diff (LF f) := by
  have hh := fun i hi k hk => any_false.1 (any_false.1 h i hi) k hk
  unfold Diff
  rw [List.pairwise_iff_getElem]
  intro k i hk hi hki
  rw [LF_get, LF_get]
  have hin : i < nM f := by rw [LF_len] at hi; unfold nM; omega
  have := hh i hin k hki
  unfold keq at this
  rintro ⟨e1, e2⟩
  rw [e1, e2] at this
  simp at this
/-- What was released is the value. -/
theorem rel_val {l : List Row} {c : Int} {r : RD} (hs : Sim l c r) {f : Nat → Int} {b : List Int} (h : relC r f b = 0) (htw : twF f = false) : valB (relR r f b) f = b := by
  obtain ⟨hf, hc, hlen, hp, he⟩ := rel_ok h
  have hf2 : fitsI (relR r f b) f = true := by rw [fits_skel (skel_rel r f b), hf]
  obtain ⟨h16, hsz⟩ := sz_ok hs.rok hc
  rw [valB, if_pos hf2, he, puts_get (LF f) (partsA b (LF f)) (partsA_len _ _) r (tw_diff (fitsI_check hf).2.1 htw) fun j hj hpj => ⟨chk_each (check_chk hc).2 _ (List.getElem_mem hj), parts_fit hp j hj hpj⟩]
  exact parts_flat (LF f) h16 b 0 (by rw [hlen, hsz]; omega)
theorem rel_len {l : List Row} {c : Int} {r : RD} {f : Nat → Int} {b : List Int} (h : relC r f b = 0) (hs2 : Sim l c (relR r f b)) : valE (relR r f b) f = 0 ∧ (valB (relR r f b) f).length = b.length := by
  obtain ⟨hf, hc, hlen, hp, he⟩ := rel_ok h
  have hf2 : fitsI (relR r f b) f = true := by rw [fits_skel (skel_rel r f b), hf]
  refine ⟨by rw [valE, if_pos hf2], ?_⟩
  have h1 := pack_size hs2 (LF f) (fits_pack hf2).2
  rw [(fits_pack hf2).1] at h1
  omega
/-- What has fallen is safe. -/
theorem fall_safe {l : List Row} {c : Int} {r : RD} (hs : Sim l c r) {f : Nat → Int} (h : relC r f (sfB r f) = 0) (htw : twF f = false) (hin : inF f = false) : isS (relR r f (sfB r f)) f = true := by
  obtain ⟨hf, hc, hlen, hp, he⟩ := rel_ok h
  have hsk := skel_rel r f (sfB r f)
  have hf2 : fitsI (relR r f (sfB r f)) f = true := by rw [fits_skel hsk, hf]
  have hv := rel_val hs h htw
  have h8 := (fitsI_check hf).2.1
  have hsf : sfB (relR r f (sfB r f)) f = sfB r f := by
    have e1 : sfB r f = safB r (LF f) := by rw [sfB, if_pos hf]
    have e2 : sfB (relR r f (sfB r f)) f = safB (relR r f (sfB r f)) (LF f) := by rw [sfB, if_pos hf2]
    rw [e2]
    conv => rhs; rw [e1]
    unfold safB
    have hx : ∀ x ∈ LF f, oneB (relR r f (sfB r f)) x = oneB r x := by
      intro x hx
      have hok := fits_ok hs.rok hf x hx
      unfold oneB
      have hk : hasK (LM f) (x.i + 256) x.s = false := by
        cases hq : hasK (LM f) (x.i + 256) x.s with
        | false => rfl
        | true =>
          unfold hasK at hq
          rw [List.any_eq_true] at hq
          obtain ⟨y, hy, hye⟩ := hq
          simp only [Bool.and_eq_true, beq_iff_eq] at hye
          obtain ⟨i, hi, rfl⟩ := slsF_mem hy
          obtain ⟨k, hk, rfl⟩ := slsF_mem (f := f) (n := (f 5).toNat) hx
          have hkn : k < nM f := by unfold nM; omega
          have := any_false.1 (any_false.1 hin i hi) k hkn
          unfold ieq at this
          have hw : IntKind.i64.wrap ((slF f i).i - 256) = (slF f k).i := by
            rw [wrap_id _ (by have := hok.2; omega) (by have := hok.2; omega)]; omega
          rw [hw, hye.2] at this
          simp at this
      rw [rel_other (y := ⟨x.i + 256, x.s, 0⟩) hk]
    exact flat_congr hx
  unfold isS
  rw [hf2, hv, hsf]
  simp
end Go.Proofs.Ytmffcpiffkclgaa.ZJM.DC

set_option linter.unusedSimpArgs false
set_option linter.unusedVariables false
set_option maxRecDepth 10000
namespace Go.Proofs.Ytmffcpiffkclgaa.ZJM.DC
open Go.Proofs.Ytmffcpiffkclgaa.ZJM Go.RowKit

theorem hasK_snoc (L : List Slot) (n : Nat) (hn : n < L.length) (i s : Int) : hasK (L.take (n + 1)) i s = (hasK (L.take n) i s || (L[n].i == i && L[n].s == s)) := by
  rw [hasK, hasK, take_succ' L n hn, List.any_append]
  simp only [List.any_cons, List.any_nil, Bool.or_false]
/-! ### the deeds -/
section
variable (nb : Bool) (b : List Int) (nl : Bool) (f : Nat → Int) (L : List Dd) (fl : Bool)
def own9a (f : Nat → Int) (r : RD) (ver : Nat) (rows : List Row) (c : Int) : Lvl := [(4, CF f 30), (10, [El r.nl r.l, .int .i64 r.c]), (1000000000, [.ptr 0 1000000001 [] 0, .int .i64 c]), (1000000001, [shC ver rows])]
theorem own9a_da (f : Nat → Int) (r : RD) (ver : Nat) (rows : List Row) (c : Int) : DA [own9a f r ver rows c] 0 1000000000 1000000001 ver rows c := ⟨by simp [own9a], by simp [own9a], by decide⟩
theorem own9a_set (f : Nat → Int) (r : RD) (ver : Nat) (rows : List Row) (c : Int) (v : Nat) (l' : List Row) (c' : Int) : dset [own9a f r ver rows c] 0 1000000000 1000000001 v l' c' = [own9a f r v l' c'] := by simp [dset, wr, own9a]
def S9a (nb : Bool) (b : List Int) (nl : Bool) (f : Nat → Int) (L : List Dd) (fl : Bool) (t : Nat) (r : RD) (ver : Nat) (rows : List Row) (c : Int) : St := ⟨[(1, .lst none nb 1 (Bs b)), (2, .lst none nl 5 (Dl L)), (3, .bool fl), (4, .ptr 0 4 [] 0), (9, .ptr 0 1000000000 [] 0), (10, .ptr 0 10 [] 0), (11, .int .i64 t)], [], own9a f r ver rows c, [], []⟩
set_option maxHeartbeats 1000000 in
theorem round9a (x : Dd) (hx : x.ok) (t : Nat) (htL : t < L.length) (ht20 : t < 20) (gE : (Dl L)[t]? = some x.enc) (r : RD) (ver : Nat) (rows : List Row) (c : Int) (hs : Sim rows c r) :
    ∃ r' ver' rows' c', Sim rows' c' r' ∧ Goes (maskSt [1, 2, 3, 4, 9, 10, 11] [4, 10] [] [9]) (S9a nb b nl f L fl (t + 1) r' ver' rows' c') (Cd.run (app E) cx9.body.inner.body (S9a nb b nl f L fl t r ver rows c)) := by
  have hti : (t : Int) < L.length := by omega
  have ht4 : (t : Int) < 20 := by omega
  have hw := wrap_succ t (by omega)
  have gE2 : ∀ h, (Dl L)[t]'h = x.enc := fun h => (List.getElem?_eq_some_iff.1 gE).2
  have hle : (Dl L).length = L.length := encs_len L
  have k1 := fun a b c => dl_okns L a b c
  have k2 := fun a b ρ => dl_rens L a b ρ
  obtain ⟨m1, e34, v1, l1, c1, rfl, hs1⟩ := appx34 (own9a_da f r ver rows c) hs f x hx
  rw [own9a_set] at e34
  refine ⟨ddR r f x, v1, l1, c1, hs1, ?_⟩
  generalize ddR r f x = r1 at *
  have f4 := fun a => es_deps r1.l a
  have f5 := fun a b c => es_okns r1.l a b c
  have hrn := fun a b ρ => es_rens r1.l a b ρ
  have g4 := fun a => es_deps r.l a
  have g5 := fun a b c => es_okns r.l a b c
  have s1 := fun lv => shC_names lv v1 l1
  have s2 := fun a b ρ => shC_ren a b ρ v1 l1
  have s3 := fun a ks ts => shC_okn a ks ts v1 l1
  have s4 := shC_rec v1 l1
  have j1 := fun a b' c => bs_okns b a b' c
  have j2 := fun a b' ρ => PV.datas_rens a b' ρ _ (bs_data b)
  obtain ⟨o, i, s, n, nb2, b2⟩ := x
  have hob := fun a b' c => bs_okns b2 a b' c
  have hdb := fun a => bs_deps b2 a
  simp only [S9a, own9a, Dd.enc, Dd.cs, RD.pv, El, rd, Bl] at *
  generalize Dl L = DL at *
  generalize Es r1.l = L1 at *
  generalize Es r.l = L0 at *
  generalize shC ver rows = SS0 at *
  generalize shC v1 l1 = SS1 at *
  generalize Bs b2 = BB2 at *
  generalize Bs b = BB at *
  simp [-isPlace, -moves, cx9, Cd.inner, Cd.body, hle, hti, ht4, htL, gE, gE2, e34, hw, f4, f5, hrn, g4, g5, s1, s2, s3, s4, k1, k2, j1, j2, hob, hdb]
theorem loop9a (hL : ∀ x ∈ L, x.ok) (ver0 : Nat) (rows0 : List Row) (c0 : Int) (r0 : RD) (hs0 : Sim rows0 c0 r0) {st : St} (h0 : maskSt [1, 2, 3, 4, 9, 10, 11] [4, 10] [] [9] st = some (S9a nb b nl f L fl 0 r0 ver0 rows0 c0)) :
    ∃ e st', loopW (maskSt [1, 2, 3, 4, 9, 10, 11] [4, 10] [] [9]) (Cd.run (app E) cx9.body.inner.body) st = some (e, st') ∧ e ≠ .normal ∧ (e = .exit 0 ∧ st'.m = [] ∧ st'.dead = [] ∧ st'.tops = [] ∧ get st'.f 1 = some (.lst none nb 1 (Bs b)) ∧ get st'.f 3 = some (.bool fl) ∧ get st'.f 4 = some (.ptr 0 4 [] 0) ∧ get st'.f 9 = some (.ptr 0 1000000000 [] 0) ∧ get st'.f 10 = some (.ptr 0 10 [] 0) ∧ ∃ r ver rows c, Sim rows c r ∧ st'.own = own9a f r ver rows c) := by
  have hle : (Dl L).length = L.length := encs_len L
  refine loop_inv (fun t S => ∃ r ver rows c, Sim rows c r ∧ S = S9a nb b nl f L fl t r ver rows c) (min L.length 20) _ h0 ⟨r0, ver0, rows0, c0, hs0, rfl⟩ ?_ ?_
  · rintro t S ht ⟨r, ver, rows, c, hs, rfl⟩
    have htL : t < L.length := by omega
    have gE : (Dl L)[t]? = some (L[t]'htL).enc := by simp [encs, htL]
    obtain ⟨r1, v1, l1, c1, hs1, hG⟩ := round9a nb b nl f L fl (L[t]'htL) (hL _ (List.getElem_mem htL)) t htL (by omega) gE r ver rows c hs
    obtain ⟨st2, q1, q2⟩ := hG.get
    exact .inl ⟨st2, _, q1, q2, r1, v1, l1, c1, hs1, rfl⟩
  · rintro S ⟨r, ver, rows, c, hs, rfl⟩
    by_cases h : L.length ≤ 20
    · have e : min L.length 20 = L.length := by omega
      rw [e]
      simp only [S9a]
      generalize Dl L = DL at *
      generalize Bs b = BB at *
      simp [cx9, Cd.inner, Cd.body, EndsL, hle]
      exact ⟨r, ver, rows, c, hs, rfl⟩
    · have e : min L.length 20 = 20 := by omega
      rw [e]
      have h1 : (20 : Int) < L.length := by omega
      simp only [S9a]
      generalize Dl L = DL at *
      generalize Bs b = BB at *
      simp [cx9, Cd.inner, Cd.body, EndsL, hle, h1]
      exact ⟨r, ver, rows, c, hs, rfl⟩
end
/-! ### all entries behind it -/
section
variable (f : Nat → Int) (r1 : RD) (v1 : Nat) (R1 : List Row) (c1 : Int) (v2 : Nat) (R2 : List Row) (c2 : Int)
def dic2 (v1 : Nat) (R1 : List Row) (c1 : Int) (v2 : Nat) (R2 : List Row) (c2 : Int) : Lvl := [(1000000000, [.ptr 0 1000000002 [] 0, .int .i64 c1]), (1000000001, [.ptr 0 1000000003 [] 0, .int .i64 c2]), (1000000002, [shC v1 R1]), (1000000003, [shC v2 R2])]
def S9b (t : Nat) : St := ⟨[(4, .ptr 0 4 [] 0), (9, .ptr 0 1000000000 [] 0), (10, .ptr 0 10 [] 0), (12, .ptr 0 1000000001 [] 0), (16, .int .i64 t)], [], (4, CF f 30) :: (10, [El r1.nl r1.l, .int .i64 r1.c]) :: dic2 v1 R1 c1 v2 R2 c2, [], []⟩
def S9c (t : Nat) (ki ks : Int) (n : Nat) : St := ⟨[(4, .ptr 0 4 [] 0), (9, .ptr 0 1000000000 [] 0), (10, .ptr 0 10 [] 0), (12, .ptr 0 1000000001 [] 0), (16, .int .i64 t), (17, .bool (hasK ((LM f).take n) ki ks)), (18, .int .i64 n)], [], (4, CF f 30) :: (10, [El r1.nl r1.l, .int .i64 r1.c]) :: dic2 v1 R1 c1 v2 R2 c2, [], []⟩
theorem LM_len : (LM f).length = nM f := slsF_len f _
theorem LM_get (t : Nat) (h : t < (LM f).length) : (LM f)[t] = slF f t := by simp [LM, slsF]
set_option maxHeartbeats 1000000 in
theorem loop9c (t : Nat) (ht : t < r1.l.length) {st : St} (h0 : maskSt [4, 9, 10, 12, 16, 17, 18] [4, 10] [] [9, 12] st = some (S9c f r1 v1 R1 c1 v2 R2 c2 t r1.l[t].i r1.l[t].s 0)) :
    loopW (maskSt [4, 9, 10, 12, 16, 17, 18] [4, 10] [] [9, 12]) (Cd.run (app E) ((cx9.body.nth 1).inner.body)) st = ((cx9.body.nth 1).inner.body).run (app E) (S9c f r1 v1 R1 c1 v2 R2 c2 t r1.l[t].i r1.l[t].s (nM f)) := by
  have k5 := CF_get f 30 (k := 5) (by omega)
  have hgE : (Es r1.l)[t]? = some r1.l[t].enc := by rw [List.getElem?_eq_getElem (by rw [encs_len]; exact ht), es_getE]
  have hgg : ∀ h, (Es r1.l)[t]'h = r1.l[t].enc := fun h => encs_getE r1.l t h
  have hel : (Es r1.l).length = r1.l.length := encs_len _
  have hok := fun a b c => es_okns r1.l a b c
  have hrn := fun a b ρ => es_rens r1.l a b ρ
  have s1 := fun lv => shC_names lv v1 R1
  have s2 := fun a b ρ => shC_ren a b ρ v1 R1
  have s3 := fun a ks ts => shC_okn a ks ts v1 R1
  have s4 := shC_rec v1 R1
  have s1' := fun lv => shC_names lv v2 R2
  have s2' := fun a b ρ => shC_ren a b ρ v2 R2
  have s3' := fun a ks ts => shC_okn a ks ts v2 R2
  have s4' := shC_rec v2 R2
  have hnm := fun a => es_names r1.l a
  refine loop_eq (S9c f r1 v1 R1 c1 v2 R2 c2 t r1.l[t].i r1.l[t].s) (nM f) (fun n hn => ?_) ?_ h0
  · obtain ⟨hn8, hn8i, hnN⟩ := nM_at hn
    have hw := wrap_succ n (by omega)
    have a1 := two_at f n hn8
    have b1 : 6 + n * 3 + 2 ≤ 30 := by omega
    have hk := hasK_snoc (LM f) n (by rw [LM_len]; exact hn) r1.l[t].i r1.l[t].s
    rw [LM_get] at hk
    unfold S9c
    rw [hk]
    generalize hasK ((LM f).take n) r1.l[t].i r1.l[t].s = q at *
    generalize hy : r1.l[t] = y at *
    generalize slF f n = x at *
    simp only [dic2, El, rd, Ent.enc, Ent.cs] at *
    generalize shC v1 R1 = SS1 at *
    generalize shC v2 R2 = SS2 at *
    generalize Es r1.l = LL at *
    cases q
    · cases c1 : (x.i == y.i) <;> cases c2 : (x.s == y.s) <;> simp [-isPlace, -moves, cx9, Cd.nth, Cd.loops, Cd.inner, Cd.body, k5, hn8i, hnN, hn8, a1, b1, hgE, hgg, hel, ht, c1, c2, hw, hok, hrn, hnm, s1, s2, s3, s4, s1', s2', s3', s4']
    · simp [-isPlace, -moves, cx9, Cd.nth, Cd.loops, Cd.inner, Cd.body, k5, hn8i, hnN, hn8, a1, b1, hgE, hgg, hel, ht, hw, hok, hrn, hnm, s1, s2, s3, s4, s1', s2', s3', s4']
  · simp only [S9c, dic2]
    generalize hasK ((LM f).take (nM f)) r1.l[t].i r1.l[t].s = q at *
    by_cases h8 : (f 5).toNat ≤ 8
    · have hN : ¬ ((nM f : Nat) : Int) < f 5 := by unfold nM; omega
      generalize nM f = n at *
      simp [-isPlace, -moves, cx9, Cd.nth, Cd.loops, Cd.inner, Cd.body, k5, hN]
    · have e : nM f = 8 := by unfold nM; omega
      have hN : (8 : Int) < f 5 := by omega
      rw [e]
      simp [-isPlace, -moves, cx9, Cd.nth, Cd.loops, Cd.inner, Cd.body, k5, hN]
end
end Go.Proofs.Ytmffcpiffkclgaa.ZJM.DC

set_option linter.unusedSimpArgs false
set_option linter.unusedVariables false
set_option maxRecDepth 10000
namespace Go.Proofs.Ytmffcpiffkclgaa.ZJM.DC
open Go.Proofs.Ytmffcpiffkclgaa.ZJM Go.RowKit

section
variable (f : Nat → Int) (r1 r3 : RD) (v1 : Nat) (R1 : List Row) (c1 : Int) (v2 : Nat) (R2 : List Row) (c2 : Int)
set_option maxHeartbeats 2000000 in
theorem round9b (hs3 : Sim R1 c1 r3) (hs1 : Sim R2 c2 r1) (hkeep : ∀ y : Slot, hasK (LM f) y.i y.s = false → slotB r3 y = slotB r1 y) (t : Nat) (ht : t < r1.l.length) :
    Goes (maskSt [4, 9, 10, 12, 16] [4, 10] [] [9, 12]) (S9b f r1 v1 R1 c1 v2 R2 c2 (t + 1)) (Cd.run (app E) (cx9.body.nth 1) (S9b f r1 v1 R1 c1 v2 R2 c2 t)) := by
  have hlen := hs1.rok.1
  have hti : (t : Int) < r1.l.length := by omega
  have hw := wrap_succ t (by omega)
  have hgE : (Es r1.l)[t]? = some r1.l[t].enc := by rw [List.getElem?_eq_getElem (by rw [encs_len]; exact ht), es_getE]
  have hgg : ∀ h, (Es r1.l)[t]'h = r1.l[t].enc := fun h => encs_getE r1.l t h
  have hel : (Es r1.l).length = r1.l.length := encs_len _
  have hlp := fun st h => @loop9c f r1 v1 R1 c1 v2 R2 c2 t ht st h
  have hfull : (LM f).take (nM f) = LM f := by rw [← LM_len]; exact List.take_length
  have hk0 : ∀ i s, hasK ((LM f).take 0) i s = false := fun i s => rfl
  generalize hy : r1.l[t] = y at *
  have hd1 : DA [(4, CF f 30) :: (10, [El r1.nl r1.l, .int .i64 r1.c]) :: dic2 v1 R1 c1 v2 R2 c2] 0 1000000000 1000000002 v1 R1 c1 := ⟨by simp [dic2], by simp [dic2], by decide⟩
  have hd2 : DA [(4, CF f 30) :: (10, [El r1.nl r1.l, .int .i64 r1.c]) :: dic2 v1 R1 c1 v2 R2 c2] 0 1000000001 1000000003 v2 R2 c2 := ⟨by simp [dic2], by simp [dic2], by decide⟩
  have h26a := app26 (.inr ⟨_, _, rfl⟩) (finds hd1 hs3.dok y.i y.s) (okO_get hs3.dok _)
  have h26b := app26 (.inr ⟨_, _, rfl⟩) (finds hd2 hs1.dok y.i y.s) (okO_get hs1.dok _)
  have hsl3 := hs3.slotB ⟨y.i, y.s, 0⟩
  have hsl1 := hs1.slotB ⟨y.i, y.s, 0⟩
  simp only at hsl1 hsl3
  rw [hsl3] at h26a
  rw [hsl1] at h26b
  have hkp := hkeep ⟨y.i, y.s, 0⟩
  simp only at hkp
  have hok := fun a b c => es_okns r1.l a b c
  have hrn := fun a b ρ => es_rens r1.l a b ρ
  have hdp := fun a => es_deps r1.l a
  have hnm := fun a => es_names r1.l a
  have s1 := fun lv => shC_names lv v1 R1
  have s2 := fun a b ρ => shC_ren a b ρ v1 R1
  have s3 := fun a ks ts => shC_okn a ks ts v1 R1
  have s4 := shC_rec v1 R1
  have s1' := fun lv => shC_names lv v2 R2
  have s2' := fun a b ρ => shC_ren a b ρ v2 R2
  have s3' := fun a ks ts => shC_okn a ks ts v2 R2
  have s4' := shC_rec v2 R2
  have bb : ∀ z : List Int, ((strOf z).toList == (strOf z).toList) = true := fun z => by simp
  simp only [cx9, Cd.nth, Cd.loops, Cd.inner, Cd.body, List.nil_append, List.append_nil, List.cons_append, List.getElem?_cons_succ, List.getElem?_cons_zero, Option.getD_some, S9c, hfull, hk0, dic2, El, rd] at hlp
  generalize slotB r3 ⟨y.i, y.s, 0⟩ = B3 at *
  generalize slotB r1 ⟨y.i, y.s, 0⟩ = B1 at *
  generalize (rawB (getW R1 (knum y.i y.s))).1 = n1 at *
  generalize (rawB (getW R2 (knum y.i y.s))).1 = n2 at *
  generalize (getW R1 (knum y.i y.s)).isSome = i1 at *
  generalize (getW R2 (knum y.i y.s)).isSome = i2 at *
  have o1 := fun a b c => bs_okns B1 a b c
  have o3 := fun a b c => bs_okns B3 a b c
  have d1 := fun a => bs_deps B1 a
  have d3 := fun a => bs_deps B3 a
  have hp1 : bytesP (Bs B1) = some B1 := bytesP_bs _
  have hp3 : bytesP (Bs B3) = some B3 := bytesP_bs _
  generalize hasK (LM f) y.i y.s = q at *
  have k5 := CF_get f 30 (k := 5) (by omega)
  have hN : (¬ ((nM f : Nat) : Int) < f 5) ∨ (nM f = 8 ∧ (8 : Int) < f 5) := by unfold nM; omega
  generalize nM f = N at *
  simp only [S9b, dic2, El, rd, Bl, Ent.enc, Ent.cs] at *
  generalize shC v1 R1 = SS1 at *
  generalize shC v2 R2 = SS2 at *
  generalize Es r1.l = LL at *
  cases q with
  | true =>
    generalize Bs B1 = BB1 at *
    generalize Bs B3 = BB3 at *
    rcases hN with hN | ⟨rfl, hN⟩ <;> simp [-isPlace, -moves, cx9, Cd.nth, Cd.loops, Cd.inner, Cd.body, hti, ht, hgE, hgg, hel, hlp, k5, hN, h26a, h26b, hw, hok, hrn, hdp, hnm, s1, s2, s3, s4, s1', s2', s3', s4', o1, o3, d1, d3]
  | false =>
    have hB := hkp rfl
    subst hB
    generalize Bs B3 = BB3 at *
    rcases hN with hN | ⟨rfl, hN⟩ <;> simp [-isPlace, -moves, cx9, Cd.nth, Cd.loops, Cd.inner, Cd.body, hti, ht, hgE, hgg, hel, hlp, k5, hN, h26a, h26b, hw, hok, hrn, hdp, hnm, s1, s2, s3, s4, s1', s2', s3', s4', o1, o3, d1, d3, hp1, bb]
end
end Go.Proofs.Ytmffcpiffkclgaa.ZJM.DC

set_option linter.unusedSimpArgs false
set_option linter.unusedVariables false
set_option maxRecDepth 10000
namespace Go.Proofs.Ytmffcpiffkclgaa.ZJM.DC
open Go.Proofs.Ytmffcpiffkclgaa.ZJM Go.RowKit

def own9d (f : Nat → Int) (r : RD) (ver : Nat) (rows : List Row) (c : Int) (wl : List Row) (wc : Int) : Lvl := [(50000, [.ptr 0 50001 [] 0, .int .i64 wc]), (50001, [shC 0 wl]), (4, CF f 30), (10, [El r.nl r.l, .int .i64 r.c]), (1000000000, [.ptr 0 1000000001 [] 0, .int .i64 c]), (1000000001, [shC ver rows])]
theorem own9d_da (f : Nat → Int) (r : RD) (ver : Nat) (rows : List Row) (c : Int) (wl : List Row) (wc : Int) : DA [own9d f r ver rows c wl wc] 0 1000000000 1000000001 ver rows c := ⟨by simp [own9d], by simp [own9d], by decide⟩
theorem own9d_set (f : Nat → Int) (r : RD) (ver : Nat) (rows : List Row) (c : Int) (wl : List Row) (wc : Int) (v : Nat) (l' : List Row) (c' : Int) : dset [own9d f r ver rows c wl wc] 0 1000000000 1000000001 v l' c' = [own9d f r v l' c' wl wc] := by simp [dset, wr, own9d]
section
variable (f : Nat → Int) (r1 r3 : RD) (v1 : Nat) (R1 : List Row) (c1 : Int) (v2 : Nat) (R2 : List Row) (c2 : Int)
theorem loop9b (hs3 : Sim R1 c1 r3) (hs1 : Sim R2 c2 r1) (hkeep : ∀ y : Slot, hasK (LM f) y.i y.s = false → slotB r3 y = slotB r1 y) {st : St} (h0 : maskSt [4, 9, 10, 12, 16] [4, 10] [] [9, 12] st = some (S9b f r1 v1 R1 c1 v2 R2 c2 0)) :
    loopW (maskSt [4, 9, 10, 12, 16] [4, 10] [] [9, 12]) (Cd.run (app E) (cx9.body.nth 1)) st = (cx9.body.nth 1).run (app E) (S9b f r1 v1 R1 c1 v2 R2 c2 r1.l.length) := by
  refine loop_eq (S9b f r1 v1 R1 c1 v2 R2 c2) r1.l.length (fun t ht => round9b f r1 r3 v1 R1 c1 v2 R2 c2 hs3 hs1 hkeep t ht) ?_ h0
  have hel : (Es r1.l).length = r1.l.length := encs_len _
  simp only [S9b, dic2, El]
  generalize Es r1.l = LL at *
  simp [-isPlace, -moves, cx9, Cd.nth, Cd.loops, Cd.inner, Cd.body, hel]
end
set_option maxHeartbeats 8000000 in
theorem appx9 (f : Nat → Int) (nb : Bool) (b : List Int) (hb : OkB b) (hn : nb = true → b = []) (nl : Bool) (L : List Dd) (hL : ∀ x ∈ L, x.ok) (fl : Bool) : app E false (.fn 9 []) [.agg (CF f 30), Bl nb b, .lst none nl 5 (Dl L), .bool fl] [] = some (.bool true, emptyBag, []) := by
  obtain ⟨v0, l0, c0, hs0, h33⟩ := appx33 [[(4, CF f 30)]]
  have u2 := fun a b ρ => es_rens rImg.l a b ρ
  have u3 := fun a => es_deps rImg.l a
  have u4 := fun a b c => es_okns rImg.l a b c
  have u5 := fun a => es_names rImg.l a
  have k1 := fun a b c => dl_okns L a b c
  have k2 := fun a b ρ => dl_rens L a b ρ
  have k3 := fun a => dl_deps L a
  have j1 := fun a b' c => bs_okns b a b' c
  have j2 := fun a b' ρ => PV.datas_rens a b' ρ _ (bs_data b)
  have j3 := fun a => bs_deps b a
  have s1 := fun lv => shC_names lv v0 l0
  have s2 := fun a b ρ => shC_ren a b ρ v0 l0
  have s3 := fun a ks ts => shC_okn a ks ts v0 l0
  have s4 := shC_rec v0 l0
  have hS0 : maskSt [1, 2, 3, 4, 9, 10, 11] [4, 10] [] [9] (S9a nb b nl f L fl 0 rImg v0 l0 c0) = some (S9a nb b nl f L fl 0 rImg v0 l0 c0) := by
    simp only [S9a, own9a, El]
    generalize Dl L = DL at *
    generalize Es rImg.l = LA at *
    generalize Bs b = BB at *
    generalize shC v0 l0 = SS0 at *
    simp [-isPlace, -moves, u2, u3, u4, k1, k2, j1, j2, s1, s2, s3, s4]
  obtain ⟨e, ⟨f', tops', own', dead', m'⟩, q1, q2, rfl, gm, gd, gt, x1, x3, x4, x9, x10, r1, v1, l1, c1, hs1, go⟩ := loop9a nb b nl f L fl hL v0 l0 c0 rImg hs0 hS0
  simp only at gm gd gt x1 x3 x4 x9 x10 go
  subst gm gd gt go
  have hl1 := loop_at hS0 q1
  have h51 := app23 (own9a_da f r1 v1 l1 c1) hs1.dok
  obtain ⟨m2, e52, v2, l2, c2, rfl, hs2⟩ := appx52 (own9d_da f r1 v1 l1 c1 l1 c1) hs1 f nb b hb hn
  rw [own9d_set] at e52
  have h35 := appx35 (own9d_da f r1 v2 l2 c2 l1 c1) hs2 f
  have h53 := appx53 f
  have h55 := appx55 f
  obtain ⟨m3, e54, v3, l3, c3, rfl, hs3⟩ := appx54 (own9d_da f r1 v2 l2 c2 l1 c1) hs2 f
  rw [own9d_set] at e54
  have h38 := appx38 (own9d_da f r1 v3 l3 c3 l1 c1) hs3 f
  have h41 := live32
  have hk2 : ∀ y : Slot, hasK (LM f) y.i y.s = false → slotB (relR r1 f b) y = slotB r1 y := fun y hy => rel_other hy
  have hk3 : ∀ y : Slot, hasK (LM f) y.i y.s = false → slotB (relR (relR r1 f b) f (sfB (relR r1 f b) f)) y = slotB r1 y := fun y hy => by rw [rel_other hy, rel_other hy]
  have hB2 := fun st h => @loop9b f r1 _ v2 l2 c2 0 l1 c1 hs2 hs1 hk2 st h
  have hB3 := fun st h => @loop9b f r1 _ v3 l3 c3 0 l1 c1 hs3 hs1 hk3 st h
  have hsafe : (relC (relR r1 f b) f (sfB (relR r1 f b) f) == 0) = true → twF f = false → inF f = false → isS (relR (relR r1 f b) f (sfB (relR r1 f b) f)) f = true := fun h1 h2 h3 => fall_safe hs2 (by simpa using h1) h2 h3
  have hrv : relC r1 f b = 0 → twF f = false → valB (relR r1 f b) f = b := fun h1 h2 => rel_val hs1 h1 h2
  have hrl : relC r1 f b = 0 → valE (relR r1 f b) f = 0 ∧ (valB (relR r1 f b) f).length = b.length := fun h => rel_len h hs2
  have g2 := fun a b ρ => es_rens r1.l a b ρ
  have g3 := fun a => es_deps r1.l a
  have g4 := fun a b c => es_okns r1.l a b c
  have g5 := fun a => es_names r1.l a
  have p1 := fun lv => shC_names lv v1 l1
  have p2 := fun a b ρ => shC_ren a b ρ v1 l1
  have p3 := fun a ks ts => shC_okn a ks ts v1 l1
  have p4 := shC_rec v1 l1
  have w1 := fun lv => shC_names lv 0 l1
  have w2 := fun a b ρ => shC_ren a b ρ 0 l1
  have w3 := fun a ks ts => shC_okn a ks ts 0 l1
  have w4 := shC_rec 0 l1
  have y1 := fun lv => shC_names lv v2 l2
  have y2 := fun a b ρ => shC_ren a b ρ v2 l2
  have y3 := fun a ks ts => shC_okn a ks ts v2 l2
  have y4 := shC_rec v2 l2
  have z1 := fun lv => shC_names lv v3 l3
  have z2 := fun a b ρ => shC_ren a b ρ v3 l3
  have z3 := fun a ks ts => shC_okn a ks ts v3 l3
  have z4 := shC_rec v3 l3
  have hel : (Es r1.l).length = r1.l.length := encs_len _
  generalize valE (relR r1 f b) f = ve at *
  generalize isS (relR (relR r1 f b) f (sfB (relR r1 f b) f)) f = sf at *
  generalize relC (relR r1 f b) f (sfB (relR r1 f b) f) = fc at *
  generalize relC r1 f b = rc at *
  generalize hV : valB (relR r1 f b) f = V at *
  generalize twF f = tw at *
  generalize inF f = inn at *
  have oV := fun a b' c => bs_okns V a b' c
  have dV := fun a => bs_deps V a
  have hpV : bytesP (Bs V) = some V := bytesP_bs _
  have hpb : bytesP (Bs b) = some b := bytesP_bs _
  have bb : ∀ z : ByteArray, (z.toList == z.toList) = true := fun z => by simp
  have hlV := bs_len V
  have hlb := bs_len b
  simp only [cx9, Cd.inner, Cd.body, S9a] at hl1
  simp only [cx9, Cd.body, Cd.nth, Cd.loops, List.nil_append, List.append_nil, List.cons_append, List.getElem?_cons_succ, List.getElem?_cons_zero, Option.getD_some, S9b, dic2] at hB2 hB3
  simp only [own9a, own9d, RD.pv, El, rd, Bl] at *
  generalize Dl L = DL at *
  generalize Es rImg.l = LA at *
  generalize Es r1.l = L1 at *
  generalize shC v0 l0 = SS0 at *
  generalize shC v1 l1 = SS1 at *
  generalize shC 0 l1 = SSw at *
  generalize shC v2 l2 = SS2 at *
  generalize shC v3 l3 = SS3 at *
  generalize V.isEmpty = ve1 at *
  rw [app_fn E rfl hx9 rfl]
  by_cases hc : rc = 0
  · subst hc
    obtain ⟨hve, hln⟩ := hrl rfl
    subst hve
    have hli : ((V.length : Int) != (b.length : Int)) = false := by rw [hln]; simp
    have hlV' : (Bs V).length = b.length := by rw [hlV, hln]
    cases tw with
    | true =>
      cases fl with
      | false => simp [-isPlace, -moves, cx9, h33, hl1, x1, x3, x4, x9, x10, h51, e52, h35, h53, h55, h38, h41, hel, u2, u3, u4, u5, k1, k2, k3, j1, j2, j3, s1, s2, s3, s4, g2, g3, g4, g5, p1, p2, p3, p4, w1, w2, w3, w4, y1, y2, y3, y4, z1, z2, z3, z4, oV, dV, hpV, hpb, bb, bagName, PV.retag, PV.retag1, hlV', hlb, hB2]
      | true =>
        cases hq : (fc == 0) with
        | false => simp [-isPlace, -moves, cx9, h33, hl1, x1, x3, x4, x9, x10, h51, e52, h35, h53, h55, h38, h41, hel, u2, u3, u4, u5, k1, k2, k3, j1, j2, j3, s1, s2, s3, s4, g2, g3, g4, g5, p1, p2, p3, p4, w1, w2, w3, w4, y1, y2, y3, y4, z1, z2, z3, z4, oV, dV, hpV, hpb, bb, bagName, PV.retag, PV.retag1, hlV', hlb, e54, hq, hB3]
        | true => simp [-isPlace, -moves, cx9, h33, hl1, x1, x3, x4, x9, x10, h51, e52, h35, h53, h55, h38, h41, hel, u2, u3, u4, u5, k1, k2, k3, j1, j2, j3, s1, s2, s3, s4, g2, g3, g4, g5, p1, p2, p3, p4, w1, w2, w3, w4, y1, y2, y3, y4, z1, z2, z3, z4, oV, dV, hpV, hpb, bb, bagName, PV.retag, PV.retag1, hlV', hlb, e54, hq, hB3]
    | false =>
      have hVb := hrv rfl rfl
      clear hV hrv hrl
      subst hVb
      cases fl with
      | false => simp [-isPlace, -moves, cx9, h33, hl1, x1, x3, x4, x9, x10, h51, e52, h35, h53, h55, h38, h41, hel, u2, u3, u4, u5, k1, k2, k3, j1, j2, j3, s1, s2, s3, s4, g2, g3, g4, g5, p1, p2, p3, p4, w1, w2, w3, w4, y1, y2, y3, y4, z1, z2, z3, z4, oV, dV, hpV, hpb, bb, bagName, PV.retag, PV.retag1, hlV', hlb, hB2]
      | true =>
        cases hq : (fc == 0) with
        | false => simp [-isPlace, -moves, cx9, h33, hl1, x1, x3, x4, x9, x10, h51, e52, h35, h53, h55, h38, h41, hel, u2, u3, u4, u5, k1, k2, k3, j1, j2, j3, s1, s2, s3, s4, g2, g3, g4, g5, p1, p2, p3, p4, w1, w2, w3, w4, y1, y2, y3, y4, z1, z2, z3, z4, oV, dV, hpV, hpb, bb, bagName, PV.retag, PV.retag1, hlV', hlb, e54, hq, hB3]
        | true =>
          cases sf with
          | true => simp [-isPlace, -moves, cx9, h33, hl1, x1, x3, x4, x9, x10, h51, e52, h35, h53, h55, h38, h41, hel, u2, u3, u4, u5, k1, k2, k3, j1, j2, j3, s1, s2, s3, s4, g2, g3, g4, g5, p1, p2, p3, p4, w1, w2, w3, w4, y1, y2, y3, y4, z1, z2, z3, z4, oV, dV, hpV, hpb, bb, bagName, PV.retag, PV.retag1, hlV', hlb, e54, hq, hB3]
          | false =>
            cases inn with
            | true => simp [-isPlace, -moves, cx9, h33, hl1, x1, x3, x4, x9, x10, h51, e52, h35, h53, h55, h38, h41, hel, u2, u3, u4, u5, k1, k2, k3, j1, j2, j3, s1, s2, s3, s4, g2, g3, g4, g5, p1, p2, p3, p4, w1, w2, w3, w4, y1, y2, y3, y4, z1, z2, z3, z4, oV, dV, hpV, hpb, bb, bagName, PV.retag, PV.retag1, hlV', hlb, e54, hq, hB3]
            | false => exact absurd (hsafe hq rfl rfl) (by simp)
  · have hc' : (rc == 0) = false := by simpa using hc
    cases fl with
    | false => simp [-isPlace, -moves, cx9, h33, hl1, x1, x3, x4, x9, x10, h51, e52, h35, h53, h55, h38, h41, hel, u2, u3, u4, u5, k1, k2, k3, j1, j2, j3, s1, s2, s3, s4, g2, g3, g4, g5, p1, p2, p3, p4, w1, w2, w3, w4, y1, y2, y3, y4, z1, z2, z3, z4, oV, dV, hpV, hpb, bb, bagName, PV.retag, PV.retag1, hc', hB2]
    | true =>
      cases hq : (fc == 0) with
      | false => simp [-isPlace, -moves, cx9, h33, hl1, x1, x3, x4, x9, x10, h51, e52, h35, h53, h55, h38, h41, hel, u2, u3, u4, u5, k1, k2, k3, j1, j2, j3, s1, s2, s3, s4, g2, g3, g4, g5, p1, p2, p3, p4, w1, w2, w3, w4, y1, y2, y3, y4, z1, z2, z3, z4, oV, dV, hpV, hpb, bb, bagName, PV.retag, PV.retag1, hc', e54, hq, hB3]
      | true =>
        cases tw with
        | true => simp [-isPlace, -moves, cx9, h33, hl1, x1, x3, x4, x9, x10, h51, e52, h35, h53, h55, h38, h41, hel, u2, u3, u4, u5, k1, k2, k3, j1, j2, j3, s1, s2, s3, s4, g2, g3, g4, g5, p1, p2, p3, p4, w1, w2, w3, w4, y1, y2, y3, y4, z1, z2, z3, z4, oV, dV, hpV, hpb, bb, bagName, PV.retag, PV.retag1, hc', e54, hq, hB3]
        | false =>
          cases sf with
          | true => simp [-isPlace, -moves, cx9, h33, hl1, x1, x3, x4, x9, x10, h51, e52, h35, h53, h55, h38, h41, hel, u2, u3, u4, u5, k1, k2, k3, j1, j2, j3, s1, s2, s3, s4, g2, g3, g4, g5, p1, p2, p3, p4, w1, w2, w3, w4, y1, y2, y3, y4, z1, z2, z3, z4, oV, dV, hpV, hpb, bb, bagName, PV.retag, PV.retag1, hc', e54, hq, hB3]
          | false =>
            cases inn with
            | true => simp [-isPlace, -moves, cx9, h33, hl1, x1, x3, x4, x9, x10, h51, e52, h35, h53, h55, h38, h41, hel, u2, u3, u4, u5, k1, k2, k3, j1, j2, j3, s1, s2, s3, s4, g2, g3, g4, g5, p1, p2, p3, p4, w1, w2, w3, w4, y1, y2, y3, y4, z1, z2, z3, z4, oV, dV, hpV, hpb, bb, bagName, PV.retag, PV.retag1, hc', e54, hq, hB3]
            | false => exact absurd (hsafe hq rfl rfl) (by simp)
theorem bool1 {x : PV} (h : CT.val false [.bool] x) : ∃ q : Bool, x = .bool q := by
  simp only [CT.val, CT.hass, CT.has] at h
  obtain ⟨_, _, hx, ⟨q, rfl⟩, rfl⟩ := h
  simp only [List.cons.injEq, and_true] at hx
  exact ⟨q, hx⟩
theorem lawx9 {x0 x1 x2 x3 : PV} (h0 : CT.val true chanT x0) (h1 : CT.val false [.lst false 1 [.int .u8]] x1) (h2 : CT.val false [.lst true 56 ddT] x2) (h3 : CT.val false [.bool] x3) : app E false (.fn 9 []) [x0, x1, x2, x3] [] = some (.bool true, emptyBag, []) := by
  obtain ⟨f, rfl⟩ := chan_of h0
  obtain ⟨nb, b, hb, hn, rfl⟩ := bytes_val h1
  simp only [CT.val, CT.hass] at h2
  obtain ⟨_, _, hx, h, rfl⟩ := h2
  simp only [List.cons.injEq, and_true] at hx
  subst hx
  obtain ⟨nl, xs, rfl, _, _, hx⟩ := CT.has_lst.1 h
  obtain ⟨l, hl, rfl⟩ := dds_of hx
  obtain ⟨q, rfl⟩ := bool1 h3
  exact appx9 f nb b hb hn nl l hl q
end Go.Proofs.Ytmffcpiffkclgaa.ZJM.DC
