/- law15's live; Same; AreaWords' and AreaLays' functions. -/
import Derived.Test.YtmffcpiffkclgaaZEA2
import Derived.Test.YtmffcpiffkclgaaZEA1
import Derived.Test.YtmffcpiffkclgaaZEP3
set_option linter.unusedSimpArgs false
set_option linter.unusedVariables false
set_option maxRecDepth 10000
namespace Go.Proofs.Ytmffcpiffkclgaa.ZJM.DC
open Go.Proofs.Ytmffcpiffkclgaa.ZJM Go.RowKit

theorem run_laid : runE ⟨true, [], 0⟩ laid = (⟨false, laid, 0⟩, 0) := by kernel_rfl
def rLaid : RD := ⟨false, laid, 0⟩
theorem set_laid : setC rLaid 5118 0 165 = 0 := by kernel_rfl
theorem num_laid : numR (setR rLaid 5118 0 165) 5118 0 = (165, true) := by kernel_rfl
theorem len_laid : (setR rLaid 5118 0 165).l.length = 70 := by kernel_rfl
theorem entR_self {r : RD} (hnd : Nd r.l) {t : Nat} (ht : t < r.l.length) : entR r.l r.l[t].i r.l[t].s = some r.l[t] := by
  cases hq : entR r.l r.l[t].i r.l[t].s with
  | none =>
    unfold entR at hq
    rw [List.find?_eq_none] at hq
    exact absurd (is_iff.2 ⟨rfl, rfl⟩) (hq _ (List.getElem_mem ht))
  | some z =>
    have hzm : z ∈ r.l := List.mem_of_find?_eq_some hq
    have hzi := is_iff.1 (List.find?_some hq)
    obtain ⟨u, hu, rfl⟩ := List.mem_iff_getElem.1 hzm
    have := hnd u t hu ht hzi.1 hzi.2
    subst this; rfl
section
variable {m : Mem} {lv a a' ver : Nat} {l : List Row} {c : Int} (hd : DA m lv a a' ver l c) {r : RD} (hs : Sim l c r)
include hd hs
theorem app64 : ∃ m', app E false (.fn 18 []) [.ptr lv a [] 0, .bool true] m = some (.int .i64 (setC r 5118 0 165), emptyBag, m') ∧ Does m lv a a' ver l c (setR r 5118 0 165) m' := by
  obtain ⟨m1, e1, e2⟩ := do_set (hd.cons []) hs 5118 0 165
  obtain ⟨m2, rfl, e3⟩ := e2.cons hd
  refine ⟨m2, ?_, e3⟩
  rw [app_fn E rfl h64 rfl]
  generalize setC r 5118 0 165 = w at *
  simp [c64, e1]
theorem app65 : app E false (.fn 16 []) [.ptr lv a [] 0] m = some (.bool ((numR r 5118 0).2 && ((numR r 5118 0).1 == 165)), emptyBag, m) := by
  have h := app31 (.inr ⟨_, _, rfl⟩) (finds (hd.cons []) hs.dok 5118 0) (okO_get hs.dok _)
  rw [hs.num] at h
  rw [app_fn E rfl h65 rfl]
  generalize numR r 5118 0 = w at *
  obtain ⟨w1, w2⟩ := w
  cases w2 <;> simp [c65, h]
def S17 (t : Nat) : St := ⟨[(0, .ptr lv a [] 0), (3, .ptr m.length 3 [] 0), (5, .int .i64 t)], [], [(3, [El r.nl r.l, .int .i64 r.c])], [], m⟩
theorem round17 (t : Nat) (ht : t < r.l.length) : Goes (maskSt [0, 3, 5] [3] [] []) (S17 (m := m) (lv := lv) (a := a) (r := r) (t + 1)) (Cd.run (app E) c17.body.inner.body (S17 (m := m) (lv := lv) (a := a) (r := r) t)) := by
  have hlt := hd.lv_lt
  have hlv : lv ≠ m.length := by omega
  have hlen := hs.rok.1
  have hti : (t : Int) < r.l.length := by omega
  have hw := wrap_succ t (by omega)
  have hf := hs.find r.l[t].i r.l[t].s
  rw [entR_self hs.nd ht] at hf
  have hraw := app26 (.inr ⟨_, _, rfl⟩) (finds (hd.cons [(3, [El r.nl r.l, .int .i64 r.c])]) hs.dok r.l[t].i r.l[t].s) (okO_get hs.dok _)
  cases hg : getW l (knum r.l[t].i r.l[t].s) with
  | none => rw [hg] at hf; exact hf.elim
  | some x =>
    rw [hg] at hf hraw
    simp only [rawB, Option.isSome_some] at hraw
    rw [hf.2.2.2.2.2] at hraw
    have bb : ∀ z : List Int, ((strOf z).toList == (strOf z).toList) = true := fun z => by simp
    generalize x.nl = n0 at *
    simp [c17, Cd.inner, Cd.body, S17, hti, ht, es_getE, Ent.enc, Ent.cs, hraw, bytesP_bs, bb, hw, hlv]
theorem app17 : app E false (.fn 15 []) [.ptr lv a [] 0, r.pv] m = some (.bool true, emptyBag, m) := by
  have hlt := hd.lv_lt
  have hlv : lv ≠ m.length := by omega
  have h45' := app45 (hd.cons [(3, [El r.nl r.l, .int .i64 r.c])])
  have hq : ((l.length : Int) != (r.l.length : Nat)) = false := by rw [hs.len]; simp
  have hloop : ∀ st, maskSt [0, 3, 5] [3] [] [] st = some (S17 (m := m) (lv := lv) (a := a) (r := r) 0) → loopW (maskSt [0, 3, 5] [3] [] []) (Cd.run (app E) c17.body.inner.body) st = c17.body.inner.body.run (app E) (S17 (m := m) (lv := lv) (a := a) (r := r) r.l.length) := fun st h0 => by
    refine loop_eq (S17 (m := m) (lv := lv) (a := a) (r := r)) r.l.length (fun t ht => round17 hd hs t ht) ?_ h0
    simp [c17, Cd.inner, Cd.body, S17]
  simp only [c17, Cd.inner, Cd.body, S17] at hloop
  rw [app_fn E rfl h17 rfl]
  simp only [RD.pv] at *
  simp [c17, h45', hq]
  rw [hloop _ (by simp [hlv])]
  simp
end
def ownA (ver : Nat) (rows : List Row) (c : Int) : Lvl := [(13000, [.ptr 0 13001 [] 0, .int .i64 c]), (13001, [shC ver rows])]
theorem ownA_da (ver : Nat) (rows : List Row) (c : Int) : DA [ownA ver rows c] 0 13000 13001 ver rows c := ⟨by simp [ownA], by simp [ownA], by decide⟩
theorem ownA_set (ver : Nat) (rows : List Row) (c : Int) (v : Nat) (l' : List Row) (c' : Int) : dset [ownA ver rows c] 0 13000 13001 v l' c' = [ownA v l' c'] := by simp [dset, wr, ownA]
theorem live15 : app E false (.fn 24 []) [] [] = some (.bool true, emptyBag, []) := by
  have h11 := app11 [[]]
  have h18 := app18 8192 1 16
  have hw18 : wordA 8192 1 16 = (536871184, 0) := by decide
  rw [hw18] at h18
  obtain ⟨m1, e1, v1, l1, c1, rfl, hs1⟩ := app16 (ownA_da 0 [] 0) sim_new
  rw [run_laid] at e1 hs1
  simp only at e1 hs1
  rw [ownA_set] at e1
  obtain ⟨m2, f1, v2, l2, c2, rfl, hs2⟩ := app64 (ownA_da v1 l1 c1) hs1
  rw [ownA_set] at f1
  have hset : setC ⟨false, laid, 0⟩ 5118 0 165 = 0 := set_laid
  rw [hset] at f1
  have h65 := app65 (ownA_da v2 l2 c2) hs2
  have hnum : numR (setR ⟨false, laid, 0⟩ 5118 0 165) 5118 0 = (165, true) := num_laid
  rw [hnum] at h65
  have h45 := app45 (ownA_da v2 l2 c2)
  have hl : (l2.length : Int) = 70 := by
    rw [hs2.len]
    have : (setR ⟨false, laid, 0⟩ 5118 0 165).l.length = 70 := len_laid
    rw [this]; rfl
  rw [hl] at h45
  rw [app_fn E rfl h15 rfl]
  simp only [ownA, List.length_singleton, List.length_cons, List.length_nil] at h11 e1 f1 h65 h45
  simp [c15, h11, h18, e1, f1, h65, h45, bagName, PV.retag, PV.retag1]
end Go.Proofs.Ytmffcpiffkclgaa.ZJM.DC
