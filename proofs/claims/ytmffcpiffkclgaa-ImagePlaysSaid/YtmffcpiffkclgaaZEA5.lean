/- law15's live; Same; AreaWords' and AreaLays' functions. -/
import Derived.Test.YtmffcpiffkclgaaZEA2
import Derived.Test.YtmffcpiffkclgaaZEA1
import Derived.Test.YtmffcpiffkclgaaZEP3
set_option linter.unusedSimpArgs false
set_option linter.unusedVariables false
set_option maxRecDepth 10000
namespace Go.Proofs.Ytmffcpiffkclgaa.ZJM.DC
open Go.Proofs.Ytmffcpiffkclgaa.ZJM Go.RowKit

theorem entR_self {r : RD} (hnd : Nd r.l) {t : Nat} (ht : t < r.l.length) : entR r.l r.l[t].i r.l[t].s = some r.l[t] := by
  cases hq : entR r.l r.l[t].i r.l[t].s with
  | none =>
    unfold entR at hq
    rw [List.find?_eq_none] at hq
    exact absurd (is_iff.2 ⟨rfl, rfl⟩) (hq _ (List.getElem_mem ht))
  | some z =>
    have hzm : z ∈ r.l := List.mem_of_find?_eq_some hq
    have hzi := is_iff.1 (List.find?_some hq)
    obtain ⟨u, hu, rfl⟩ := List.mem_iff_getElem.1 hzm
    have := hnd u t hu ht hzi.1 hzi.2
    subst this; rfl
section
variable {m : Mem} {lv a a' ver : Nat} {l : List Row} {c : Int} (hd : DA m lv a a' ver l c) {r : RD} (hs : Sim l c r)
include hd hs
def S17 (t : Nat) : St := ⟨[(0, .ptr lv a [] 0), (3, .ptr m.length 3 [] 0), (5, .int .i64 t)], [], [(3, [El r.nl r.l, .int .i64 r.c])], [], m⟩
theorem round17 (t : Nat) (ht : t < r.l.length) : Goes (maskSt [0, 3, 5] [3] [] []) (S17 (m := m) (lv := lv) (a := a) (r := r) (t + 1)) (Cd.run (app E) c17.body.inner.body (S17 (m := m) (lv := lv) (a := a) (r := r) t)) := by
  have hlt := hd.lv_lt
  have hlv : lv ≠ m.length := by omega
  have hlen := hs.rok.1
  have hti : (t : Int) < r.l.length := by omega
  have hw := wrap_succ t (by omega)
  have hf := hs.find r.l[t].i r.l[t].s
  rw [entR_self hs.nd ht] at hf
  have hraw := app26 (.inr ⟨_, _, rfl⟩) (finds (hd.cons [(3, [El r.nl r.l, .int .i64 r.c])]) hs.dok r.l[t].i r.l[t].s) (okO_get hs.dok _)
  cases hg : getW l (knum r.l[t].i r.l[t].s) with
  | none => rw [hg] at hf; exact hf.elim
  | some x =>
    rw [hg] at hf hraw
    simp only [rawB, Option.isSome_some] at hraw
    rw [hf.2.2.2.2.2] at hraw
    have bb : ∀ z : List Int, ((strOf z).toList == (strOf z).toList) = true := fun z => by simp
    generalize x.nl = n0 at *
    simp [c17, Cd.inner, Cd.body, S17, hti, ht, es_getE, Ent.enc, Ent.cs, hraw, bytesP_bs, bb, hw, hlv]
theorem app17 : app E false (.fn 15 []) [.ptr lv a [] 0, r.pv] m = some (.bool true, emptyBag, m) := by
  have hlt := hd.lv_lt
  have hlv : lv ≠ m.length := by omega
  have h45' := app45 (hd.cons [(3, [El r.nl r.l, .int .i64 r.c])])
  have hq : ((l.length : Int) != (r.l.length : Nat)) = false := by rw [hs.len]; simp
  have hloop : ∀ st, maskSt [0, 3, 5] [3] [] [] st = some (S17 (m := m) (lv := lv) (a := a) (r := r) 0) → loopW (maskSt [0, 3, 5] [3] [] []) (Cd.run (app E) c17.body.inner.body) st = c17.body.inner.body.run (app E) (S17 (m := m) (lv := lv) (a := a) (r := r) r.l.length) := fun st h0 => by
    refine loop_eq (S17 (m := m) (lv := lv) (a := a) (r := r)) r.l.length (fun t ht => round17 hd hs t ht) ?_ h0
    simp [c17, Cd.inner, Cd.body, S17]
  simp only [c17, Cd.inner, Cd.body, S17] at hloop
  rw [app_fn E rfl h17 rfl]
  simp only [RD.pv] at *
  simp [c17, h45', hq]
  rw [hloop _ (by simp [hlv])]
  simp
end
def ownA (ver : Nat) (rows : List Row) (c : Int) : Lvl := [(13000, [.ptr 0 13001 [] 0, .int .i64 c]), (13001, [shC ver rows])]
end Go.Proofs.Ytmffcpiffkclgaa.ZJM.DC
