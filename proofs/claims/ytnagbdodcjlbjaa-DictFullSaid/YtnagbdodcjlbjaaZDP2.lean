/- Both dictionaries are found the same. -/
import Derived.Test.YtnagbdodcjlbjaaZDP1
set_option linter.unusedSimpArgs false
set_option linter.unusedVariables false
set_option maxRecDepth 4000
namespace Go.Proofs.Ytnagbdodcjlbjaa.ZJM.DC
open Go.Proofs.Ytnagbdodcjlbjaa.ZJM Go.RowKit

def rd50 : Rd := (c50.rds[0]?).getD ⟨[], [], .skip, .skip⟩
def own50 (lv a : Nat) (r : RD) (S : List Ent) (q : Nat) (n : Int) : Lvl := [(500000000, [.lrec q]), (17000, [.ptr lv a [] 0]), (6, [.int .i64 n]), (5, [El false S]), (4, [.bool false]), (3, [El r.nl r.l, .int .i64 r.c]), (2, [.ptr lv a [] 0])]
section
variable {m : Mem} {lv a a' ver : Nat} {l : List Row} {c : Int} (hd : DA m lv a a' ver l c) {r : RD} (hs : Sim l c r)
include hd hs
theorem rnd50 (o1 o2 o3 o4 : Lvl) (t : Nat) (ht : t < l.length) :
    app E false (.rnd 50 0 [2, 4, 5, 6] [.ptr m.length 2 [] 0, .ptr m.length 4 [] 0, .ptr m.length 5 [] 0, .ptr m.length 6 [] 0] m.length 500000000) [ky (l[t].n / 256) (l[t].n % 256)] (o1 :: o2 :: o3 :: o4 :: own50 lv a r (sortE r.l) 0 t :: m) = some (.bool true, emptyBag, o1 :: o2 :: o3 :: o4 :: own50 lv a r (sortE r.l) 0 (t + 1 : Nat) :: m) := by
  have hlt := hd.lv_lt
  have hSl : l.length = (sortE r.l).length := f2_len hs.f2
  have htS : t < (sortE r.l).length := by omega
  have hre := f2_get hs.f2 t ht htS
  have hm : (sortE r.l)[t] ∈ r.l := sortE_mem.1 (List.getElem_mem htS)
  have hke := (hs.rok.2 _ hm).2.1
  have hok := hs.dok.all _ (List.getElem_mem ht)
  have hbo := (hs.rok.2 _ hm).1
  have hl5 := hs.dok.len
  have hget : getW l (knum (sortE r.l)[t].i (sortE r.l)[t].s) = some l[t] := by
    have hn : l[t].n = knum (sortE r.l)[t].i (sortE r.l)[t].s := by rw [knum, if_pos hke]; exact hre.1
    rw [← hn]
    unfold getW
    rw [List.find?_eq_some_iff_getElem]
    refine ⟨by simp, t, ht, rfl, fun j hj => ?_⟩
    have := hs.dok.ris j t hj ht
    simp; omega
  have hi : l[t].n / 256 = (sortE r.l)[t].i ∧ l[t].n % 256 = (sortE r.l)[t].s := by
    rw [hre.1]
    simp only [okK, Bool.and_eq_true, decide_eq_true_eq] at hke
    omega
  rw [hi.1, hi.2]
  have z0 : lv ≠ m.length := by omega
  have z1 : ¬ m.length = m.length + 1 + 1 := by omega
  have z2 : ¬ m.length = m.length + 1 + 1 + 1 := by omega
  have z3 : ¬ m.length = m.length + 1 + 1 + 1 + 1 := by omega
  have z4 : ¬ m.length = m.length + 1 + 1 + 1 + 1 + 1 := by omega
  have hlast : ∀ (own : Lvl), DA (own :: o1 :: o2 :: o3 :: o4 :: own50 lv a r (sortE r.l) 1 t :: m) lv a a' ver l c := fun own => (((((hd.cons _).cons _).cons _).cons _).cons _).cons _
  have hraw : ∀ own : Lvl, app E false (.fn 26 []) [.ptr lv a [] 0, ky (sortE r.l)[t].i (sortE r.l)[t].s] (own :: o1 :: o2 :: o3 :: o4 :: own50 lv a r (sortE r.l) 1 t :: m) = _ := fun own => app26 (.inr ⟨lv, a, rfl⟩) (finds (hlast own) hs.dok _ _) (okO_get hs.dok _)
  have hspec : ∀ own : Lvl, app E false (.fn 95 []) [.ptr lv a [] 0, ky (sortE r.l)[t].i (sortE r.l)[t].s] (own :: o1 :: o2 :: o3 :: o4 :: own50 lv a r (sortE r.l) 1 t :: m) = _ := fun own => app95 (.inr ⟨lv, a, rfl⟩) (finds (hlast own) hs.dok _ _)
  rw [hget] at hraw hspec
  simp only [rawB, specP, Option.isSome_some] at hraw hspec
  obtain ⟨r0, r1, r2, r3, r4, r5⟩ := hre
  rw [r1, r2, r3, r4] at hspec
  rw [r5] at hraw
  have hti : (t : Int) < (sortE r.l).length := by omega
  have htn : ¬ ((sortE r.l).length : Int) ≤ t := by omega
  have hw := wrap_succ t (by omega)
  generalize l[t].nl = nlb at *
  generalize hS : sortE r.l = S at *
  have hgE : (Es S)[t]? = some S[t].enc := by rw [List.getElem?_eq_getElem (by rw [encs_len]; exact htS), es_getE]
  generalize hy : S[t] = y at *
  simp only [own50] at hraw hspec
  have bb : ((strOf y.b).toList == (strOf y.b).toList) = true := by simp
  rw [app_rnd E h50 (rd := rd50) rfl (by simp [rd50, c50, own50, z1, z2, z3, z4])]
  simp [rd50, c50, own50, z0, z1, z2, z3, z4, hraw, hspec, hti, htn, htS, hgE, hy, es_getE, Ent.enc, Ent.cs, bytesP_bs, hw, bb]
theorem app50 : app E false (.fn 50 []) [.ptr lv a [] 0, r.pv] m = some (.bool true, emptyBag, m) := by
  have hlt := hd.lv_lt
  have hlv : lv ≠ m.length := by omega
  have h34' := app34 r.nl r.l r.c hs.rok.1
  have h46' := app46 ([(6, [.int .i64 0]), (5, [El false (sortE r.l)]), (4, [.bool false]), (3, [El r.nl r.l, .int .i64 r.c]), (2, [.ptr lv a [] 0])] :: m) lv a (by simp; omega)
  obtain ⟨⟨q, n⟩, h1, h2⟩ := @app88 (Nat × Int) (fun p => own50 lv a r (sortE r.l) p.1 p.2 :: m) (m.length + 1) (fun p => rfl) l hs.dok 50 0 [2, 4, 5, 6] [.ptr m.length 2 [] 0, .ptr m.length 4 [] 0, .ptr m.length 5 [] 0, .ptr m.length 6 [] 0] m.length 500000000 (by omega)
    (fun i p => p = (0, (i : Int))) (fun p => False) (fun i hi p o1 o2 o3 o4 hp => by
      subst hp
      exact ⟨true, (0, ((i + 1 : Nat) : Int)), rnd50 hd hs o1 o2 o3 o4 i hi, by rw [if_pos rfl]⟩) (0, 0) rfl m.length 17000 lv a a' ver c (by simp [own50]) (hd.cons _)
  have e := h1.resolve_right id
  simp only [Prod.mk.injEq] at e
  obtain ⟨rfl, rfl⟩ := e
  simp only [own50] at h2
  have h45' : ∀ own : Lvl, app E false (.fn 45 []) [.ptr lv a [] 0] (own :: m) = _ := fun own => app45 (hd.cons own)
  have h24' : ∀ own : Lvl, app E false (.fn 24 []) [.ptr lv a [] 0] (own :: m) = _ := fun own => app24 (hd.cons own)
  have hSl : l.length = (sortE r.l).length := f2_len hs.f2
  have hch := hs.ch
  rw [app_fn E rfl h50 rfl]
  have z : lv ≠ m.length + 1 := by omega
  have hq : ((l.length : Int) == ((sortE r.l).length : Nat)) = true := by rw [hSl]; simp
  have hq2 : (c == r.c) = true := by simp [hch]
  generalize sortE r.l = S at *
  simp only [RD.pv] at *
  simp [c50, h34', h46', h2, h45', h24', hlv, z, hq, hq2, bagName, PV.retag, PV.retag1, hSl, hch]
end
end Go.Proofs.Ytnagbdodcjlbjaa.ZJM.DC
