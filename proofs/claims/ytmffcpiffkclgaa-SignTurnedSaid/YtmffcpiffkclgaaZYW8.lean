/- What was stored is loaded: the plain law. -/
import Derived.Test.YtmffcpiffkclgaaZYW4
import Derived.Test.YtmffcpiffkclgaaZYI4
set_option linter.unusedSimpArgs false
set_option linter.unusedVariables false
set_option maxRecDepth 10000
namespace Go.Proofs.Ytmffcpiffkclgaa.ZJM.DC
open Go.Proofs.Ytmffcpiffkclgaa.ZJM Go.RowKit
theorem num_set1 {r : RD} (hr : r.ok) {i s n : Int} (h : setC r i s n = 0) : numR (setR r i s n) i s = (n,true) := by
 have hb := slotB_set h ⟨i,s,0⟩
 rw [if_pos ⟨rfl,rfl⟩] at hb
 unfold numR
 unfold slotB at hb
 simp only at hb
 rcases skel_entry (skel_set r i s n) i s with ⟨h1,h2⟩ | ⟨j,x,x',h1,h2,h3,h4,e1,e2,e3,e4⟩
 ·have := set_some h; rw [h2] at this; cases this
 ·rw [h1] at hb ⊢
  simp only [h3] at hb ⊢
  obtain ⟨hjl,hje⟩ := List.getElem?_eq_some_iff.1 h4
  have hok := hr.2 x' (by rw [← hje]; exact List.getElem_mem hjl)
  have hc : setC r i s n = if x'.a = 4 then 12 else if x'.k = 8 then 2 else if n < x'.l ∨ x'.h < n then 14 else 0 := by simp [setC,h2,h4]
  have hB : setB r i s n = kb (ksz x'.k).toNat n := by simp [setB,h2,h4]
  rw [hc] at h
  by_cases a4 : x'.a = 4
  ·rw [if_pos a4] at h; omega
  rw [if_neg a4] at h
  by_cases k8 : x'.k = 8
  ·rw [if_pos k8] at h; omega
  rw [if_neg k8] at h
  by_cases q : n < x'.l ∨ x'.h < n
  ·rw [if_pos q] at h; omega
  have hz := may_num hok.2.2.1 k8
  have hp := put_fits hok.2.2.1 hz (show x'.l ≤ n by omega) (show n ≤ x'.h by omega)
  have hg := get_kb (may_put hok.2.2.1 hz (show x'.l ≤ n by omega) (show n ≤ x'.h by omega))
  rw [hb,hB,e1,e2,e3,e4,numA,if_pos ⟨hz,hp⟩,hg]
theorem num_set2 {r : RD} {i s n i' s' : Int} (h : ¬ (i' = i ∧ s' = s)) : numR (setR r i s n) i' s' = numR r i' s' := by
 by_cases hz : setC r i s n = 0
 ·refine skel_num (skel_set r i s n) ?_
  rw [slotB_set hz,if_neg h]
 ·rw [setR_no hz]
def spK (i s : Int) : Option (Int × Int × Int) := (findIx rAll.l i s).bind fun n => (rAll.l[n]?).map fun x => (x.k,x.l,x.h)
def isK (i s : Int) : Bool := match spK i s with
 | none => false
 | some q => decide (0 < ksz q.1)
def isU (i s : Int) : Bool := match spK i s with
 | none => false
 | some q => decide (0 < ksz q.1) && (decide (q.2.1 = 0) && decide (q.2.2 = 4294967295))
theorem keys_all : ((List.range 4).all fun c => ((List.range 7).all fun (j : Nat) => isK (4865 + (c : Int)) (j : Int)) && (isK (4993 + (c : Int)) 0 && (((List.range 8).all fun (j : Nat) => isU (4993 + (c : Int)) ((j : Int) + 1)) && isK 5119 ((c : Int) + 1)))) = true := by kernel_rfl
theorem num_in {r : RD} (hk : skel r = skel rAll) (hr : r.ok) {i s : Int} {q : Int × Int × Int} (hq : spK i s = some q) (hz : 0 < ksz q.1) : (numR r i s).2 = true ∧ q.2.1 ≤ (numR r i s).1 ∧ (numR r i s).1 ≤ q.2.2 := by
 unfold numR
 unfold spK at hq
 rcases skel_entry hk i s with ⟨h1,h2⟩ | ⟨j,x,x',h1,h2,h3,h4,e1,e2,e3,e4⟩
 ·rw [h2] at hq; cases hq
 ·rw [h2] at hq
  simp only [Option.bind_some,h4,Option.map_some,Option.some.injEq] at hq
  subst hq
  rw [h1]
  simp only [h3]
  obtain ⟨hjl,hje⟩ := List.getElem?_eq_some_iff.1 h3
  have hok := hr.2 x (by rw [← hje]; exact List.getElem_mem hjl)
  simp only at hz ⊢
  rw [← e1] at hz
  have hg := fits_get hz hok.2.2.2
  rw [numA,if_pos ⟨hz,hok.2.2.2⟩,← e3,← e4]
  exact ⟨rfl,hg.2.2.2⟩
theorem isK_num {r : RD} (hk : skel r = skel rAll) (hr : r.ok) {i s : Int} (h : isK i s = true) : (numR r i s).2 = true := by
 unfold isK at h
 cases hq : spK i s with
 | none => rw [hq] at h; cases h
 | some q =>
  rw [hq] at h
  simp only [decide_eq_true_eq] at h
  exact (num_in hk hr hq h).1
theorem isU_num {r : RD} (hk : skel r = skel rAll) (hr : r.ok) {i s : Int} (h : isU i s = true) : (numR r i s).2 = true ∧ 0 ≤ (numR r i s).1 ∧ (numR r i s).1 ≤ 4294967295 := by
 unfold isU at h
 cases hq : spK i s with
 | none => rw [hq] at h; cases h
 | some q =>
  rw [hq] at h
  simp only [Bool.and_eq_true,decide_eq_true_eq] at h
  have := num_in hk hr hq h.1
  rw [h.2.1,h.2.2] at this
  exact this
theorem keys_at {c : Int} (h0 : 0 ≤ c) (h4 : c < 4) : (∀ j : Nat,j < 7 → isK (4865 + c) (j : Int) = true) ∧ isK (4993 + c) 0 = true ∧ (∀ j : Nat,j < 8 → isU (4993 + c) ((j : Int) + 1) = true) ∧ isK 5119 (c + 1) = true := by
 have h := List.all_eq_true.1 keys_all c.toNat (List.mem_range.2 (by omega))
 have e : (c.toNat : Int) = c := by omega
 rw [e] at h
 simp only [Bool.and_eq_true,List.all_eq_true,List.mem_range] at h
 exact h
theorem load_ok {r : RD} (hk : skel r = skel rAll) (hr : r.ok) {c : Int} (h0 : 0 ≤ c) (h4 : c < 4) : loadOk r c = true := by
 obtain ⟨k1,k2,k3,k4⟩ := keys_at h0 h4
 have hT : ∀ j : Nat,j < 7 → (numR r (4865 + c) (j : Int)).2 = true := fun j hj => isK_num hk hr (k1 j hj)
 simp only [loadOk,hasM,hasT,Bool.and_eq_true,List.all_eq_true,List.mem_range]
 exact ⟨⟨⟨⟨⟨⟨⟨⟨hT,hT 1 (by omega)⟩,hT 2 (by omega)⟩,hT 3 (by omega)⟩,hT 5 (by omega)⟩,hT 6 (by omega)⟩,isK_num hk hr k2⟩,fun j hj => (isU_num hk hr (k3 j hj)).1⟩,isK_num hk hr k4⟩
theorem load_bd {r : RD} (hk : skel r = skel rAll) (hr : r.ok) {c : Int} (h0 : 0 ≤ c) (h4 : c < 4) : ∀ j : Nat,j < 8 → 0 ≤ (numR r (4993 + c) ((j : Int) + 1)).1 ∧ (numR r (4993 + c) ((j : Int) + 1)).1 ≤ 4294967295 := by
 obtain ⟨k1,k2,k3,k4⟩ := keys_at h0 h4
 exact fun j hj => (isU_num hk hr (k3 j hj)).2
def slC (x : Slot) (q : Nat) : Int := if q = 0 then x.i else if q = 1 then x.s else x.n
theorem loadT_lo (r : RD) (c : Int) (t p : Nat) (hp : p < 6) : loadT r c t p = headL r c p := by
 induction t with
 | zero => rfl
 | succ t ih =>
  rw [loadT]
  split
  ·rw [up3,if_neg (by omega),if_neg (by omega),if_neg (by omega),ih]
  ·exact ih
theorem loadT_hi (r : RD) (c : Int) (t j q : Nat) (hq : q < 3) : loadT r c t (j * 3 + 6 + q) = if j < t ∧ (j : Int) < numM r c then slC (slotP (numR r (4993 + c) ((j : Int) + 1)).1) q else 0 := by
 induction t with
 | zero =>
  rw [if_neg (by omega)]
  unfold loadT headL
  rw [if_neg (by omega),if_neg (by omega),if_neg (by omega),if_neg (by omega),if_neg (by omega),if_neg (by omega)]
 | succ t ih =>
  rw [loadT]
  by_cases hn : (t : Int) < numM r c
  ·rw [if_pos hn,up3]
   by_cases e : j = t
   ·subst e
    rw [if_pos (by omega : j < j + 1 ∧ (j : Int) < numM r c)]
    unfold slC
    rcases (by omega : q = 0 ∨ q = 1 ∨ q = 2) with rfl | rfl | rfl
    ·simp
    ·rw [if_neg (by omega),if_pos rfl]; simp
    ·rw [if_neg (by omega),if_neg (by omega),if_pos rfl]; simp
   ·rw [if_neg (by omega),if_neg (by omega),if_neg (by omega),ih]
    by_cases h : j < t ∧ (j : Int) < numM r c
    ·rw [if_pos h,if_pos (by omega)]
    ·rw [if_neg h,if_neg (by omega)]
  ·rw [if_neg hn,ih]
   by_cases h : j < t ∧ (j : Int) < numM r c
   ·rw [if_pos h,if_pos (by omega)]
   ·rw [if_neg h,if_neg (by omega)]
end Go.Proofs.Ytmffcpiffkclgaa.ZJM.DC
set_option linter.unusedSimpArgs false
set_option linter.unusedVariables false
set_option maxRecDepth 10000
namespace Go.Proofs.Ytmffcpiffkclgaa.ZJM.DC
open Go.Proofs.Ytmffcpiffkclgaa.ZJM Go.RowKit
end Go.Proofs.Ytmffcpiffkclgaa.ZJM.DC
set_option linter.unusedSimpArgs false
set_option linter.unusedVariables false
set_option maxRecDepth 10000
namespace Go.Proofs.Ytmffcpiffkclgaa.ZJM.DC
open Go.Proofs.Ytmffcpiffkclgaa.ZJM Go.RowKit
theorem CF_cons (a : Int) (f : Nat → Int) (n : Nat) : CF (fun j => if j = 0 then a else f (j - 1)) (n + 1) = PV.int .i64 a :: CF f n := by
 unfold CF
 rw [List.range_succ_eq_map,List.map_cons,List.map_map]
 congr 1
abbrev chanT : List CT := [.int .i64,.int .i64,.int .i64,.int .i64,.int .i64,.int .i64,.int .i64,.int .i64,.int .i64,.int .i64,.int .i64,.int .i64,.int .i64,.int .i64,.int .i64,.int .i64,.int .i64,.int .i64,.int .i64,.int .i64,.int .i64,.int .i64,.int .i64,.int .i64,.int .i64,.int .i64,.int .i64,.int .i64,.int .i64,.int .i64]
end Go.Proofs.Ytmffcpiffkclgaa.ZJM.DC
