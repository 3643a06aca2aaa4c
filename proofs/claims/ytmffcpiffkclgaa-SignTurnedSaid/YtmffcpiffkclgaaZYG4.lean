/- Signatures; which tables are approved. -/
import Derived.Test.YtmffcpiffkclgaaZYG1
import Derived.Test.YtmffcpiffkclgaaZYX1
import Derived.Test.YtmffcpiffkclgaaZYV1
set_option linter.unusedSimpArgs false
set_option linter.unusedVariables false
set_option maxRecDepth 10000
namespace Go.Proofs.Ytmffcpiffkclgaa.ZJM.DC
open Go.Proofs.Ytmffcpiffkclgaa.ZJM Go.RowKit
theorem put_okB {w : Int × List Int} (h : OkB w.2) (k n : Int) : OkB (putS w k n).2 := by
 simp only [putS,wB]
 split
 ·split
  ·intro x hx
   rcases List.mem_append.1 hx with hx | hx
   ·exact h x hx
   ·exact kb_ok _ _ x hx
  ·exact h
 ·exact h
theorem slW_okB {w : Int × List Int} (h : OkB w.2) (L : List Slot) : OkB (slW w L).2 := by
 induction L generalizing w with
 | nil => exact h
 | cons x r ih => exact ih (put_okB h 4 _)
theorem tab_okB {f : Nat → Int} {b : List Int} (h : tabB f = some b) : OkB b ∧ b.length ≤ 56 := by
 unfold tabB at h
 split at h
 ·next h5 =>
  split at h
  ·split at h
   ·cases h
    exact ⟨slW_okB (put_okB (put_okB (put_okB (put_okB (put_okB (put_okB (fun x hx => by cases hx) _ _) _ _) _ _) _ _) _ _) _ _) _,tabW_len f h5.2⟩
   ·cases h
  ·cases h
 ·cases h
def signA (f : Nat → Int) : Int × Int := match tabB f with
 | some b => (crcI b,0)
 | none => (0,2)
theorem appx60 (f : Nat → Int) : app E false (.fn 60 []) [.agg (CF f 30)] [] = some (.tup [.int .i64 (signA f).1,.int .i64 (signA f).2],emptyBag,[]) := by
 have h6 := appy6 f
 unfold signA
 cases hb : tabB f with
 | none =>
  rw [hb] at h6
  simp only [blO] at h6
  rw [app_fn E rfl hx60 rfl]
  simp [-isPlace,-moves,cx60,h6]
 | some b =>
  rw [hb] at h6
  simp only [blO] at h6
  obtain ⟨ho,hl⟩ := tab_okB hb
  have h28 := appx127 b ho (by omega)
  rw [app_fn E rfl hx60 rfl]
  simp [-isPlace,-moves,cx60,h6,h28]
section
variable {m : Mem} {lv a a' ver : Nat} {l : List Row} {c : Int} (hd : DA m lv a a' ver l c) {r : RD} (hs : Sim l c r) (hk : skel r = skel rAll)
include hd hs in
theorem appx182 (k : Nat) (h4 : k < 4) : app E false (.fn 182 []) [.ptr lv a [] 0,.int .i64 (k : Int)] m = some (.tup [.int .i64 (numR r 5119 ((k : Int) + 1)).1,.bool (numR r 5119 ((k : Int) + 1)).2],emptyBag,m) := by
 have hlt := hd.lv_lt
 have hlv : lv ≠ m.length := by omega
 have e1 := do_num (hd.cons []) hs 5119 ((k : Int) + 1)
 have hw : IntKind.i64.wrap ((k : Int) + 1) = (k : Int) + 1 := wrap_id _ (by omega) (by omega)
 have k0 : ¬ (k : Int) < 0 := by omega
 have k4 : ¬ (4 : Int) ≤ (k : Int) := by omega
 rw [app_fn E rfl hx182 rfl]
 generalize numR r 5119 ((k : Int) + 1) = w at *
 simp [cx182,k0,k4,hw,e1,hlv]
def apprA (r : RD) (k : Nat) : Bool := (chF r k 0 == 0) || (fitsC r (chF r k) && ((numR r 5119 ((k : Int) + 1)).2 && (((signA (chF r k)).2 == 0) && ((numR r 5119 ((k : Int) + 1)).1 == (signA (chF r k)).1))))
include hd hs hk in
theorem appx174 (k : Nat) (h4 : k < 4) : app E false (.fn 174 []) [.ptr lv a [] 0,.int .i64 (k : Int)] m = some (.bool (apprA r k),emptyBag,m) := by
 have hlt := hd.lv_lt
 have hlv : lv ≠ m.length := by omega
 have z := CF_zero30
 have h31 := appx31 (hd.cons []) hs (k : Int) (by omega) (by omega)
 rw [load_ok hk hs.rok (by omega) (by omega),if_pos rfl,eOf_t] at h31
 change app E false (.fn 31 []) _ _ = some (.tup [.agg (CF (chF r k) 30),_],_,_) at h31
 have hd2 := hd.cons [(5,CF (chF r k) 30)]
 have h121 := appx182 hd2 hs k h4
 have h60 := appx60 (chF r k)
 have h69 := appx29 hd2 hs (chF r k)
 have k0 := CF_get (chF r k) 30 (k := 0) (by omega)
 unfold apprA
 generalize chF r k = f at *
 generalize numR r 5119 ((k : Int) + 1) = w at *
 generalize signA f = s at *
 generalize fitsC r f = ft at *
 rw [app_fn E rfl hx174 rfl]
 by_cases h0 : f 0 = 0
 ·simp [-isPlace,-moves,cx174,← z,h31,k0,h0,hlv]
 ·have h0' : (f 0 == 0) = false := by simpa using h0
  obtain ⟨w1,w2⟩ := w
  obtain ⟨s1,s2⟩ := s
  simp only at *
  cases ft <;> cases w2 <;> cases hs2 : (s2 == 0) <;> simp [-isPlace,-moves,cx174,← z,h31,h121,h60,h69,k0,h0',hs2,hlv]
def faultsA (r : RD) (t : Nat) : List Int := ((List.range t).filter fun k => !apprA r k).map fun (k : Nat) => (k : Int)
def goodA (r : RD) : Bool := flagA r && (apprA r 0 && (apprA r 1 && (apprA r 2 && apprA r 3)))
theorem faults_succ (r : RD) (t : Nat) : faultsA r (t + 1) = if apprA r t = true then faultsA r t else faultsA r t ++ [(t : Int)] := by
 unfold faultsA
 rw [List.range_succ,List.filter_append]
 cases h : apprA r t <;> simp [h]
theorem faults_len (r : RD) (t : Nat) : (faultsA r t).length ≤ t := by
 unfold faultsA
 rw [List.length_map]
 exact Nat.le_trans (List.length_filter_le _ _) (by simp)
theorem faults_good (r : RD) : (((faultsA r 4).length : Int) == 0) = (apprA r 0 && (apprA r 1 && (apprA r 2 && apprA r 3))) := by
 have e : List.range 4 = [0,1,2,3] := rfl
 unfold faultsA
 rw [e]
 cases h0 : apprA r 0 <;> cases h1 : apprA r 1 <;> cases h2 : apprA r 2 <;> cases h3 : apprA r 3 <;> simp [List.filter,h0,h1,h2,h3] <;> decide
def S163 (m : Mem) (lv a : Nat) (F : List Int) (t : Nat) : St := ⟨[(0,.ptr lv a [] 0),(3,.lst (some 3) (decide (F = [])) 1 (Ks F)),(5,.int .i64 t)],[(3,F.length,3)],[],[],m⟩
theorem ks_snoc (F : List Int) (x : Int) : Ks (F ++ [x]) = Ks F ++ [.int .i64 x] := encs_append F [x]
theorem ks_len (F : List Int) : (Ks F).length = F.length := encs_len F
include hd hs hk in
theorem appx163 : app E false (.fn 163 []) [.ptr lv a [] 0] m = some (.lst none (decide (faultsA r 4 = [])) 1 (Ks (faultsA r 4)),emptyBag,m) := by
 have hlt := hd.lv_lt
 have hlv : lv ≠ m.length := by omega
 have hok := fun a b c => ks_okns (faultsA r 4) a b c
 have hS0 : maskSt [0,3,5] [] [3] [] (S163 m lv a (faultsA r 0) 0) = some (S163 m lv a (faultsA r 0) 0) := by
  simp [S163,hlv,faultsA]
 have hl := loop_eq (mask := maskSt [0,3,5] [] [3] []) (body := Cd.run (app E) cx163.body.inner.body) (fun t => S163 m lv a (faultsA r t) t) 4 (fun t ht => by
  have htI : (t : Int) < 4 := by omega
  have hws := wrap_succ t (by omega)
  have h82 := appx174 (hd.cons []) hs hk t ht
  have hf := faults_succ r t
  have hlen := faults_len r t
  have hx : ((faultsA r t).length + 1) * 8 ≤ maxBytes := by
     have : maxBytes ≥ 1000000 := by decide
     omega
  have hsn := ks_snoc (faultsA r t) (t : Int)
  have hkl := ks_len (faultsA r t)
  have hokF := fun a b c => ks_okns (faultsA r t) a b c
  have hokS := fun a b c => ks_okns (faultsA r t ++ [(t : Int)]) a b c
  cases hq : apprA r t with
  | true =>
   rw [hq] at h82
   rw [if_pos hq] at hf
   simp only [S163,hf]
   generalize faultsA r t = F at *
   generalize hKF : Ks F = KF at *
   simp [-isPlace,-moves,cx163,Cd.inner,Cd.body,htI,hws,h82,hlv,hokF]
  | false =>
   rw [hq] at h82
   rw [if_neg (by rw [hq]; decide)] at hf
   have hne : faultsA r t ++ [(t : Int)] ≠ [] := by simp
   have hl2 : (faultsA r t ++ [(t : Int)]).length = (faultsA r t).length + 1 := by simp
   simp only [S163,hf]
   rw [hl2,hsn]
   rw [hsn] at hokS
   generalize faultsA r t = F at *
   generalize hKF : Ks F = KF at *
   simp [-isPlace,-moves,cx163,Cd.inner,Cd.body,htI,hws,h82,hlv,hx,hkl,hokF,hokS]) (by simp [cx163,Cd.inner,Cd.body,S163]) hS0
 have hl2 := loop_at hS0 hl
 simp only [cx163,Cd.inner,Cd.body,S163] at hl2
 rw [app_fn E rfl hx163 rfl]
 have f0 : faultsA r 0 = [] := rfl
 rw [f0] at hl2
 generalize faultsA r 4 = F at *
 generalize Ks F = KF at *
 simp [cx163,hl2,hlv,hok]
include hd hs hk in
theorem appx126 : app E false (.fn 126 []) [.ptr lv a [] 0] m = some (.bool (goodA r),emptyBag,m) := by
 have h65 := app65f (hd.cons []) hs
 have h46 := appx163 (hd.cons []) hs hk
 have hg := faults_good r
 have hkl := ks_len (faultsA r 4)
 unfold goodA
 rw [← hg]
 generalize faultsA r 4 = F at *
 generalize Ks F = KF at *
 rw [app_fn E rfl hx126 rfl]
 cases hf : flagA r <;> rw [hf] at h65 <;> simp [cx126,h65,h46,hkl]
end
end Go.Proofs.Ytmffcpiffkclgaa.ZJM.DC
set_option linter.unusedSimpArgs false
set_option linter.unusedVariables false
set_option maxRecDepth 10000
namespace Go.Proofs.Ytmffcpiffkclgaa.ZJM.DC
open Go.Proofs.Ytmffcpiffkclgaa.ZJM Go.RowKit
def spQ (i s : Int) : Option (Int × Int × Int × Int) := (findIx rAll.l i s).bind fun n => (rAll.l[n]?).map fun x => (x.a,x.k,x.l,x.h)
theorem setC_spQ {r : RD} (hk : skel r = skel rAll) {i s : Int} {q : Int × Int × Int × Int} (hq : spQ i s = some q) (n : Int) : setC r i s n = if q.1 = 4 then 12 else if q.2.1 = 8 then 2 else if n < q.2.2.1 ∨ q.2.2.2 < n then 14 else 0 := by
 rw [skel_setC hk]
 unfold spQ at hq
 unfold setC
 cases hf : findIx rAll.l i s with
 | none => rw [hf] at hq; cases hq
 | some j =>
  rw [hf] at hq
  simp only [Option.bind_some] at hq ⊢
  cases hx : rAll.l[j]? with
  | none => rw [hx] at hq; cases hq
  | some x =>
   rw [hx] at hq
   simp only [Option.map_some,Option.some.injEq] at hq
   subst hq
   rfl
theorem signs_all : ((List.range 4).all fun c => spQ 5119 ((c : Int) + 1) == some (3,3,0,65535)) = true := by kernel_rfl
theorem set_sign {r : RD} (hk : skel r = skel rAll) {k : Nat} (h4 : k < 4) {n : Int} (h0 : 0 ≤ n) (h1 : n ≤ 65535) : setC r 5119 ((k : Int) + 1) n = 0 := by
 have h := List.all_eq_true.1 signs_all k (List.mem_range.2 h4)
 have h2 : spQ 5119 ((k : Int) + 1) = some (3,3,0,65535) := eq_of_beq h
 rw [setC_spQ hk h2,if_neg (by decide),if_neg (by decide),if_neg (by simp only; omega)]
def isB (i s lo hi : Int) : Bool := match spK i s with
 | none => false
 | some q => decide (0 < ksz q.1) && (decide (lo ≤ q.2.1) && decide (q.2.2 ≤ hi))
theorem isB_num {r : RD} (hk : skel r = skel rAll) (hr : r.ok) {i s lo hi : Int} (h : isB i s lo hi = true) : lo ≤ (numR r i s).1 ∧ (numR r i s).1 ≤ hi := by
 unfold isB at h
 cases hq : spK i s with
 | none => rw [hq] at h; cases h
 | some q =>
  rw [hq] at h
  simp only [Bool.and_eq_true,decide_eq_true_eq] at h
  have := num_in hk hr hq h.1
  omega
theorem bounds_all : ((List.range 4).all fun c => isB (4865 + (c : Int)) 1 0 2 && (isB (4865 + (c : Int)) 2 1 65535 && (isB (4865 + (c : Int)) 3 1 65535 && (isB (4865 + (c : Int)) 5 0 4294967295 && (isB (4865 + (c : Int)) 6 0 4294967295 && isB (4993 + (c : Int)) 0 0 8))))) = true := by kernel_rfl
theorem slot_ok {n : Int} (h0 : 0 ≤ n) (h1 : n ≤ 4294967295) : wordA (slotP n).i (slotP n).s (slotP n).n = (n,0) := by
 have hw : wfits 4 n = true := by rw [wfits4]; simp [h0,h1]
 rw [slotP,if_pos hw]
 unfold wordA
 have e : n / 65536 * 65536 + n / 256 % 256 * 256 + n % 256 = n := by omega
 have hs : okS (n / 65536) (n / 256 % 256) (n % 256) = true := by
  simp only [okS,Bool.and_eq_true,decide_eq_true_eq]; omega
 simp only
 rw [if_pos hs,e]
theorem put_fit {w : Int × List Int} (h : w.1 = 0) {k n : Int} (hf : wfits k n = true) : putS w k n = (0,w.2 ++ kb (ksz k).toNat n) := by
 unfold putS wE wB
 rw [if_pos h,if_pos hf,if_pos h,if_pos hf]
theorem wfits2 (n : Int) (h0 : 0 ≤ n) (h1 : n ≤ 255) : wfits 2 n = true := by
 have e1 : ksz 2 = 1 := rfl
 have e2 : klo 2 = 0 := rfl
 have e3 : khi 2 = 255 := rfl
 simp only [wfits,e1,e2,e3,Bool.and_eq_true,decide_eq_true_eq]; omega
theorem wfits3 (n : Int) (h0 : 0 ≤ n) (h1 : n ≤ 65535) : wfits 3 n = true := by
 have e1 : ksz 3 = 2 := rfl
 have e2 : klo 3 = 0 := rfl
 have e3 : khi 3 = 65535 := rfl
 simp only [wfits,e1,e2,e3,Bool.and_eq_true,decide_eq_true_eq]; omega
theorem wfits4' (n : Int) (h0 : 0 ≤ n) (h1 : n ≤ 4294967295) : wfits 4 n = true := by rw [wfits4]; simp [h0,h1]
theorem slW_fit {w : Int × List Int} (h : w.1 = 0) {L : List Slot} (hL : ∀ x ∈ L,wfits 4 (wordA x.i x.s x.n).1 = true) : (slW w L).1 = 0 := by
 induction L generalizing w with
 | nil => exact h
 | cons x r ih =>
  have := put_fit h (hL x (by simp))
  exact ih (w := putS w 4 (wordA x.i x.s x.n).1) (by rw [this]) fun y hy => hL y (by simp [hy])
theorem load_slot {r : RD} (hk : skel r = skel rAll) (hr : r.ok) {k : Nat} (h4 : k < 4) {j : Nat} (hj : (j : Int) < chF r k 5) (h8 : j < 8) : slF (chF r k) j = slotP (numR r (4993 + (k : Int)) ((j : Int) + 1)).1 := by
 have h5 : chF r k 5 = numM r (k : Int) := loadT_5 r k 8
 rw [h5] at hj
 unfold slF chF
 have e0 := loadT_hi r (k : Int) 8 j 0 (by omega)
 have e1 := loadT_hi r (k : Int) 8 j 1 (by omega)
 have e2 := loadT_hi r (k : Int) 8 j 2 (by omega)
 rw [if_pos ⟨h8,hj⟩] at e0 e1 e2
 rw [show j * 3 + 6 = j * 3 + 6 + 0 by omega,e0,show j * 3 + 6 + 0 + 1 = j * 3 + 6 + 1 by omega,show j * 3 + 6 + 0 + 2 = j * 3 + 6 + 2 by omega,e1,e2]
 rfl
theorem load_bounds {r : RD} (hk : skel r = skel rAll) (hr : r.ok) {k : Nat} (h4 : k < 4) : (0 ≤ chF r k 0 ∧ chF r k 0 ≤ 2) ∧ (1 ≤ chF r k 1 ∧ chF r k 1 ≤ 65535) ∧ (1 ≤ chF r k 2 ∧ chF r k 2 ≤ 65535) ∧ (0 ≤ chF r k 3 ∧ chF r k 3 ≤ 4294967295) ∧ (0 ≤ chF r k 4 ∧ chF r k 4 ≤ 4294967295) ∧ (0 ≤ chF r k 5 ∧ chF r k 5 ≤ 8) := by
 have h := List.all_eq_true.1 bounds_all k (List.mem_range.2 h4)
 simp only [Bool.and_eq_true] at h
 obtain ⟨b0,b1,b2,b3,b4,b5⟩ := h
 have e : ∀ p,p < 6 → chF r k p = headL r k p := fun p hp => loadT_lo r k 8 p hp
 rw [e 0 (by omega),e 1 (by omega),e 2 (by omega),e 3 (by omega),e 4 (by omega),e 5 (by omega)]
 exact ⟨isB_num hk hr b0,isB_num hk hr b1,isB_num hk hr b2,isB_num hk hr b3,isB_num hk hr b4,isB_num hk hr b5⟩
theorem sign_ok {r : RD} (hk : skel r = skel rAll) (hr : r.ok) {k : Nat} (h4 : k < 4) : (signA (chF r k)).2 = 0 ∧ 0 ≤ (signA (chF r k)).1 ∧ (signA (chF r k)).1 ≤ 65535 := by
 obtain ⟨b0,b1,b2,b3,b4,b5⟩ := load_bounds hk hr h4
 have hbd := load_bd hk hr (c := (k : Int)) (by omega) (by omega)
 have hsl : ∀ x ∈ slsF (chF r k) (chF r k 5).toNat,(wordA x.i x.s x.n).2 = 0 ∧ wfits 4 (wordA x.i x.s x.n).1 = true := by
  intro x hx
  obtain ⟨j,hj,rfl⟩ := slsF_mem hx
  rw [load_slot hk hr h4 (by omega) (by omega)]
  obtain ⟨h1,h2⟩ := hbd j (by omega)
  rw [slot_ok h1 h2]
  exact ⟨rfl,wfits4' _ h1 h2⟩
 have hwk : wOk (slsF (chF r k) (chF r k 5).toNat) = true := by
  unfold wOk
  rw [List.all_eq_true]
  exact fun x hx => by simpa using (hsl x hx).1
 have hz : (tabW (chF r k)).1 = 0 := by
  unfold tabW
  refine slW_fit ?_ fun x hx => (hsl x hx).2
  unfold hdW
  rw [put_fit (w := (0,[])) rfl (wfits2 _ b0.1 (by omega)),put_fit rfl (wfits3 _ (by omega) b1.2),put_fit rfl (wfits3 _ (by omega) b2.2),put_fit rfl (wfits4' _ b3.1 b3.2),put_fit rfl (wfits4' _ b4.1 b4.2),put_fit rfl (wfits2 _ b5.1 (by omega))]
 unfold signA tabB
 rw [if_pos b5,if_pos hwk,if_pos hz]
 have := crc_lt (tabW (chF r k)).2
 exact ⟨rfl,this.1,by show crcI _ ≤ 65535; omega⟩
end Go.Proofs.Ytmffcpiffkclgaa.ZJM.DC
set_option linter.unusedSimpArgs false
set_option linter.unusedVariables false
set_option maxRecDepth 10000
namespace Go.Proofs.Ytmffcpiffkclgaa.ZJM.DC
open Go.Proofs.Ytmffcpiffkclgaa.ZJM Go.RowKit
def Tl (r : RD) (t : Nat) : List PV := (List.range t).map fun k => PV.agg (CF (chF r k) 30)
theorem tl_len (r : RD) (t : Nat) : (Tl r t).length = t := by simp [Tl]
theorem tl_snoc (r : RD) (t : Nat) : Tl r (t + 1) = Tl r t ++ [PV.agg (CF (chF r t) 30)] := by
 unfold Tl; rw [List.range_succ,List.map_append]; rfl
theorem tl_data (r : RD) (t : Nat) : PV.datas (Tl r t) = true := PV.datas_mem fun x hx => by
 simp only [Tl,List.mem_map] at hx
 obtain ⟨k,_,rfl⟩ := hx
 simp only [PV.data]; exact CF_data _ _
theorem tl_okns (r : RD) (t : Nat) (a b c) : PV.okns a b c (Tl r t) = true := PV.datas_okns _ _ _ _ (tl_data r t)
theorem tl_get (r : RD) (t k : Nat) (h : k < t) : (Tl r t)[k]? = some (PV.agg (CF (chF r k) 30)) := by simp [Tl,h]
def fitsAll (r : RD) (t : Nat) : Bool := (List.range t).all fun k => fitsC r (chF r k)
theorem fits_succ (r : RD) (t : Nat) : fitsAll r (t + 1) = (fitsAll r t && fitsC r (chF r t)) := by
 unfold fitsAll; rw [List.range_succ,List.all_append]; simp
section
variable {m : Mem} {lv a a' ver : Nat} {l : List Row} {c : Int} (hd : DA m lv a a' ver l c) {r : RD} (hs : Sim l c r) (hk : skel r = skel rAll)
def S162a (m : Mem) (lv a : Nat) (r : RD) (t : Nat) : St := ⟨[(0,.ptr lv a [] 0),(4,.lst (some 4) (decide (t = 0)) 30 (Tl r t)),(10,.int .i64 t)],[(4,t,59)],[],[],m⟩
def S162b (m : Mem) (lv a : Nat) (r : RD) (t : Nat) : St := ⟨[(0,.ptr lv a [] 0),(4,.lst (some 4) false 30 (Tl r 4)),(26,.lst (some 4) false 30 (Tl r 4)),(27,.int .i64 4),(28,.int .i64 t)],[(4,4,59)],[],[],m⟩
include hd hs in
theorem loop162b {st : St} (h0 : maskSt [0,4,26,27,28] [] [4] [] st = some (S162b m lv a r 0)) :
  ∃ e st',loopW (maskSt [0,4,26,27,28] [] [4] []) (Cd.run (app E) (cx162.body.nth 1)) st = some (e,st') ∧ e ≠ .normal ∧ st'.m = m ∧
   ((e = .exit 2 ∧ fitsAll r 4 = true ∧ get st'.f 4 = some (.lst (some 4) false 30 (Tl r 4)) ∧ st'.tops = [(4,4,59)] ∧ st'.own = [] ∧ st'.dead = []) ∨ (e = .ret ∧ fitsAll r 4 = false ∧ get st'.f 2 = some (.lst none true 30 []) ∧ get st'.f 3 = some (.int .i64 14))) := by
 have hlt := hd.lv_lt
 have hlv : lv ≠ m.length := by omega
 have hlv1 : lv ≠ m.length + 1 := by omega
 have hok := fun a b c => tl_okns r 4 a b c
 have z := CF_zero30
 have hlen := tl_len r 4
 refine loop_inv (fun t S => fitsAll r t = true ∧ S = S162b m lv a r t) 4 _ h0 ⟨rfl,rfl⟩ ?_ ?_
 ·rintro t S ht ⟨hall,rfl⟩
  have htI : (t : Int) < 4 := by omega
  have hw := wrap_succ t (by omega)
  have hg := tl_get r 4 t ht
  have hg2 : ∀ h,(Tl r 4)[t]'h = PV.agg (CF (chF r t) 30) := fun h => (List.getElem?_eq_some_iff.1 hg).2
  have h69 := appx29 (hd.cons [(9,CF (chF r t) 30)]) hs (chF r t)
  have hfs := fits_succ r t
  have hbad : fitsC r (chF r t) = false → fitsAll r 4 = false := by
   intro h
   unfold fitsAll
   rw [List.all_eq_false]
   exact ⟨t,List.mem_range.2 ht,by simp [h]⟩
  generalize chF r t = f at *
  cases hq : fitsC r f with
  | true =>
   rw [hq] at h69 hfs
   have hG : Goes (maskSt [0,4,26,27,28] [] [4] []) (S162b m lv a r (t + 1)) (Cd.run (app E) (cx162.body.nth 1) (S162b m lv a r t)) := by
    simp [-isPlace,-moves,cx162,Cd.nth,Cd.loops,Cd.body,S162b,← z,htI,ht,hw,hg,hg2,hlen,hok,h69,hlv,hlv1]
   obtain ⟨st2,q1,q2⟩ := hG.get
   exact .inl ⟨st2,_,q1,q2,by rw [hfs,hall]; rfl,rfl⟩
  | false =>
   rw [hq] at h69
   refine .inr ?_
   have hno := hbad hq
   simp [-isPlace,-moves,cx162,Cd.nth,Cd.loops,Cd.body,S162b,← z,htI,ht,hw,hg,hg2,hlen,hok,h69,hlv,hlv1,EndsL]
   exact hno
 ·rintro S ⟨hall,rfl⟩
  simp [cx162,Cd.nth,Cd.loops,Cd.body,S162b,EndsL]
  exact hall
include hd hs hk in
theorem appx162 : app E false (.fn 162 []) [.ptr lv a [] 0] m = some (.tup [if fitsAll r 4 = true then .lst none false 30 (Tl r 4) else .lst none true 30 [],.int .i64 (if fitsAll r 4 = true then 0 else 14)],emptyBag,m) := by
 have hlt := hd.lv_lt
 have hlv : lv ≠ m.length := by omega
 have hlv1 : lv ≠ m.length + 1 := by omega
 have z := CF_zero30
 have hok := fun a b c => tl_okns r 4 a b c
 have hlen4 := tl_len r 4
 have t0 : Tl r 0 = [] := rfl
 have hS0 : maskSt [0,4,10] [] [4] [] (S162a m lv a r 0) = some (S162a m lv a r 0) := by
  simp [S162a,hlv,t0]
 have hl := loop_eq (mask := maskSt [0,4,10] [] [4] []) (body := Cd.run (app E) cx162.body.inner.body) (fun t => S162a m lv a r t) 4 (fun t ht => by
  have htI : (t : Int) < 4 := by omega
  have hw := wrap_succ t (by omega)
  have h31 := appx31 (hd.cons []) hs (t : Int) (by omega) (by omega)
  rw [load_ok hk hs.rok (by omega) (by omega),if_pos rfl,eOf_t] at h31
  change app E false (.fn 31 []) _ _ = some (.tup [.agg (CF (chF r t) 30),_],_,_) at h31
  have hsn := tl_snoc r t
  have hln := tl_len r t
  have hokT := fun a b c => tl_okns r t a b c
  have hokS := fun a b c => tl_okns r (t + 1) a b c
  rw [hsn] at hokS
  have hx : (t + 1) * 240 ≤ maxBytes := by
     have : maxBytes ≥ 1000000 := by decide
     omega
  have hd0 : decide (t + 1 = 0) = false := by simp
  simp only [S162a,hsn,hd0]
  generalize chF r t = f at *
  simp [-isPlace,-moves,cx162,Cd.inner,Cd.body,← z,htI,hw,h31,hlv,hlv1,hln,hokT,hokS,hx]) (by simp [cx162,Cd.inner,Cd.body,S162a]) hS0
 have hl2 := loop_at hS0 hl
 have hS1 : maskSt [0,4,26,27,28] [] [4] [] (S162b m lv a r 0) = some (S162b m lv a r 0) := by
  simp [S162b,hlv,hok]
 obtain ⟨e,⟨f',tops',own',dead',m'⟩,q1,q2,gm,q3⟩ := loop162b hd hs hS1
 have hm := loop_at hS1 q1
 simp only at gm
 subst gm
 simp only [cx162,Cd.inner,Cd.body,S162a] at hl2
 simp only [cx162,Cd.nth,Cd.loops,Cd.body,S162b,List.nil_append,List.cons_append,List.getElem?_cons_succ,List.getElem?_cons_zero,Option.getD_some] at hm
 rw [t0] at hl2
 rw [app_fn E rfl hx162 rfl]
 rcases q3 with ⟨rfl,hz,g1,g2,g3,g4⟩ | ⟨rfl,hz,g1,g2⟩
 ·simp only at g1 g2 g3 g4
  subst g2 g3 g4
  rw [hz]
  generalize Tl r 4 = TL at *
  simp [-isPlace,-moves,cx162,hl2,hm,g1,hlv,hok,hlen4]
 ·simp only at g1 g2
  rw [hz]
  generalize Tl r 4 = TL at *
  simp [-isPlace,-moves,cx162,hl2,hm,g1,g2,hlv,hok,hlen4]
end
end Go.Proofs.Ytmffcpiffkclgaa.ZJM.DC
set_option linter.unusedSimpArgs false
set_option linter.unusedVariables false
set_option maxRecDepth 10000
namespace Go.Proofs.Ytmffcpiffkclgaa.ZJM.DC
open Go.Proofs.Ytmffcpiffkclgaa.ZJM Go.RowKit
def sealR (r : RD) (t : Nat) : RD := (List.range t).foldl (fun q (k : Nat) => setR q 5119 ((k : Int) + 1) (signA (chF r k)).1) r
def sealA (r : RD) : RD := if fitsAll r 4 = true then setfA (sealR r 4) true else r
theorem seal_succ (r : RD) (t : Nat) : sealR r (t + 1) = setR (sealR r t) 5119 ((t : Int) + 1) (signA (chF r t)).1 := by
 unfold sealR; rw [List.range_succ,List.foldl_append]; rfl
theorem seal_skel (r : RD) (t : Nat) : skel (sealR r t) = skel r := by
 induction t with
 | zero => rfl
 | succ t ih => rw [seal_succ,skel_set,ih]
section
variable {m : Mem} {lv a a' ver : Nat} {l : List Row} {c : Int} (hd : DA m lv a a' ver l c) {r : RD} (hs : Sim l c r) (hk : skel r = skel rAll)
def S125 (m : Mem) (lv a : Nat) (r : RD) (t : Nat) : St := ⟨[(0,.ptr lv a [] 0),(20,.lst none false 30 (Tl r 4)),(21,.int .i64 4),(22,.int .i64 t)],[],[],[],m⟩
include hd hs hk in
theorem loop125 {st : St} (h0 : maskSt [0,20,21,22] [] [] [] st = some (S125 m lv a r 0)) :
  ∃ e st',loopW (maskSt [0,20,21,22] [] [] []) (Cd.run (app E) cx125.body.inner.body) st = some (e,st') ∧ e ≠ .normal ∧ e = .exit 0 ∧ get st'.f 0 = some (.ptr lv a [] 0) ∧ st'.own = [] ∧ st'.dead = [] ∧ st'.tops = [] ∧ ∃ ver' l' c',Sim l' c' (sealR r 4) ∧ st'.m = dset m lv a a' ver' l' c' := by
 have hlt := hd.lv_lt
 have hlv : lv ≠ m.length := by omega
 have hlv1 : lv ≠ m.length + 1 := by omega
 have hok := fun a b c => tl_okns r 4 a b c
 have z := CF_zero30
 have hlen := tl_len r 4
 refine loop_inv (fun t S => ∃ ver' l' c',Sim l' c' (sealR r t) ∧ S = S125 (dset m lv a a' ver' l' c') lv a r t) 4 _ h0 ⟨ver,l,c,hs,by rw [dset_same hd]⟩ ?_ ?_
 ·rintro t S ht ⟨v1,l1,c1,hs1,rfl⟩
  have htI : (t : Int) < 4 := by omega
  have hw := wrap_succ t (by omega)
  have hw1 : IntKind.i64.wrap ((t : Int) + 1) = (t : Int) + 1 := wrap_id _ (by omega) (by omega)
  have hg := tl_get r 4 t ht
  have hg2 : ∀ h,(Tl r 4)[t]'h = PV.agg (CF (chF r t) 30) := fun h => (List.getElem?_eq_some_iff.1 hg).2
  have h60 := appx60 (chF r t)
  obtain ⟨s0,s1,s2⟩ := sign_ok hk hs.rok ht
  rw [s0] at h60
  have hd1 := dset_da hd v1 l1 c1
  have hl1 := dset_len hd v1 l1 c1
  obtain ⟨m2,e1,e2⟩ := do_set (hd1.cons [(6,CF (chF r t) 30)]) hs1 5119 ((t : Int) + 1) (signA (chF r t)).1
  obtain ⟨m3,rfl,v2,l2,c2,rfl,hs2⟩ := e2.cons hd1
  have hset : setC (sealR r t) 5119 ((t : Int) + 1) (signA (chF r t)).1 = 0 := set_sign (by rw [seal_skel,hk]) ht s1 s2
  rw [hset] at e1
  rw [← seal_succ] at hs2
  rw [dset_dset hd] at e1
  have hl2 := dset_len hd v2 l2 c2
  generalize chF r t = f at *
  generalize signA f = sg at *
  have hlva : lv ≠ (dset m lv a a' v1 l1 c1).length := by omega
  have hlvb : lv ≠ (dset m lv a a' v2 l2 c2).length := by omega
  have hG : Goes (maskSt [0,20,21,22] [] [] []) (S125 (dset m lv a a' v2 l2 c2) lv a r (t + 1)) (Cd.run (app E) cx125.body.inner.body (S125 (dset m lv a a' v1 l1 c1) lv a r t)) := by
   generalize dset m lv a a' v2 l2 c2 = M2 at *
   generalize dset m lv a a' v1 l1 c1 = M1 at *
   simp [-isPlace,-moves,cx125,Cd.inner,Cd.body,S125,← z,htI,ht,hw,hw1,hg,hg2,hlen,hok,h60,e1,hlva,hlvb,hl1,hl2,hlv,hlv1]
  obtain ⟨st2,q1,q2⟩ := hG.get
  exact .inl ⟨st2,_,q1,q2,v2,l2,c2,hs2,rfl⟩
 ·rintro S ⟨v1,l1,c1,hs1,rfl⟩
  have hl1 := dset_len hd v1 l1 c1
  have hlva : lv ≠ (dset m lv a a' v1 l1 c1).length := by omega
  simp [cx125,Cd.inner,Cd.body,S125,EndsL]
  exact ⟨v1,l1,c1,hs1,rfl⟩
include hd hs hk in
theorem appx125 : ∃ m',app E false (.fn 125 []) [.ptr lv a [] 0] m = some (.int .i64 (if fitsAll r 4 = true then 0 else 14),emptyBag,m') ∧ Does m lv a a' ver l c (sealA r) m' := by
 have hlt := hd.lv_lt
 have hlv : lv ≠ m.length := by omega
 have h33 := appx162 (hd.cons []) hs hk
 have hok := fun a b c => tl_okns r 4 a b c
 have hlen := tl_len r 4
 unfold sealA
 by_cases hf : fitsAll r 4 = true
 ·rw [if_pos hf] at h33 ⊢
  rw [if_pos hf] at h33 ⊢
  have hS0 : maskSt [0,20,21,22] [] [] [] (S125 m lv a r 0) = some (S125 m lv a r 0) := by
   simp [S125,hlv,hok]
  obtain ⟨e,⟨f',tops',own',dead',m'⟩,q1,q2,rfl,g1,g2,g3,g4,v1,l1,c1,hs1,gm⟩ := loop125 hd hs hk hS0
  have hl := loop_at hS0 q1
  simp only at g1 g2 g3 g4 gm
  subst g2 g3 g4 gm
  have hd1 := dset_da hd v1 l1 c1
  have hl1 := dset_len hd v1 l1 c1
  obtain ⟨m2,e1,e2⟩ := app64g (hd1.cons []) hs1 true
  obtain ⟨m3,rfl,v2,l2,c2,rfl,hs2⟩ := e2.cons hd1
  have hk1 : skel (sealR r 4) = skel rAll := by rw [seal_skel,hk]
  rw [(setf_ok hk1 true).1,dset_dset hd] at e1
  refine ⟨dset m lv a a' v2 l2 c2,?_,v2,l2,c2,rfl,hs2⟩
  have hl2 := dset_len hd v2 l2 c2
  have hlva : lv ≠ (dset m lv a a' v1 l1 c1).length := by omega
  rw [app_fn E rfl hx125 rfl]
  simp only [cx125,Cd.inner,Cd.body,S125] at hl
  generalize dset m lv a a' v2 l2 c2 = M2 at *
  generalize dset m lv a a' v1 l1 c1 = M1 at *
  generalize Tl r 4 = TL at *
  simp [-isPlace,-moves,cx125,h33,hl,e1,hlv,hlva,hlen,hok,g1,hl1,hl2]
 ·rw [if_neg hf] at h33 ⊢
  rw [if_neg hf] at h33 ⊢
  refine ⟨m,?_,does_none hd hs⟩
  rw [app_fn E rfl hx125 rfl]
  simp [cx125,h33,hlv]
end
end Go.Proofs.Ytmffcpiffkclgaa.ZJM.DC
set_option linter.unusedSimpArgs false
set_option linter.unusedVariables false
set_option maxRecDepth 10000
namespace Go.Proofs.Ytmffcpiffkclgaa.ZJM.DC
open Go.Proofs.Ytmffcpiffkclgaa.ZJM Go.RowKit
theorem loadT_congr {r r' : RD} {c : Int} (h1 : ∀ s,numR r' (4865 + c) s = numR r (4865 + c) s) (h2 : ∀ s,numR r' (4993 + c) s = numR r (4993 + c) s) (t : Nat) : loadT r' c t = loadT r c t := by
 induction t with
 | zero =>
  funext j
  simp only [loadT,headL,h1,h2]
 | succ t ih =>
  have hn : numM r' c = numM r c := by rw [numM,numM,h2]
  rw [loadT,loadT,hn,h2,ih]
theorem chF_congr {r r' : RD} {k : Nat} (h1 : ∀ s,numR r' (4865 + (k : Int)) s = numR r (4865 + (k : Int)) s) (h2 : ∀ s,numR r' (4993 + (k : Int)) s = numR r (4993 + (k : Int)) s) : chF r' k = chF r k := loadT_congr h1 h2 8
theorem oneF_skel {r r' : RD} (h : skel r = skel r') (x : Slot) : oneF r x = oneF r' x := by
 unfold oneF
 rcases skel_entry h x.i x.s with ⟨h1,h2⟩ | ⟨j,y,y',h1,h2,h3,h4,e1,e2,e3,e4⟩
 ·rw [h1,h2]
 ·rw [h1,h2]; simp only [h3,h4,e1,e2]
theorem fitsL_skel {r r' : RD} (h : skel r = skel r') (L : List Slot) (acc : Int) : fitsL r acc L = fitsL r' acc L := by
 induction L generalizing acc with
 | nil => rfl
 | cons x L ih => simp only [fitsL,oneF_skel h,ih]
theorem fitsC_skel {r r' : RD} (h : skel r = skel r') (f : Nat → Int) : fitsC r f = fitsC r' f := by
 unfold fitsC; rw [fitsL_skel h]
theorem seal_other (r : RD) (t : Nat) {i : Int} (h : i ≠ 5119) (s : Int) : numR (sealR r t) i s = numR r i s := by
 induction t with
 | zero => rfl
 | succ t ih => rw [seal_succ,num_set2 (fun hh => h hh.1),ih]
theorem seal_sim {l : List Row} {c : Int} {r : RD} (hs : Sim l c r) (t : Nat) : ∃ l' c',Sim l' c' (sealR r t) := by
 induction t with
 | zero => exact ⟨l,c,hs⟩
 | succ t ih =>
  obtain ⟨l1,c1,h1⟩ := ih
  rw [seal_succ]
  exact sim_set1 h1 _ _ _
theorem seal_num {l : List Row} {c : Int} {r : RD} (hs : Sim l c r) (hk : skel r = skel rAll) (t : Nat) (ht : t ≤ 4) (k : Nat) (h : k < t) : numR (sealR r t) 5119 ((k : Int) + 1) = ((signA (chF r k)).1,true) := by
 induction t with
 | zero => omega
 | succ t ih =>
  rw [seal_succ]
  by_cases hkt : k = t
  ·subst hkt
   obtain ⟨s0,s1,s2⟩ := sign_ok hk hs.rok (show k < 4 by omega)
   obtain ⟨l1,c1,h1⟩ := seal_sim hs k
   exact num_set1 h1.rok (set_sign (by rw [seal_skel,hk]) (by omega) s1 s2)
  ·rw [num_set2 (by omega)]
   exact ih (by omega) (by omega)
theorem fitsAll_iff (r : RD) : fitsAll r 4 = true ↔ ∀ k,k < 4 → fitsC r (chF r k) = true := by
 unfold fitsAll
 rw [List.all_eq_true]
 exact ⟨fun h k hk => h k (List.mem_range.2 hk),fun h k hk => h k (List.mem_range.1 hk)⟩
theorem good_iff (r : RD) : goodA r = true ↔ flagA r = true ∧ ∀ k,k < 4 → apprA r k = true := by
 unfold goodA
 simp only [Bool.and_eq_true]
 constructor
 ·rintro ⟨hf,h0,h1,h2,h3⟩
  refine ⟨hf,fun k hk => ?_⟩
  rcases (by omega : k = 0 ∨ k = 1 ∨ k = 2 ∨ k = 3) with rfl | rfl | rfl | rfl
  ·exact h0
  ·exact h1
  ·exact h2
  ·exact h3
 ·rintro ⟨hf,h⟩
  exact ⟨hf,h 0 (by omega),h 1 (by omega),h 2 (by omega),h 3 (by omega)⟩
theorem good_seal {l : List Row} {c : Int} {r : RD} (hs : Sim l c r) (hk : skel r = skel rAll) (hf : fitsAll r 4 = true) : goodA (sealA r) = true ∧ skel (sealA r) = skel rAll := by
 have hk1 : skel (sealR r 4) = skel rAll := by rw [seal_skel,hk]
 obtain ⟨f1,f2,f3⟩ := setf_ok hk1 true
 unfold sealA
 rw [if_pos hf]
 refine ⟨(good_iff _).2 ⟨f2,fun k hk4 => ?_⟩,f3⟩
 have hn : ∀ i s,i ≠ 5118 → numR (setfA (sealR r 4) true) i s = numR (sealR r 4) i s := fun i s h => num_set2 fun hh => h hh.1
 have hc : chF (setfA (sealR r 4) true) k = chF r k := chF_congr (fun s => by rw [hn _ _ (by omega),seal_other _ _ (by omega)]) (fun s => by rw [hn _ _ (by omega),seal_other _ _ (by omega)])
 obtain ⟨s0,s1,s2⟩ := sign_ok hk hs.rok hk4
 unfold apprA
 rw [hc,hn _ _ (by omega),seal_num hs hk 4 (by omega) k hk4,fitsC_skel (f3.trans hk.symm),(fitsAll_iff r).1 hf k hk4,s0]
 simp
end Go.Proofs.Ytmffcpiffkclgaa.ZJM.DC
set_option linter.unusedSimpArgs false
set_option linter.unusedVariables false
set_option maxRecDepth 10000
namespace Go.Proofs.Ytmffcpiffkclgaa.ZJM.DC
open Go.Proofs.Ytmffcpiffkclgaa.ZJM Go.RowKit
def F0 : Nat → Int := fun _ => 0
def F1 : Nat → Int := fun j => if j = 0 then 1 else 0
theorem tab_F0 : tabB F0 = some (List.replicate 14 0) := by kernel_rfl
theorem sign_F1 : (signA F1).2 = 0 ∧ decide (0 < (signA F1).1) = true := ⟨by kernel_rfl,by kernel_rfl⟩
theorem dirs_all : ((List.range 4).all fun k => (numR rAll (4865 + (k : Int)) 1).1 == 0) = true := by kernel_rfl
theorem fits_rAll : fitsAll rAll 4 = true := (fitsAll_iff rAll).2 fun k hk => by
 have h := List.all_eq_true.1 dirs_all k (List.mem_range.2 hk)
 have h0 : chF rAll k 0 = 0 := by
  show loadT rAll (k : Int) 8 0 = 0
  rw [loadT_lo _ _ _ _ (by omega)]
  exact eq_of_beq h
 unfold fitsC
 rw [if_pos h0]
theorem CF_F1 : CF F1 30 = PV.int .i64 1 :: (CF F0 30).tail := rfl
theorem CF_F0t (a : Nat) : PV.deps a (CF F0 30).tail = true := PV.datas_deps _ _ (by have := CF_data F0 30; exact rfl)
def own10 (q : RD) (ver : Nat) (rows : List Row) (c : Int) : Lvl := [(6,[El q.nl q.l,.int .i64 q.c]),(20000,[.ptr 0 20001 [] 0,.int .i64 c]),(20001,[shC ver rows])]
theorem own10_da (q : RD) (ver : Nat) (rows : List Row) (c : Int) : DA [own10 q ver rows c] 0 20000 20001 ver rows c := ⟨by simp [own10],by simp [own10],by decide⟩
theorem own10_set (q : RD) (ver : Nat) (rows : List Row) (c : Int) (v : Nat) (l' : List Row) (c' : Int) : dset [own10 q ver rows c] 0 20000 20001 v l' c' = [own10 q v l' c'] := by simp [dset,wr,own10]
theorem live10 : app E false (.fn 58 []) [] [] = some (.bool true,emptyBag,[]) := by
 obtain ⟨ver,rows,c,hs,h30⟩ := app84 [[]]
 have h6 := appy6 F0
 rw [tab_F0] at h6
 simp only [blO] at h6
 have h8 := appx60 F1
 obtain ⟨z1,z2⟩ := sign_F1
 rw [z1,CF_F1] at h8
 obtain ⟨m1,e12,v1,l1,c1,rfl,hs1⟩ := appx125 (own10_da rAll ver rows c) hs rfl
 rw [fits_rAll,if_pos rfl,own10_set] at e12
 obtain ⟨g1,g2⟩ := good_seal hs rfl fits_rAll
 have e19 := appx126 (own10_da rAll v1 l1 c1) hs1 g2
 rw [g1] at e19
 have s1 := fun lv => shC_names lv ver rows
 have s2 := fun a b ρ => shC_ren a b ρ ver rows
 have s3 := fun a ks ts => shC_okn a ks ts ver rows
 have s4 := shC_rec ver rows
 have hrn1 := fun a b ρ => es_rens rAll.l a b ρ
 have hdp1 := fun a => es_deps rAll.l a
 have hok1 := fun a b c => es_okns rAll.l a b c
 have hnm1 := fun a => es_names rAll.l a
 have hz : CF F0 30 = CF (fun _ => 0) 30 := rfl
 have z := CF_zero30
 rw [← hz] at z
 have hbl : (Bs (List.replicate 14 0)).length = 14 := by rw [bs_len]; rfl
 simp only [own10,RD.pv,El,rd] at *
 generalize (signA F1).1 = sg at *
 have hsg : (0 : Int) < sg := by simpa using z2
 generalize Bs (List.replicate 14 0) = B14 at *
 generalize Es rAll.l = LA at *
 generalize shC ver rows = SS at *
 generalize shC v1 l1 = SS1 at *
 rw [app_fn E rfl hx58 rfl]
 simp [-isPlace,-moves,cx58,← z,h6,h8,CF_F0t,h30,e12,e19,hbl,hsg,hrn1,hdp1,hok1,hnm1,s1,s2,s3,s4,bagName,PV.retag,PV.retag1]
end Go.Proofs.Ytmffcpiffkclgaa.ZJM.DC
