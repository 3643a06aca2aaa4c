/- Mappings: which fit, how long they are. -/
import Derived.Test.YtmffcpiffkclgaaZYA5
import Derived.Test.YtmffcpiffkclgaaZYA6
import Derived.Test.YtmffcpiffkclgaaZYP5
set_option linter.unusedSimpArgs false
set_option linter.unusedVariables false
set_option maxRecDepth 4000
namespace Go.Proofs.Ytmffcpiffkclgaa.ZJM.DC
open Go.Proofs.Ytmffcpiffkclgaa.ZJM Go.RowKit
structure Slot where
 (i s n : Int)
def Slot.enc (x : Slot) : PV := slt x.i x.s x.n
abbrev Ss (l : List Slot) : List PV := encs Slot.enc l
theorem ss_data (l : List Slot) : PV.datas (Ss l) = true := encs_data fun x _ => rfl
theorem ss_okns (l : List Slot) (a b c) : PV.okns a b c (Ss l) = true := PV.datas_okns _ _ _ _ (ss_data l)
theorem ss_deps (l : List Slot) (a) : PV.deps a (Ss l) = true := PV.datas_deps _ _ (ss_data l)
theorem ss_names (l : List Slot) (a) : PV.namess a (Ss l) = [] := PV.datas_namess _ _ (ss_data l)
theorem ss_rens (l : List Slot) (a b ρ) : PV.rens a b ρ (Ss l) = Ss l := PV.datas_rens _ _ _ _ (ss_data l)
theorem ss_get (l : List Slot) (i : Nat) (h : i < l.length) : (Ss l)[i]? = some l[i].enc ∧ ∀ h',(Ss l)[i]'h' = l[i].enc := ⟨by rw [List.getElem?_eq_getElem (by rw [encs_len]; exact h),encs_getE],fun h' => encs_getE l i h'⟩
attribute [simp] ss_okns ss_deps ss_names ss_rens
abbrev Sl (nl : Bool) (l : List Slot) : PV := .lst none nl 3 (Ss l)
def safeA (i : Int) : Bool := decide (4865 ≤ i) && decide (i ≤ 4928) || decide (4993 ≤ i) && decide (i ≤ 5056) || (i == 5119)
theorem app124 (i f : Int) (hf : 0 ≤ f ∧ f < 1000000) : app E false (.fn 81 []) [.int .i64 i,.int .i64 f] [] = some (.bool (decide (f ≤ i) && decide (i ≤ f + 63)),emptyBag,[]) := by
 rw [app_fn E rfl h124 rfl]
 have w : IntKind.i64.wrap (f + 63) = f + 63 := wrap_id _ (by omega) (by omega)
 by_cases a : f ≤ i <;> simp [c124,a,w]
theorem app117 (i s : Int) : app E false (.fn 21 []) [ky i s] [] = some (.bool (safeA i),emptyBag,[]) := by
 rw [app_fn E rfl h117 rfl]
 have h1 := app124 i 4865 (by decide)
 have h2 := app124 i 4993 (by decide)
 cases a : (decide (4865 ≤ i) && decide (i ≤ 4928)) <;> cases b : (decide (4993 ≤ i) && decide (i ≤ 5056)) <;> simp [c117,h1,h2,safeA,a,b]
def mapA (a i : Int) : Bool := !(a == 4 || safeA i || i == 5118)
def bitsA (o : Option Row) (i : Int) : Int := match o with
 | none => 0
 | some x => if mapA x.a i = true then 8 * ksz x.k else 0
def oneA (r : RD) (x : Slot) : Bool := match findIx r.l x.i x.s with
 | none => false
 | some j => match r.l[j]? with
  | none => false
  | some y => mapA y.a x.i && decide (0 < ksz y.k) && (x.n == 8 * ksz y.k)
theorem ksz8 (k : Int) : IntKind.i64.wrap (8 * ksz k) = 8 * ksz k := by have := ksz_le k; exact wrap_id _ (by omega) (by omega)
section
variable {m : Mem} {lv a a' ver : Nat} {l : List Row} {c : Int} (hd : DA m lv a a' ver l c) (hk : Dok l)
end
section
variable (r : RD) (hr : r.ok) (nl : Bool) (L : List Slot)
end
end Go.Proofs.Ytmffcpiffkclgaa.ZJM.DC
set_option linter.unusedSimpArgs false
set_option linter.unusedVariables false
set_option maxRecDepth 4000
namespace Go.Proofs.Ytmffcpiffkclgaa.ZJM.DC
open Go.Proofs.Ytmffcpiffkclgaa.ZJM Go.RowKit
theorem Sim.one {l : List Row} {c : Int} {r : RD} (h : Sim l c r) (x : Slot) : oneA r x = (!(bitsA (getW l (knum x.i x.s)) x.i == 0) && (x.n == bitsA (getW l (knum x.i x.s)) x.i)) := by
 rcases h.at x.i x.s with ⟨h1,h2⟩ | ⟨y,j,hj,h1,h2,hre,e1,e2,hok⟩
 ·rw [h1]; simp [oneA,h2,bitsA]
 ·rw [h1]
  obtain ⟨r0,r1,r2,r3,r4,r5⟩ := hre
  have hz := ksz_le y.k
  simp only [oneA,h2,List.getElem?_eq_getElem hj,bitsA,← r1,← r2]
  by_cases hm : mapA y.a x.i = true
  ·rw [if_pos hm,hm]
   by_cases hk : 0 < ksz y.k
   ·have : ¬ 8 * ksz y.k = 0 := by omega
    have : ((8 * ksz y.k) == 0) = false := by simpa using this
    simp [hk,this]
   ·have : 8 * ksz y.k = 0 := by omega
    have : ((8 * ksz y.k) == 0) = true := by simpa using this
    simp [hk,this]
  ·rw [if_neg hm]; simp [hm]
section
variable {m : Mem} {lv a a' ver : Nat} {l : List Row} {c : Int} (hd : DA m lv a a' ver l c) {r : RD} (hs : Sim l c r) (nl : Bool) (L : List Slot)
end
section
variable (nl : Bool) (L : List Slot)
end
end Go.Proofs.Ytmffcpiffkclgaa.ZJM.DC
set_option linter.unusedSimpArgs false
set_option linter.unusedVariables false
set_option maxRecDepth 10000
namespace Go.Proofs.Ytmffcpiffkclgaa.ZJM.DC
open Go.Proofs.Ytmffcpiffkclgaa.ZJM Go.RowKit
def kindsL : List Int := [2,3,4,6,1,5]
def entK (i : Nat) : Ent := ⟨8192,(i : Int) + 1,kindsL.getD i 0,3,klo (kindsL.getD i 0),khi (kindsL.getD i 0),zs (ksz (kindsL.getD i 0)).toNat⟩
def app6E (n : Nat) : List Ent := (List.range n).map entK
def app8E : List Ent := app6E 6 ++ [⟨8192,7,8,3,0,40,[]⟩,⟨8192,8,2,4,0,9,[0]⟩]
theorem app6E_succ (n : Nat) : app6E (n + 1) = app6E n ++ [entK n] := by simp [app6E,List.range_succ]
theorem app6E_len (n : Nat) : (app6E n).length = n := by simp [app6E]
theorem str_empty : ByteArray.empty = strOf [] := rfl
theorem str_zero : (⟨#[0]⟩ : ByteArray) = strOf [0] := rfl
section
variable (m : Mem)
def S115 (i : Nat) : St := ⟨[(1,.lst (some 7) false 7 (Es (app6E i))),(2,.lst none false 1 (Is kindsL)),(3,.int .i64 i)],[(7,i,94)],[],[],m⟩
theorem loop115 {st : St} (h0 : maskSt [1,2,3] [] [7] [] st = some (S115 m 0)) : loopW (maskSt [1,2,3] [] [7] []) (Cd.run (app E) c115.body.inner.body) st = c115.body.inner.body.run (app E) (S115 m 6) := by
 refine loop_eq (S115 m) 6 (fun i hi => ?_) ?_ h0
 ·have hil : i < kindsL.length := hi
  have hli : (Is kindsL).length = 6 := rfl
  have hii : (i : Int) < 6 := by omega
  have hw := wrap_succ i (by omega)
  have hk : kindsL[i] = kindsL.getD i 0 := by simp [List.getD_eq_getElem?_getD,hil]
  have hg : ∀ h,(Is kindsL)[i]'h = .int .i64 (kindsL.getD i 0) := fun h => by rw [← hk]; exact encs_getE kindsL i h
  have hg2 : (Is kindsL)[i]? = some (.int .i64 (kindsL.getD i 0)) := by rw [List.getElem?_eq_getElem (by rw [hli]; exact hi),hg]
  have h74 := app74 (kindsL.getD i 0)
  have h106 : app E false (.fn 78 []) [.int .i64 8192,.int .i64 ((i : Int) + 1)] [] = some (ky 8192 ((i : Int) + 1),emptyBag,[]) := by
   rw [app_fn E rfl h106 rfl]; simp [c106]
  have hkl := ksz_le (kindsL.getD i 0)
  obtain ⟨sz,hsz⟩ : ∃ sz : Nat,ksz (kindsL.getD i 0) = sz := ⟨(ksz (kindsL.getD i 0)).toNat,by omega⟩
  have hb : sz ≤ maxBytes := by unfold maxBytes; omega
  have hzl : (zs sz).length = sz := by simp [zs]
  have hc := bs_chunks (zs sz)
  have ht := bs_take (zs sz)
  rw [hzl] at hc ht
  have hal := app6E_len i
  have hbb : (i + 1) * 64 ≤ maxBytes := by unfold maxBytes; omega
  have he : entK i = ⟨8192,(i : Int) + 1,kindsL.getD i 0,3,klo (kindsL.getD i 0),khi (kindsL.getD i 0),zs sz⟩ := by rw [entK,hsz]; rfl
  unfold S115
  rw [app6E_succ,he]
  have hisok := fun a b c => is_okns kindsL a b c
  generalize kindsL.getD i 0 = k at *
  generalize Is kindsL = KK at *
  generalize app6E i = A at *
  simp [c115,Cd.inner,Cd.body,hli,hii,hi,hg,hg2,h74,h106,hsz,hb,rep_zs,hzl,hc,ht,bs_out,bytesP_bs,hal,hbb,hw,hisok,Ent.enc,Ent.cs]
 ·have hli : (Is kindsL).length = 6 := rfl
  unfold S115
  generalize Is kindsL = KK at *
  simp [c115,Cd.inner,Cd.body,hli]
theorem app115 : app E false (.fn 61 []) [] m = some (.lst (some 0) false 7 (Es app8E),⟨[],[(0,8,94)]⟩,m) := by
 rw [app_fn E rfl h115 rfl]
 have h := @loop115 m
 have h0 : app6E 0 = [] := rfl
 have hIs : Is kindsL = [.int .i64 2,.int .i64 3,.int .i64 4,.int .i64 6,.int .i64 1,.int .i64 5] := rfl
 have a1 : app E false (.fn 78 []) [.int .i64 8192,.int .i64 7] [] = some (ky 8192 7,emptyBag,[]) := by rw [app_fn E rfl h106 rfl]; simp [c106]
 have a2 : app E false (.fn 78 []) [.int .i64 8192,.int .i64 8] [] = some (ky 8192 8,emptyBag,[]) := by rw [app_fn E rfl h106 rfl]; simp [c106]
 have b1 : 448 ≤ maxBytes := by unfold maxBytes; omega
 have b2 : 512 ≤ maxBytes := by unfold maxBytes; omega
 have hal := app6E_len 6
 unfold app8E
 simp only [c115,Cd.inner,Cd.body,S115,hIs] at h
 simp [c115]
 rw [h (by simp [h0])]
 generalize app6E 6 = A at *
 simp [a1,a2,hal,b1,b2,str_empty,str_zero,Ent.enc,Ent.cs,bagEv,bagOf,bagChk,renB,obsB,topsB,nameIn,noTagB,nodupB,tagsOf,tagOf,PV.retag,PV.retag1,isRec]
end
end Go.Proofs.Ytmffcpiffkclgaa.ZJM.DC
