/- All channels that do something: the program's range. -/
import Derived.Test.YtmffcpiffkclgaaGreatZFW8
set_option linter.unusedSimpArgs false
set_option linter.unusedVariables false
set_option maxRecDepth 10000
namespace Go.Proofs.YtmffcpiffkclgaaGreat.ZJM.DC
open Go.Proofs.YtmffcpiffkclgaaGreat.ZJM Go.RowKit
def chF (r:RD) (k:Nat):Nat→Int:=loadT r (k:Int) 8
section
variable {σ:Type} (M:σ→Mem) (N:Nat) (hN:∀ s,(M s).length=N) {lv a a' ver:Nat} {l:List Row} {c:Int} (hd:∀ s,DA (M s) lv a a' ver l c) {r:RD} (hs:Sim l c r) (hk:skel r=skel rAll) (f0:FuncId) (i0:Nat) (fs0:List Nat) (cap0:List PV) (lv0 j0:Nat) (hlv0:lv0 < N) (hcap:∀ n ks ts,N≤n→PV.okns n ks ts cap0=true)
 (J:Nat→σ→Prop) (Stop:σ→Prop)
 (hyld:∀ (k:Nat),k < 4→∀ (s:σ) (o1:Lvl),chF r k 0≠0→J k s→∃ b s',app E false (.rnd f0 i0 fs0 cap0 lv0 j0) [.int .i64 (k:Int),.agg (CF (chF r k) 30)] (o1::M s)=some (.bool b,emptyBag,o1::M s')∧(if b=true then J (k+1) s' else Stop s'))
 (hskip:∀ (k:Nat),k < 4→∀ (s:σ),chF r k 0=0→J k s→J (k+1) s)
def S89 (f0:FuncId) (i0:Nat) (fs0:List Nat) (cap0:List PV) (lv0 j0 lvb sb:Nat) (t:Nat) (m:Mem):St:=⟨[(0,.rnd f0 i0 fs0 cap0 lv0 j0),(1,.ptr lvb sb [] 0),(6,.int .i64 t)],[],[],[],m⟩
include hN hd hs hk hlv0 hcap hyld hskip in
theorem appx89 (s:σ) (hJ:J 0 s) (lvb sb:Nat) (hb:∀ s,mget (M s) lvb sb []=some [.ptr lv a [] 0]) :
  ∃ s',(J 4 s'∨Stop s')∧app E false (.fn 80 [.ptr lvb sb [] 0]) [.rnd f0 i0 fs0 cap0 lv0 j0] (M s)=some (.tup [],emptyBag,M s'):=by
 have q1:lvb≠N:=by have:=mget_lt (hb s); rw [hN] at this; omega
 have q2:lv < N:=by have:=(hd s).lv_lt; rw [hN] at this; omega
 have q3:lv≠N:=by omega
 have q4:lv0≠N:=by omega
 have z:=CF_zero30
 have hS0:maskSt [0,1,6] [] [] [] (S89 f0 i0 fs0 cap0 lv0 j0 lvb sb 0 (M s))=some (S89 f0 i0 fs0 cap0 lv0 j0 lvb sb 0 (M s)):=by
  have:=hN s
  have h1:=hcap N [] [] (Nat.le_refl _)
  simp [S89,this,q1,q4,h1]
 have hloop:∃ e st',loopW (maskSt [0,1,6] [] [] []) (Cd.run (app E) cx89.body.inner.body) (S89 f0 i0 fs0 cap0 lv0 j0 lvb sb 0 (M s))=some (e,st')∧e≠.normal∧((e=.exit 0∧∃ s',J 4 s'∧st'.m=M s')∨(e=.ret∧∃ s',Stop s'∧st'.m=M s')):=by
  refine loop_inv (fun t S=>∃ s',J t s'∧S=S89 f0 i0 fs0 cap0 lv0 j0 lvb sb t (M s')) 4 _ hS0 ⟨s,hJ,rfl⟩ ?_ ?_
  ·rintro t S ht ⟨s1,hJ1,rfl⟩
   have htI:(t:Int) < 4:=by omega
   have hw:=wrap_succ t (by omega)
   have hNs:=hN s1
   have hb1:=hb s1
   have h31:=appx31 ((hd s1).cons []) hs (t:Int) (by omega) (by omega)
   rw [load_ok hk hs.rok (by omega) (by omega),if_pos rfl,eOf_t] at h31
   have hok1:=hcap N [] [] (Nat.le_refl _)
   by_cases hz:chF r t 0=0
   ·have hG:Goes (maskSt [0,1,6] [] [] []) (S89 f0 i0 fs0 cap0 lv0 j0 lvb sb (t+1) (M s1)) (Cd.run (app E) cx89.body.inner.body (S89 f0 i0 fs0 cap0 lv0 j0 lvb sb t (M s1))):=by
     unfold chF at hz
     generalize loadT r (t:Int) 8=g at *
     simp [-isPlace,-moves,cx89,Cd.inner,Cd.body,S89,← z,htI,hw,hNs,hb1,h31,hz,q1,q3,q4,hok1]
    obtain ⟨st2,p1,p2⟩:=hG.get
    exact .inl ⟨st2,_,p1,p2,s1,hskip t ht s1 hz hJ1,rfl⟩
   ·obtain ⟨b,s2,e1,e2⟩:=hyld t ht s1 [(4,CF (chF r t) 30)] hz hJ1
    have hNs2:=hN s2
    have hz':(chF r t 0 != 0)=true:=by simpa using hz
    cases b with
    | true =>
     have hG:Goes (maskSt [0,1,6] [] [] []) (S89 f0 i0 fs0 cap0 lv0 j0 lvb sb (t+1) (M s2)) (Cd.run (app E) cx89.body.inner.body (S89 f0 i0 fs0 cap0 lv0 j0 lvb sb t (M s1))):=by
      unfold chF at e1 hz'
      generalize loadT r (t:Int) 8=g at *
      simp [-isPlace,-moves,cx89,Cd.inner,Cd.body,S89,← z,htI,hw,hNs,hNs2,hb1,h31,hz',e1,q1,q3,q4,hok1]
     obtain ⟨st2,p1,p2⟩:=hG.get
     exact .inl ⟨st2,_,p1,p2,s2,by simpa using e2,rfl⟩
    | false =>
     refine .inr ?_
     unfold chF at e1 hz'
     generalize loadT r (t:Int) 8=g at *
     simp [-isPlace,-moves,cx89,Cd.inner,Cd.body,S89,← z,htI,hw,hNs,hNs2,hb1,h31,hz',e1,q1,q3,q4,EndsL]
     exact ⟨s2,by simpa using e2,rfl⟩
  ·rintro S ⟨s1,hJ1,rfl⟩
   simp [cx89,Cd.inner,Cd.body,S89,EndsL]
   exact ⟨s1,hJ1,rfl⟩
 obtain ⟨e,⟨f',tops',own',dead',m'⟩,p1,p2,p3⟩:=hloop
 have hl:=loop_at hS0 p1
 simp only [cx89,Cd.inner,Cd.body,S89] at hl
 have hNs:=hN s
 have hok1:=hcap N [] [] (Nat.le_refl _)
 rcases p3 with ⟨rfl,s',hJ',hm⟩ | ⟨rfl,s',hJ',hm⟩
 ·simp only at hm
  subst hm
  refine ⟨s',.inl hJ',?_⟩
  rw [app_fn E rfl hx89 rfl]
  simp [cx89,hNs,q1,q4,hok1,hl]
 ·simp only at hm
  subst hm
  refine ⟨s',.inr hJ',?_⟩
  rw [app_fn E rfl hx89 rfl]
  simp [cx89,hNs,q1,q4,hok1,hl]
end
theorem appx27 (m:Mem) (lv a:Nat) (hlv:lv < m.length):app E false (.fn 44 []) [.ptr lv a [] 0] m=some (.fn 80 [.ptr m.length 0 [] 0],⟨[(0,[.ptr lv a [] 0])],[]⟩,m):=by
 have h:lv≠m.length:=by omega
 rw [app_fn E rfl hx27 rfl]
 simp [cx27,h,frzV,frzR,bagEv,bagOf,bagChk,renB,obsB,topsB,nameIn,isRec,noTagB,nodupB,tagsOf,tagOf,PV.retag,PV.retag1]
section
variable (m:Mem) (lvb sb:Nat) (hb:mget m lvb sb []=some [.nilp]) (f0:FuncId) (i0:Nat) (fs0:List Nat) (cap0:List PV) (lv0 j0:Nat) (hlv0:lv0 < m.length) (hcap:∀ n ks ts,m.length≤n→PV.okns n ks ts cap0=true)
end
section
variable {r:RD} (hr:r.ok) (hk:skel r=skel rAll) (ver:Nat) (rows:List Row) (c:Int) (sp:Int) (hsp:0≤sp∧sp≤255)
include hr hk in
theorem load_c (k:Nat) (h:k < 4):app E false (.fn 17 []) [r.pv,.int .i64 (k:Int)] []=some (.tup [.agg (CF (chF r k) 30),.int .i64 0],emptyBag,[]):=by
 have:=appx28 hr (k:Int) (by omega) (by omega) (load_bd hk hr (by omega) (by omega))
 rw [load_ok hk hr (by omega) (by omega),if_pos rfl,eOf_t] at this
 exact this
end
abbrev Cs (l:List (Nat→Int)):List PV:=encs (fun f=>PV.agg (CF f 30)) l
theorem cs_data (l:List (Nat→Int)):PV.datas (Cs l)=true:=encs_data fun f _=>by simp [PV.data,CF_data]
theorem cs_okns (l:List (Nat→Int)) (a b c):PV.okns a b c (Cs l)=true:=PV.datas_okns _ _ _ _ (cs_data l)
theorem cs_rens (l:List (Nat→Int)) (a b ρ):PV.rens a b ρ (Cs l)=Cs l:=PV.datas_rens _ _ _ _ (cs_data l)
theorem cs_deps (l:List (Nat→Int)) (a):PV.deps a (Cs l)=true:=PV.datas_deps _ _ (cs_data l)
section
variable (nl:Bool) (L:List (Nat→Int)) (sp:Int) (hsp:0≤sp∧sp≤255)
end
section
variable {r:RD} (hr:r.ok) (hk:skel r=skel rAll)
end
theorem chans_of {xs:List PV} (h:∀ x∈xs,CT.val true chanT x):∃ l:List (Nat→Int),xs=Cs l:=by
 induction xs with
 | nil=>exact ⟨[],rfl⟩
 | cons x r ih =>
  obtain ⟨f,rfl⟩:=chan_of (h x (by simp))
  obtain ⟨l,rfl⟩:=ih fun y hy=>h y (by simp [hy])
  exact ⟨f::l,rfl⟩
end Go.Proofs.YtmffcpiffkclgaaGreat.ZJM.DC
