/- Loading a table: the program's. -/
import Derived.Test.YtmffcpiffkclgaaGreatZFW1
import Derived.Test.YtmffcpiffkclgaaGreatZFA5
set_option linter.unusedSimpArgs false
set_option linter.unusedVariables false
set_option maxRecDepth 10000
namespace Go.Proofs.YtmffcpiffkclgaaGreat.ZJM.DC
open Go.Proofs.YtmffcpiffkclgaaGreat.ZJM Go.RowKit
def eOf (b:Bool):Int:=if b=true then 0 else 7
theorem eOf_t:eOf true=0:=rfl
theorem eOf_f:eOf false=7:=rfl
section
variable {m:Mem} {lv a a' ver:Nat} {l:List Row} {c:Int} (hd:DA m lv a a' ver l c) {r:RD} (hs:Sim l c r)
include hd hs
theorem do_num (i s:Int):app E false (.fn 81 []) [.ptr lv a [] 0,ky i s] m=some (.tup [.int .i64 (numR r i s).1,.bool (numR r i s).2],emptyBag,m):=by
 have h:=app31 (.inr ⟨_,_,rfl⟩) (finds hd hs.dok i s) (okO_get hs.dok _)
 rw [hs.num] at h
 exact h
theorem appx96 {own own2:Lvl} {q:Nat} {b:Bool} (i s:Int) (hq:get own q=some [.ptr lv a [] 0,.int .i64 (eOf b)]) (hown:upd own q [.ptr lv a [] 0,.int .i64 (eOf (b && (numR r i s).2))]=some own2) (hsame:eOf (b && (numR r i s).2)=eOf b→own2=own) :
  app E false (.fn 113 []) [.ptr m.length q [] 0,.int .i64 i,.int .i64 s] (own::m)=some (.int .i64 (numR r i s).1,emptyBag,own2::m):=by
 have hlt:=hd.lv_lt
 have hlv:lv≠m.length:=by omega
 have hlv1:lv≠m.length+1:=by omega
 have e1:=do_num ((hd.cons own).cons []) hs i s
 rw [app_fn E rfl hx96 rfl]
 generalize numR r i s=w at *
 obtain ⟨w1,w2⟩:=w
 simp only at *
 cases w2 with
 | true =>
  rw [Bool.and_true] at hown hsame
  rw [hsame rfl]
  simp [cx96,hq,e1,hlv,hlv1]
 | false =>
  cases b with
  | false =>
   rw [hsame rfl]
   simp [cx96,hq,e1,hlv,hlv1,eOf]
  | true =>
   simp only [Bool.true_and,eOf,if_true,Bool.false_eq_true,if_false] at hq hown
   simp [cx96,hq,e1,hlv,hlv1,hown]
end
def hasT (r:RD) (c:Int) (t:Nat):Bool:=(List.range t).all fun (j:Nat)=>(numR r (4865+c) (j:Int)).2
def hasM (r:RD) (c:Int) (b:Bool) (t:Nat):Bool:=b && (List.range t).all fun (j:Nat)=>(numR r (4993+c) ((j:Int)+1)).2
theorem hasT_succ (r:RD) (c:Int) (t:Nat):hasT r c (t+1)=(hasT r c t && (numR r (4865+c) (t:Int)).2):=by
 unfold hasT; rw [List.range_succ,List.all_append]; simp
theorem hasM_succ (r:RD) (c:Int) (b:Bool) (t:Nat):hasM r c b (t+1)=(hasM r c b t && (numR r (4993+c) ((t:Int)+1)).2):=by
 unfold hasM; rw [List.range_succ,List.all_append,← Bool.and_assoc]; simp
def slotP (n:Int):Slot:=if wfits 4 n=true then ⟨n / 65536,n / 256 % 256,n % 256⟩ else ⟨0,0,0⟩
theorem app97s (n:Int):app E false (.fn 114 []) [.int .i64 n] []=some (.tup [.agg [.int .i64 (slotP n).i,.int .i64 (slotP n).s,.int .i64 (slotP n).n],.int .i64 (if wfits 4 n=true then 0 else 2)],emptyBag,[]):=by
 by_cases h:wfits 4 n=true
 ·have h2:=h
  rw [wfits4] at h2
  simp only [Bool.and_eq_true,decide_eq_true_eq] at h2
  have:=app20 n h2.1 h2.2
  rw [slotP,if_pos h,if_pos h]
  exact this
 ·have:=app20_bad n (by simpa using h)
  rw [slotP,if_neg h,if_neg h]
  exact this
def headL (r:RD) (c:Int):Nat→Int:=fun j=>if j=0 then (numR r (4865+c) 1).1 else if j=1 then (numR r (4865+c) 2).1 else if j=2 then (numR r (4865+c) 3).1 else if j=3 then (numR r (4865+c) 5).1 else if j=4 then (numR r (4865+c) 6).1 else if j=5 then (numR r (4993+c) 0).1 else 0
def numM (r:RD) (c:Int):Int:=(numR r (4993+c) 0).1
def loadT (r:RD) (c:Int):Nat→Nat→Int
 | 0=>headL r c
 | t+1=>if (t:Int) < numM r c then up3 (loadT r c t) (t * 3+6) (slotP (numR r (4993+c) ((t:Int)+1)).1).i (slotP (numR r (4993+c) ((t:Int)+1)).1).s (slotP (numR r (4993+c) ((t:Int)+1)).1).n else loadT r c t
theorem loadT_5 (r:RD) (c:Int) (t:Nat):loadT r c t 5=numM r c:=by
 induction t with
 | zero=>rfl
 | succ t ih =>
  rw [loadT]
  split
  ·rw [up3,if_neg (by omega),if_neg (by omega),if_neg (by omega)]; exact ih
  ·exact ih
def loadOk (r:RD) (c:Int):Bool:=hasM r c (hasT r c 7 && (numR r (4865+c) 1).2 && (numR r (4865+c) 2).2 && (numR r (4865+c) 3).2 && (numR r (4865+c) 5).2 && (numR r (4865+c) 6).2 && (numR r (4993+c) 0).2) 8 && (numR r 5119 (c+1)).2
section
variable {m:Mem} {lv a a' ver:Nat} {l:List Row} {c:Int} (hd:DA m lv a a' ver l c) {r:RD} (hs:Sim l c r) (cc:Int) (h0:0≤cc) (h4:cc < 4)
def S31a (m:Mem) (lv a:Nat) (cc:Int) (t:Nat) (b:Bool):St:=⟨[(1,.int .i64 cc),(4,.ptr m.length 4 [] 0),(6,.ptr m.length 1000000000 [] 0),(25,.lst none false 5 (Ls rowsT)),(26,.int .i64 7),(27,.int .i64 t)],[],[(4,CF (fun _=>0) 30),(1000000000,[.ptr lv a [] 0,.int .i64 (eOf b)])],[],m⟩
def S31b (m:Mem) (lv a:Nat) (cc:Int) (g:Nat→Int) (t:Nat) (b:Bool):St:=⟨[(1,.int .i64 cc),(4,.ptr m.length 4 [] 0),(6,.ptr m.length 1000000000 [] 0),(9,.ptr m.length 9 [] 0),(63,.int .i64 t)],[],[(4,CF (fun _=>0) 30),(9,CF g 30),(1000000000,[.ptr lv a [] 0,.int .i64 (eOf b)])],[],m⟩
theorem rowsT_get (t:Nat) (ht:t < 7):∃ y:Row5,rowsT[t]?=some y∧y.s=(t:Int):=by
 rcases (by omega:t=0∨t=1∨t=2∨t=3∨t=4∨t=5∨t=6) with rfl | rfl | rfl | rfl | rfl | rfl | rfl <;> exact ⟨_,rfl,rfl⟩
include hd hs h0 h4 in
theorem loop31a {st:St} (hst:maskSt [1,4,6,25,26,27] [4] [] [6] st=some (S31a m lv a cc 0 true)) :
  ∃ e st',loopW (maskSt [1,4,6,25,26,27] [4] [] [6]) (Cd.run (app E) cx31.body.inner.body) st=some (e,st')∧e≠.normal∧e=.exit 1∧get st'.f 1=some (.int .i64 cc)∧get st'.f 4=some (.ptr m.length 4 [] 0)∧get st'.f 6=some (.ptr m.length 1000000000 [] 0)∧st'.dead=[]∧st'.tops=[]∧st'.m=m ∧
   st'.own=[(4,CF (fun _=>0) 30),(1000000000,[.ptr lv a [] 0,.int .i64 (eOf (hasT r cc 7))])]:=by
 have hlt:=hd.lv_lt
 have hlv:lv≠m.length:=by omega
 refine loop_inv (fun t S=>S=S31a m lv a cc t (hasT r cc t)) 7 _ hst rfl ?_ ?_
 ·rintro t S ht rfl
  have ht7:t < 7:=ht
  have htI:(t:Int) < 7:=by omega
  have hw:=wrap_succ t (by omega)
  have hw1:IntKind.i64.wrap (4865+cc)=4865+cc:=wrap_id _ (by omega) (by omega)
  obtain ⟨y,gy,ys⟩:=rowsT_get t ht7
  have gE:(Ls rowsT)[t]?=some y.enc:=by simp [encs,gy]
  have gE2:∀ h,(Ls rowsT)[t]'h=y.enc:=fun h=>(List.getElem?_eq_some_iff.1 gE).2
  have hlen:(Ls rowsT).length=7:=rfl
  have hok:=fun a b c=>ls_okns rowsT a b c
  have hrn:=fun a b ρ=>PV.datas_rens a b ρ _ (ls_data rowsT)
  obtain ⟨ys0,yk,yl,yh,yf⟩:=y
  simp only at ys
  subst ys
  have e1:=appx96 hd hs (b:=hasT r cc t) (own:=[(8,[.int .i64 t,.int .i64 yk,.int .i64 yl,.int .i64 yh,.bool yf]),(4,CF (fun _=>0) 30),(1000000000,[.ptr lv a [] 0,.int .i64 (eOf (hasT r cc t))])]) (own2:=[(8,[.int .i64 t,.int .i64 yk,.int .i64 yl,.int .i64 yh,.bool yf]),(4,CF (fun _=>0) 30),(1000000000,[.ptr lv a [] 0,.int .i64 (eOf (hasT r cc (t+1)))])]) (q:=1000000000) (4865+cc) (t:Int) (by simp) (by rw [hasT_succ]; simp) (fun h=>by rw [hasT_succ,h])
  have hG:Goes (maskSt [1,4,6,25,26,27] [4] [] [6]) (S31a m lv a cc (t+1) (hasT r cc (t+1))) (Cd.run (app E) cx31.body.inner.body (S31a m lv a cc t (hasT r cc t))):=by
   generalize hasT r cc (t+1)=b1 at *
   generalize hasT r cc t=b0 at *
   generalize (numR r (4865+cc) (t:Int)).1=nn at *
   simp only [S31a,Row5.enc] at *
   generalize Ls rowsT=LL at *
   simp [-isPlace,-moves,cx31,Cd.inner,Cd.body,htI,ht7,gE,gE2,hlen,hok,hrn,hw,hw1,e1,hlv]
  obtain ⟨st2,q1,q2⟩:=hG.get
  exact .inl ⟨st2,_,q1,q2,rfl⟩
 ·rintro S rfl
  generalize hasT r cc 7=b1 at *
  simp [cx31,Cd.inner,Cd.body,S31a,EndsL]
include hd hs h0 h4 in
theorem loop31b (B:Bool) {st:St} (hst:maskSt [1,4,6,9,63] [4,9] [] [6] st=some (S31b m lv a cc (loadT r cc 0) 0 B)) :
  ∃ e st',loopW (maskSt [1,4,6,9,63] [4,9] [] [6]) (Cd.run (app E) (cx31.body.nth 1)) st=some (e,st')∧e≠.normal∧e=.exit 3∧get st'.f 1=some (.int .i64 cc)∧get st'.f 4=some (.ptr m.length 4 [] 0)∧get st'.f 6=some (.ptr m.length 1000000000 [] 0)∧get st'.f 9=some (.ptr m.length 9 [] 0)∧st'.dead=[]∧st'.tops=[]∧st'.m=m ∧
   st'.own=[(4,CF (fun _=>0) 30),(9,CF (loadT r cc 8) 30),(1000000000,[.ptr lv a [] 0,.int .i64 (eOf (hasM r cc B 8))])]:=by
 have hlt:=hd.lv_lt
 have hlv:lv≠m.length:=by omega
 have hM0:hasM r cc B 0=B:=by simp [hasM]
 refine loop_inv (fun t S=>S=S31b m lv a cc (loadT r cc t) t (hasM r cc B t)) 8 _ hst (by rw [hM0]) ?_ ?_
 ·rintro t S ht rfl
  have ht8:t < 8:=ht
  have ht7:t≤7:=by omega
  have htI:(t:Int) < 8:=by omega
  have hw:=wrap_succ t (by omega)
  have hwz:IntKind.i64.wrap ((t:Int)+1)=(t:Int)+1:=wrap_id _ (by omega) (by omega)
  have hw1:IntKind.i64.wrap (4993+cc)=4993+cc:=wrap_id _ (by omega) (by omega)
  have h5:=loadT_5 r cc t
  have e1:=appx96 hd hs (b:=hasM r cc B t) (own:=[(4,CF (fun _=>0) 30),(9,CF (loadT r cc t) 30),(1000000000,[.ptr lv a [] 0,.int .i64 (eOf (hasM r cc B t))])]) (own2:=[(4,CF (fun _=>0) 30),(9,CF (loadT r cc t) 30),(1000000000,[.ptr lv a [] 0,.int .i64 (eOf (hasM r cc B (t+1)))])]) (q:=1000000000) (4993+cc) ((t:Int)+1) (by simp) (by rw [hasM_succ]; simp) (fun h=>by rw [hasM_succ,h])
  have hg1:loadT r cc (t+1)=if (t:Int) < numM r cc then up3 (loadT r cc t) (t * 3+6) (slotP (numR r (4993+cc) ((t:Int)+1)).1).i (slotP (numR r (4993+cc) ((t:Int)+1)).1).s (slotP (numR r (4993+cc) ((t:Int)+1)).1).n else loadT r cc t:=rfl
  have h97:=app97s (numR r (4993+cc) ((t:Int)+1)).1
  have hput:=CF_put3 (loadT r cc t) (n:=30) (a:=t * 3+6) (by omega) (slotP (numR r (4993+cc) ((t:Int)+1)).1).i (slotP (numR r (4993+cc) ((t:Int)+1)).1).s (slotP (numR r (4993+cc) ((t:Int)+1)).1).n
  rw [show t * 3+6+3=6+t * 3+3 by omega] at hput
  have hcomm:t * 3+6=6+t * 3:=by omega
  rw [hcomm] at hput hg1
  have hb1:6+t * 3+3≤30:=by omega
  generalize hasM r cc B (t+1)=b1 at *
  generalize hasM r cc B t=b0 at *
  generalize (numR r (4993+cc) ((t:Int)+1)).1=nn at *
  generalize slotP nn=x at *
  generalize (if wfits 4 nn=true then (0:Int) else 2)=ev at *
  have hG:Goes (maskSt [1,4,6,9,63] [4,9] [] [6]) (S31b m lv a cc (loadT r cc (t+1)) (t+1) b1) (Cd.run (app E) (cx31.body.nth 1) (S31b m lv a cc (loadT r cc t) t b0)):=by
   by_cases hn:(t:Int) < numM r cc
   ·rw [hg1,if_pos hn]
    generalize loadT r cc t=g0 at *
    generalize up3 g0 (6+t * 3) x.i x.s x.n=g1 at *
    simp only [S31b]
    simp [-isPlace,-moves,cx31,Cd.nth,Cd.loops,Cd.body,htI,ht7,ht8,hb1,hw,hw1,hwz,e1,h5,hn,h97,hput,hlv]
   ·rw [hg1,if_neg hn]
    generalize loadT r cc t=g0 at *
    simp only [S31b]
    simp [-isPlace,-moves,cx31,Cd.nth,Cd.loops,Cd.body,htI,ht7,ht8,hb1,hw,hw1,hwz,e1,h5,hn,h97,hlv]
  obtain ⟨st2,q1,q2⟩:=hG.get
  exact .inl ⟨st2,_,q1,q2,rfl⟩
 ·rintro S rfl
  generalize hasM r cc B 8=b1 at *
  simp [cx31,Cd.nth,Cd.loops,Cd.body,S31b,EndsL]
end
theorem CF_head (r:RD) (c:Int):CF (loadT r c 0) 30=PV.int .i64 (numR r (4865+c) 1).1::PV.int .i64 (numR r (4865+c) 2).1::PV.int .i64 (numR r (4865+c) 3).1::PV.int .i64 (numR r (4865+c) 5).1::PV.int .i64 (numR r (4865+c) 6).1::PV.int .i64 (numR r (4993+c) 0).1::List.drop 6 (CF (fun _=>0) 30):=rfl
section
variable {m:Mem} {lv a a' ver:Nat} {l:List Row} {c:Int} (hd:DA m lv a a' ver l c) {r:RD} (hs:Sim l c r) (cc:Int)
include hd hs in
theorem appx31 (h0:0≤cc) (h4:cc < 4):app E false (.fn 68 []) [.ptr lv a [] 0,.int .i64 cc] m=some (.tup [.agg (CF (if loadOk r cc=true then loadT r cc 8 else fun _=>0) 30),.int .i64 (eOf (loadOk r cc))],emptyBag,m):=by
 have hlt:=hd.lv_lt
 have hlv:lv≠m.length:=by omega
 have z:=CF_zero30
 have h84:=appx84 cc
 have hb:(decide (0≤cc) && decide (cc < 4))=true:=by simp [h0,h4]
 rw [hb] at h84
 have hw1:IntKind.i64.wrap (4865+cc)=4865+cc:=wrap_id _ (by omega) (by omega)
 have hw2:IntKind.i64.wrap (4993+cc)=4993+cc:=wrap_id _ (by omega) (by omega)
 have hw3:IntKind.i64.wrap (cc+1)=cc+1:=wrap_id _ (by omega) (by omega)
 have hlen:(Ls rowsT).length=7:=rfl
 have hok:=fun a b c=>ls_okns rowsT a b c
 have hrn:=fun a b ρ=>PV.datas_rens a b ρ _ (ls_data rowsT)
 have h67:=app67
 have step:∀ (b:Bool) (i s:Int),app E false (.fn 113 []) [.ptr m.length 1000000000 [] 0,.int .i64 i,.int .i64 s] ([(4,CF (fun _=>0) 30),(1000000000,[.ptr lv a [] 0,.int .i64 (eOf b)])]::m)=some (.int .i64 (numR r i s).1,emptyBag,[(4,CF (fun _=>0) 30),(1000000000,[.ptr lv a [] 0,.int .i64 (eOf (b && (numR r i s).2))])]::m):=by
  intro b i s
  exact appx96 hd hs (b:=b) (own:=[(4,CF (fun _=>0) 30),(1000000000,[.ptr lv a [] 0,.int .i64 (eOf b)])]) (own2:=[(4,CF (fun _=>0) 30),(1000000000,[.ptr lv a [] 0,.int .i64 (eOf (b && (numR r i s).2))])]) (q:=1000000000) i s (by simp) (by simp) (fun h=>by rw [h])
 have e1:=step (hasT r cc 7) (4865+cc) 1
 have e2:=step (hasT r cc 7 && (numR r (4865+cc) 1).2) (4865+cc) 2
 have e3:=step (hasT r cc 7 && (numR r (4865+cc) 1).2 && (numR r (4865+cc) 2).2) (4865+cc) 3
 have e4:=step (hasT r cc 7 && (numR r (4865+cc) 1).2 && (numR r (4865+cc) 2).2 && (numR r (4865+cc) 3).2) (4865+cc) 5
 have e5:=step (hasT r cc 7 && (numR r (4865+cc) 1).2 && (numR r (4865+cc) 2).2 && (numR r (4865+cc) 3).2 && (numR r (4865+cc) 5).2) (4865+cc) 6
 have e6:=step (hasT r cc 7 && (numR r (4865+cc) 1).2 && (numR r (4865+cc) 2).2 && (numR r (4865+cc) 3).2 && (numR r (4865+cc) 5).2 && (numR r (4865+cc) 6).2) (4993+cc) 0
 have e7:=appx96 hd hs (b:=hasM r cc (hasT r cc 7 && (numR r (4865+cc) 1).2 && (numR r (4865+cc) 2).2 && (numR r (4865+cc) 3).2 && (numR r (4865+cc) 5).2 && (numR r (4865+cc) 6).2 && (numR r (4993+cc) 0).2) 8) (own:=[(4,CF (fun _=>0) 30),(9,CF (loadT r cc 8) 30),(1000000000,[.ptr lv a [] 0,.int .i64 (eOf (hasM r cc (hasT r cc 7 && (numR r (4865+cc) 1).2 && (numR r (4865+cc) 2).2 && (numR r (4865+cc) 3).2 && (numR r (4865+cc) 5).2 && (numR r (4865+cc) 6).2 && (numR r (4993+cc) 0).2) 8))])]) (own2:=[(4,CF (fun _=>0) 30),(9,CF (loadT r cc 8) 30),(1000000000,[.ptr lv a [] 0,.int .i64 (eOf (loadOk r cc))])]) (q:=1000000000) 5119 (cc+1) (by simp) (by simp [loadOk]) (fun h=>by rw [loadOk,h])
 have hS0:maskSt [1,4,6,25,26,27] [4] [] [6] (S31a m lv a cc 0 true)=some (S31a m lv a cc 0 true):=by
  simp only [S31a]
  generalize Ls rowsT=LL at *
  simp [-isPlace,-moves,hlv,hok,hrn]
 have hT0:CF (loadT r cc 0) 30=_:=CF_head r cc
 obtain ⟨x1,⟨f1,tops1,own1,dead1,m1⟩,q1,q2,rfl,g1,g4,g6,gd,gt,gm,go⟩:=loop31a hd hs cc h0 h4 hS0
 simp only at g1 g4 g6 gd gt gm go
 subst gd gt gm go
 have hl1:=loop_at hS0 q1
 have hS1:maskSt [1,4,6,9,63] [4,9] [] [6] (S31b m1 lv a cc (loadT r cc 0) 0 (hasT r cc 7 && (numR r (4865+cc) 1).2 && (numR r (4865+cc) 2).2 && (numR r (4865+cc) 3).2 && (numR r (4865+cc) 5).2 && (numR r (4865+cc) 6).2 && (numR r (4993+cc) 0).2))=some (S31b m1 lv a cc (loadT r cc 0) 0 (hasT r cc 7 && (numR r (4865+cc) 1).2 && (numR r (4865+cc) 2).2 && (numR r (4865+cc) 3).2 && (numR r (4865+cc) 5).2 && (numR r (4865+cc) 6).2 && (numR r (4993+cc) 0).2)):=by
  generalize (hasT r cc 7 && (numR r (4865+cc) 1).2 && (numR r (4865+cc) 2).2 && (numR r (4865+cc) 3).2 && (numR r (4865+cc) 5).2 && (numR r (4865+cc) 6).2 && (numR r (4993+cc) 0).2)=b6
  simp only [S31b]
  simp [-isPlace,-moves,hlv]
 obtain ⟨x2,⟨f2,tops2,own2,dead2,m2⟩,p1,p2,rfl,k1,k4,k6,k9,kd,kt,km,ko⟩:=loop31b hd hs cc h0 h4 _ hS1
 simp only at k1 k4 k6 k9 kd kt km ko
 subst kd kt km ko
 have hl2:=loop_at hS1 p1
 simp only [cx31,Cd.inner,Cd.body,S31a] at hl1
 simp only [cx31,Cd.body,Cd.nth,Cd.loops,S31b,List.nil_append,List.append_nil,List.cons_append,List.getElem?_cons_succ,List.getElem?_cons_zero,Option.getD_some] at hl2
 generalize (hasT r cc 7 && (numR r (4865+cc) 1).2 && (numR r (4865+cc) 2).2 && (numR r (4865+cc) 3).2 && (numR r (4865+cc) 5).2 && (numR r (4865+cc) 6).2 && (numR r (4993+cc) 0).2)=b6 at *
 generalize (hasT r cc 7 && (numR r (4865+cc) 1).2 && (numR r (4865+cc) 2).2 && (numR r (4865+cc) 3).2 && (numR r (4865+cc) 5).2 && (numR r (4865+cc) 6).2)=b5 at *
 generalize (hasT r cc 7 && (numR r (4865+cc) 1).2 && (numR r (4865+cc) 2).2 && (numR r (4865+cc) 3).2 && (numR r (4865+cc) 5).2)=b4 at *
 generalize (hasT r cc 7 && (numR r (4865+cc) 1).2 && (numR r (4865+cc) 2).2 && (numR r (4865+cc) 3).2)=b3 at *
 generalize (hasT r cc 7 && (numR r (4865+cc) 1).2 && (numR r (4865+cc) 2).2)=b2 at *
 generalize (hasT r cc 7 && (numR r (4865+cc) 1).2)=b1 at *
 generalize hasT r cc 7=b0 at *
 generalize hasM r cc b6 8=b8 at *
 generalize (numR r (4865+cc) 1).1=n1 at *
 generalize (numR r (4865+cc) 2).1=n2 at *
 generalize (numR r (4865+cc) 3).1=n3 at *
 generalize (numR r (4865+cc) 5).1=n5 at *
 generalize (numR r (4865+cc) 6).1=n6 at *
 generalize (numR r (4993+cc) 0).1=n0 at *
 generalize (numR r 5119 (cc+1)).1=ns at *
 simp only [eOf_t] at hl1
 rw [app_fn E rfl hx31 rfl]
 generalize loadT r cc 0=gA at *
 generalize loadT r cc 8=gB at *
 generalize Ls rowsT=LL at *
 generalize loadOk r cc=bq at *
 cases bq with
 | true =>
  simp only [eOf_t,if_true] at *
  simp [-isPlace,-moves,cx31,← z,← hT0,h84,h67,hlv,hlen,hok,hrn,hw1,hw2,hw3,hl1,g1,g4,g6,e1,e2,e3,e4,e5,e6,hl2,k1,k4,k6,k9,e7]
 | false =>
  simp only [eOf_f,Bool.false_eq_true,if_false] at *
  simp [-isPlace,-moves,cx31,← z,← hT0,h84,h67,hlv,hlen,hok,hrn,hw1,hw2,hw3,hl1,g1,g4,g6,e1,e2,e3,e4,e5,e6,hl2,k1,k4,k6,k9,e7]
end
theorem appx90 (r:RD) (hr:r.ok) (i s:Int):app E false (.fn 41 []) [r.pv,.int .i64 i,.int .i64 s] []=some (.int .i64 (numR r i s).1,emptyBag,[]):=by
 have h1:=app106 i s
 have h2:=app32 r hr i s
 have g4:=fun a=>es_deps r.l a
 have g5:=fun a b c=>es_okns r.l a b c
 rw [app_fn E rfl hx90 rfl]
 generalize numR r i s=w at *
 obtain ⟨w1,w2⟩:=w
 simp only [RD.pv,El,rd] at *
 generalize Es r.l=L0 at *
 simp [cx90,h1,h2,g4,g5]
def oneR (r:RD) (c:Int) (j:Nat):Bool:=(!decide ((j:Int)≤6) || (numR r (4865+c) (j:Int)).2) && (numR r (4993+c) (j:Int)).2
def hasR (r:RD) (c:Int) (t:Nat):Bool:=(List.range t).all (oneR r c)
theorem hasR_iff (r:RD) (c:Int) (t:Nat):hasR r c t=true↔∀ j,j < t→oneR r c j=true:=by
 unfold hasR; simp only [List.all_eq_true,List.mem_range]
theorem loadOk_iff (r:RD) (c:Int):loadOk r c=(hasR r c 9 && (numR r 5119 (c+1)).2):=by
 rw [Bool.eq_iff_iff]
 simp only [loadOk,hasM,hasT,hasR,oneR,Bool.and_eq_true,List.all_eq_true,List.mem_range,Bool.or_eq_true,Bool.not_eq_true',decide_eq_false_iff_not]
 constructor
 ·rintro ⟨⟨⟨⟨⟨⟨⟨⟨hT,_⟩,_⟩,_⟩,_⟩,_⟩,h0⟩,hM⟩,hs⟩
  refine ⟨fun j hj=>⟨?_,?_⟩,hs⟩
  ·by_cases h6:j < 7
   ·exact .inr (hT j h6)
   ·exact .inl (by omega)
  ·cases j with
   | zero=>exact h0
   | succ j =>
    have:=hM j (by omega)
    rw [show ((j+1:Nat):Int)=(j:Int)+1 by omega]
    exact this
 ·rintro ⟨h,hs⟩
  have hT:∀ x:Nat,x < 7→(numR r (4865+c) (x:Int)).2=true:=fun x hx=>(h x (by omega)).1.resolve_left (by omega)
  refine ⟨⟨⟨⟨⟨⟨⟨⟨hT,hT 1 (by omega)⟩,hT 2 (by omega)⟩,hT 3 (by omega)⟩,hT 5 (by omega)⟩,hT 6 (by omega)⟩,(h 0 (by omega)).2⟩,fun x hx=>?_⟩,hs⟩
  have:=(h (x+1) (by omega)).2
  rw [show ((x+1:Nat):Int)=(x:Int)+1 by omega] at this
  exact this
theorem loadT_stop {r:RD} {c:Int} {t:Nat} (h:numM r c≤(t:Int)) (k:Nat):loadT r c (t+k)=loadT r c t:=by
 induction k with
 | zero=>rfl
 | succ k ih=>rw [show t+(k+1)=(t+k)+1 by omega,loadT,if_neg (by omega),ih]
section
variable {r:RD} (hr:r.ok) (cc:Int) (h0:0≤cc) (h4:cc < 4)
def S28a (r:RD) (cc:Int) (t:Nat):St:=⟨[(1,.int .i64 cc),(2,.elp r.pv 0),(4,.ptr 0 4 [] 0),(6,.int .i64 t)],[],[(4,CF (fun _=>0) 30)],[],[]⟩
def S28b (r:RD) (cc:Int) (t:Nat):St:=⟨[(1,.int .i64 cc),(2,.elp r.pv 0),(4,.ptr 0 4 [] 0),(13,.ptr 0 13 [] 0),(14,.int .i64 t)],[],[(4,CF (fun _=>0) 30),(13,CF (loadT r cc t) 30)],[],[]⟩
include hr h0 h4 in
set_option maxHeartbeats 1000000 in
theorem loop28a {st:St} (hst:maskSt [1,2,4,6] [4] [] [] st=some (S28a r cc 0)) :
  ∃ e st',loopW (maskSt [1,2,4,6] [4] [] []) (Cd.run (app E) cx28.body.inner.body) st=some (e,st')∧e≠.normal∧st'.m=[]∧st'.dead=[]∧st'.tops=[] ∧
   ((e=.exit 0∧hasR r cc 9=true∧get st'.f 1=some (.int .i64 cc)∧get st'.f 2=some (.elp r.pv 0)∧get st'.f 4=some (.ptr 0 4 [] 0)∧st'.own=[(4,CF (fun _=>0) 30)]) ∨
    (e=.ret∧hasR r cc 9=false∧get st'.f 4=some (.ptr 0 4 [] 0)∧get st'.f 5=some (.int .i64 7)∧st'.own=[(4,CF (fun _=>0) 30)])):=by
 have z:=CF_zero30
 have g4:=fun a=>es_deps r.l a
 have g5:=fun a b c=>es_okns r.l a b c
 have hrn:=fun a b ρ=>es_rens r.l a b ρ
 refine loop_inv (fun t S=>(∀ j,j < t→oneR r cc j=true)∧S=S28a r cc t) 9 _ hst ⟨fun j hj=>by omega,rfl⟩ ?_ ?_
 ·rintro t S ht ⟨hall,rfl⟩
  have htI:(t:Int)≤8:=by omega
  have hw:=wrap_succ t (by omega)
  have hw1:IntKind.i64.wrap (4865+cc)=4865+cc:=wrap_id _ (by omega) (by omega)
  have hw2:IntKind.i64.wrap (4993+cc)=4993+cc:=wrap_id _ (by omega) (by omega)
  have k1:=app106 (4865+cc) t
  have k2:=app106 (4993+cc) t
  have n1:=app32 r hr (4865+cc) t
  have n2:=app32 r hr (4993+cc) t
  have hone:oneR r cc t=((!decide ((t:Int)≤6) || (numR r (4865+cc) (t:Int)).2) && (numR r (4993+cc) (t:Int)).2):=rfl
  generalize numR r (4865+cc) (t:Int)=u1 at *
  generalize numR r (4993+cc) (t:Int)=u2 at *
  obtain ⟨u1,v1⟩:=u1
  obtain ⟨u2,v2⟩:=u2
  simp only at hone n1 n2
  have hno:oneR r cc t=false→hasR r cc 9=false:=fun h=>by
   cases hq:hasR r cc 9 with
   | false=>rfl
   | true =>
    have:=(hasR_iff r cc 9).1 hq t ht
    rw [this] at h; cases h
  have hgo:oneR r cc t=true→∀ j,j < t+1→oneR r cc j=true:=fun h j hj=>by
   by_cases e:j=t
   ·rw [e]; exact h
   ·exact hall j (by omega)
  generalize oneR r cc t=o at *
  have hbad:o=false→EndsL (fun e st'=>st'.m=[]∧st'.dead=[]∧st'.tops=[] ∧
   ((e=.exit 0∧hasR r cc 9=true∧get st'.f 1=some (.int .i64 cc)∧get st'.f 2=some (.elp r.pv 0)∧get st'.f 4=some (.ptr 0 4 [] 0)∧st'.own=[(4,CF (fun _=>0) 30)]) ∨
    (e=.ret∧hasR r cc 9=false∧get st'.f 4=some (.ptr 0 4 [] 0)∧get st'.f 5=some (.int .i64 7)∧st'.own=[(4,CF (fun _=>0) 30)]))) (Cd.run (app E) cx28.body.inner.body (S28a r cc t)):=by
   intro ho
   rw [hno ho]
   rw [ho] at hone
   simp only [S28a,RD.pv,El,rd] at *
   generalize Es r.l=L0 at *
   by_cases h6:(t:Int)≤6
   ·cases v1 <;> cases v2 <;> simp [h6] at hone <;> simp [-isPlace,-moves,cx28,Cd.inner,Cd.body,← z,htI,hw1,hw2,k1,k2,n1,n2,h6,g4,EndsL]
   ·cases v2
    ·cases v1 <;> simp [-isPlace,-moves,cx28,Cd.inner,Cd.body,← z,htI,hw1,hw2,k1,k2,n1,n2,h6,g4,EndsL]
    ·simp [h6] at hone
  have hgood:o=true→Goes (maskSt [1,2,4,6] [4] [] []) (S28a r cc (t+1)) (Cd.run (app E) cx28.body.inner.body (S28a r cc t)):=by
   intro ho
   rw [ho] at hone
   simp only [S28a,RD.pv,El,rd] at *
   generalize Es r.l=L0 at *
   by_cases h6:(t:Int)≤6
   ·cases v1 <;> cases v2 <;> simp [h6] at hone <;> simp [-isPlace,-moves,cx28,Cd.inner,Cd.body,← z,htI,hw,hw1,hw2,k1,k2,n1,n2,h6,g4,g5,hrn]
   ·cases v2
    ·simp [h6] at hone
    ·cases v1 <;> simp [-isPlace,-moves,cx28,Cd.inner,Cd.body,← z,htI,hw,hw1,hw2,k1,k2,n1,n2,h6,g4,g5,hrn]
  cases o with
  | true =>
   obtain ⟨st2,q1,q2⟩:=(hgood rfl).get
   exact .inl ⟨st2,_,q1,q2,hgo rfl,rfl⟩
  | false=>exact .inr (hbad rfl)
 ·rintro S ⟨hall,rfl⟩
  rw [(hasR_iff r cc 9).2 hall]
  simp [cx28,Cd.inner,Cd.body,S28a,EndsL]
include hr h0 h4 in
set_option maxHeartbeats 1000000 in
theorem loop28b (hbd:∀ j:Nat,j < 8→0≤(numR r (4993+cc) ((j:Int)+1)).1∧(numR r (4993+cc) ((j:Int)+1)).1≤4294967295) {st:St} (hst:maskSt [1,2,4,13,14] [4,13] [] [] st=some (S28b r cc 0)) :
  ∃ e st',loopW (maskSt [1,2,4,13,14] [4,13] [] []) (Cd.run (app E) (cx28.body.nth 1)) st=some (e,st')∧e≠.normal∧e=.exit 2∧st'.m=[]∧st'.dead=[]∧st'.tops=[]∧get st'.f 4=some (.ptr 0 4 [] 0)∧get st'.f 13=some (.ptr 0 13 [] 0)∧st'.own=[(4,CF (fun _=>0) 30),(13,CF (loadT r cc 8) 30)]:=by
 have g4:=fun a=>es_deps r.l a
 have g5:=fun a b c=>es_okns r.l a b c
 have hrn:=fun a b ρ=>es_rens r.l a b ρ
 refine loop_inv (fun t S=>S=S28b r cc t) 8 _ hst rfl ?_ ?_
 ·rintro t S ht rfl
  have ht8:t < 8:=ht
  have ht7:t≤7:=by omega
  have htI:(t:Int) < 8:=by omega
  have h5:=loadT_5 r cc t
  by_cases hn:(t:Int) < numM r cc
  ·have hw:=wrap_succ t (by omega)
   have hwz:IntKind.i64.wrap ((t:Int)+1)=(t:Int)+1:=wrap_id _ (by omega) (by omega)
   have hw2:IntKind.i64.wrap (4993+cc)=4993+cc:=wrap_id _ (by omega) (by omega)
   have k1:=appx90 r hr (4993+cc) ((t:Int)+1)
   obtain ⟨b1,b2⟩:=hbd t ht8
   have k2:=app21 _ b1 b2
   have hg1:loadT r cc (t+1)=if (t:Int) < numM r cc then up3 (loadT r cc t) (t * 3+6) (slotP (numR r (4993+cc) ((t:Int)+1)).1).i (slotP (numR r (4993+cc) ((t:Int)+1)).1).s (slotP (numR r (4993+cc) ((t:Int)+1)).1).n else loadT r cc t:=rfl
   have hsp:slotP (numR r (4993+cc) ((t:Int)+1)).1=⟨(numR r (4993+cc) ((t:Int)+1)).1 / 65536,(numR r (4993+cc) ((t:Int)+1)).1 / 256 % 256,(numR r (4993+cc) ((t:Int)+1)).1 % 256⟩:=by
    rw [slotP,if_pos (by rw [wfits4]; simp [b1,b2])]
   rw [if_pos hn,hsp] at hg1
   have hput:=CF_put3 (loadT r cc t) (n:=30) (a:=t * 3+6) (by omega) ((numR r (4993+cc) ((t:Int)+1)).1 / 65536) ((numR r (4993+cc) ((t:Int)+1)).1 / 256 % 256) ((numR r (4993+cc) ((t:Int)+1)).1 % 256)
   rw [show t * 3+6+3=6+t * 3+3 by omega] at hput
   have hcomm:t * 3+6=6+t * 3:=by omega
   rw [hcomm] at hput hg1
   simp only at hg1
   have hb1:6+t * 3+3≤30:=by omega
   refine .inl ?_
   have hG:Goes (maskSt [1,2,4,13,14] [4,13] [] []) (S28b r cc (t+1)) (Cd.run (app E) (cx28.body.nth 1) (S28b r cc t)):=by
    simp only [S28b]
    rw [hg1]
    generalize (numR r (4993+cc) ((t:Int)+1)).1=nn at *
    generalize nn / 65536=q1 at *
    generalize nn / 256 % 256=q2 at *
    generalize nn % 256=q3 at *
    generalize loadT r cc t=g0 at *
    generalize up3 g0 (6+t * 3) q1 q2 q3=g1 at *
    simp only [RD.pv,El,rd,slt] at *
    generalize Es r.l=L0 at *
    simp [-isPlace,-moves,cx28,Cd.nth,Cd.loops,Cd.body,htI,ht7,ht8,hb1,hw,hw2,hwz,h5,hn,k1,k2,hput,g4,g5,hrn]
   obtain ⟨st2,q1,q2⟩:=hG.get
   exact ⟨st2,_,q1,q2,rfl⟩
  ·have hstop:loadT r cc 8=loadT r cc t:=by
    have:=loadT_stop (r:=r) (c:=cc) (t:=t) (by omega) (8 - t)
    rwa [show t+(8 - t)=8 by omega] at this
   refine .inr ?_
   rw [hstop]
   simp only [S28b]
   generalize loadT r cc t=g0 at *
   simp [-isPlace,-moves,cx28,Cd.nth,Cd.loops,Cd.body,htI,ht7,ht8,h5,hn,EndsL]
 ·rintro S rfl
  simp [cx28,Cd.nth,Cd.loops,Cd.body,S28b,EndsL]
end
section
variable {r:RD} (hr:r.ok) (cc:Int) (h0:0≤cc) (h4:cc < 4)
include hr h0 h4
set_option maxHeartbeats 1000000 in
theorem appx28 (hbd:∀ j:Nat,j < 8→0≤(numR r (4993+cc) ((j:Int)+1)).1∧(numR r (4993+cc) ((j:Int)+1)).1≤4294967295):app E false (.fn 17 []) [r.pv,.int .i64 cc] []=some (.tup [.agg (CF (if loadOk r cc=true then loadT r cc 8 else fun _=>0) 30),.int .i64 (eOf (loadOk r cc))],emptyBag,[]):=by
 have z:=CF_zero30
 have g4:=fun a=>es_deps r.l a
 have g5:=fun a b c=>es_okns r.l a b c
 have hrn:=fun a b ρ=>es_rens r.l a b ρ
 have hw1:IntKind.i64.wrap (4865+cc)=4865+cc:=wrap_id _ (by omega) (by omega)
 have hw2:IntKind.i64.wrap (4993+cc)=4993+cc:=wrap_id _ (by omega) (by omega)
 have hw3:IntKind.i64.wrap (cc+1)=cc+1:=wrap_id _ (by omega) (by omega)
 have hc0:¬ cc < 0:=by omega
 have hc3:¬ 3 < cc:=by omega
 have hS0:maskSt [1,2,4,6] [4] [] [] (S28a r cc 0)=some (S28a r cc 0):=by
  simp only [S28a,RD.pv,El,rd]
  generalize Es r.l=L0 at *
  simp [-isPlace,-moves,g4,g5,hrn]
 obtain ⟨x1,⟨f1,tops1,own1,dead1,m1⟩,q1,q2,gm,gd,gt,q3⟩:=loop28a hr cc h0 h4 hS0
 simp only at gm gd gt
 subst gm gd gt
 have hl1:=loop_at hS0 q1
 rw [loadOk_iff]
 have s1:=app106 5119 (cc+1)
 have s2:=app32 r hr 5119 (cc+1)
 have a1:=appx90 r hr (4865+cc) 1
 have a2:=appx90 r hr (4865+cc) 2
 have a3:=appx90 r hr (4865+cc) 3
 have a5:=appx90 r hr (4865+cc) 5
 have a6:=appx90 r hr (4865+cc) 6
 have a0:=appx90 r hr (4993+cc) 0
 have hT0:=CF_head r cc
 rcases q3 with ⟨rfl,hz,k1,k2,k4,go⟩ | ⟨rfl,hz,k4,k5,go⟩
 ·simp only at k1 k2 k4 go
  subst go
  have hS1:maskSt [1,2,4,13,14] [4,13] [] [] (S28b r cc 0)=some (S28b r cc 0):=by
   simp only [S28b,RD.pv,El,rd]
   generalize Es r.l=L0 at *
   simp [-isPlace,-moves,g4,g5,hrn]
  obtain ⟨x2,⟨f2,tops2,own2,dead2,m2⟩,p1,p2,rfl,gm,gd,gt,j4,j13,go⟩:=loop28b hr cc h0 h4 hbd hS1
  simp only at gm gd gt j4 j13 go
  subst gm gd gt go
  have hl2:=loop_at hS1 p1
  rw [hz,Bool.true_and]
  simp only [cx28,Cd.inner,Cd.body,S28a,← z] at hl1
  simp only [cx28,Cd.body,Cd.nth,Cd.loops,S28b,List.nil_append,List.append_nil,List.cons_append,List.getElem?_cons_succ,List.getElem?_cons_zero,Option.getD_some] at hl2
  rw [app_fn E rfl hx28 rfl]
  generalize numR r 5119 (cc+1)=ws at *
  obtain ⟨w1,w2⟩:=ws
  generalize (numR r (4865+cc) 1).1=n1 at *
  generalize (numR r (4865+cc) 2).1=n2 at *
  generalize (numR r (4865+cc) 3).1=n3 at *
  generalize (numR r (4865+cc) 5).1=n5 at *
  generalize (numR r (4865+cc) 6).1=n6 at *
  generalize (numR r (4993+cc) 0).1=n0 at *
  generalize loadT r cc 0=gA at *
  generalize loadT r cc 8=gB at *
  simp only [RD.pv,El,rd] at *
  generalize Es r.l=L0 at *
  cases w2 with
  | true =>
   simp only [eOf_t,if_true]
   simp [-isPlace,-moves,cx28,← z,← hT0,hc0,hc3,hw1,hw2,hw3,hl1,k1,k2,k4,s1,s2,a1,a2,a3,a5,a6,a0,hl2,j4,j13,g4,g5,hrn]
  | false =>
   simp only [eOf_f,Bool.false_eq_true,if_false]
   simp [-isPlace,-moves,cx28,← z,← hT0,hc0,hc3,hw1,hw2,hw3,hl1,k1,k2,k4,s1,s2,g4,g5,hrn]
 ·simp only at k4 k5 go
  subst go
  rw [hz,Bool.false_and]
  simp only [cx28,Cd.inner,Cd.body,S28a,← z] at hl1
  rw [app_fn E rfl hx28 rfl]
  simp only [RD.pv,El,rd,eOf_f,Bool.false_eq_true,if_false] at *
  generalize Es r.l=L0 at *
  simp [-isPlace,-moves,cx28,← z,hc0,hc3,hw1,hw2,hw3,hl1,k4,k5,g4,g5,hrn]
end
end Go.Proofs.YtmffcpiffkclgaaGreat.ZJM.DC
