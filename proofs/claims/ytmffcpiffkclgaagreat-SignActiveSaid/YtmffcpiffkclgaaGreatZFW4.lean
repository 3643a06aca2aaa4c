/- Whether a channel fits: the program's and the document's. -/
import Derived.Test.YtmffcpiffkclgaaGreatZFW1
set_option linter.unusedSimpArgs false
set_option linter.unusedVariables false
set_option maxRecDepth 10000
namespace Go.Proofs.YtmffcpiffkclgaaGreat.ZJM.DC
open Go.Proofs.YtmffcpiffkclgaaGreat.ZJM Go.RowKit
def fitE (k a:Int) (x:Slot):Bool:=!(8 * ksz k == 0) && (!(a == 4) && ((x.n == 8 * ksz k) && (!safeA x.i && !(x.i == 5118))))
def oneF (r:RD) (x:Slot):Bool:=match findIx r.l x.i x.s with
 | none=>false
 | some j=>match r.l[j]? with
  | none=>false
  | some y=>fitE y.k y.a x
def fitW (o:Option Row) (x:Slot):Bool:=match o with
 | none=>false
 | some y=>fitE y.k y.a x
theorem Sim.fit {l:List Row} {c:Int} {r:RD} (h:Sim l c r) (x:Slot):oneF r x=fitW (getW l (knum x.i x.s)) x:=by
 unfold oneF fitW
 rcases h.at x.i x.s with ⟨h1,h2⟩ | ⟨y,j,hj,h1,h2,hre,e1,e2,hok⟩
 ·rw [h1,h2]
 ·rw [h1,h2]
  obtain ⟨r0,r1,r2,r3,r4,r5⟩:=hre
  simp only [List.getElem?_eq_getElem hj,← r1,← r2]
theorem fitE_n {k a:Int} {x:Slot} (h:fitE k a x=true):x.n=8 * ksz k∧0 < x.n∧x.n≤32:=by
 unfold fitE at h
 simp only [Bool.and_eq_true,Bool.not_eq_true',beq_iff_eq,beq_eq_false_iff_ne] at h
 have:=ksz_le k
 obtain ⟨h1,_,h3,_⟩:=h
 omega
def fitsL (r:RD):Int→List Slot→Bool
 | _,[]=>true
 | acc,x::L=>if oneF r x=true then (if 64 < acc+x.n then false else fitsL r (acc+x.n) L) else false
theorem oneF_n {r:RD} {x:Slot} (h:oneF r x=true):0 < x.n∧x.n≤32:=by
 unfold oneF at h
 cases hf:findIx r.l x.i x.s with
 | none=>rw [hf] at h; cases h
 | some j =>
  rw [hf] at h
  simp only at h
  cases hj:r.l[j]? with
  | none=>rw [hj] at h; cases h
  | some y=>rw [hj] at h; exact (fitE_n h).2
section
variable {m:Mem} {lv a a' ver:Nat} {l:List Row} {c:Int} (hd:DA m lv a a' ver l c) {r:RD} (hs:Sim l c r) (L:List Slot)
def S29 (m:Mem) (lv a:Nat) (L:List Slot) (t:Nat) (acc:Int):St:=⟨[(0,.ptr lv a [] 0),(5,.int .i64 (64 - acc)),(60,Sl false L),(61,.int .i64 L.length),(62,.int .i64 t)],[],[],[],m⟩
include hd hs in
set_option maxHeartbeats 2000000 in
theorem loop29 (hL:L.length≤8) {st:St} (h0:maskSt [0,5,60,61,62] [] [] [] st=some (S29 m lv a L 0 0)) :
  ∃ e st',loopW (maskSt [0,5,60,61,62] [] [] []) (Cd.run (app E) cx29.body.inner.body) st=some (e,st')∧e≠.normal ∧
   ((e=.exit 1∧fitsL r 0 L=true∧st'.m=m)∨(e=.ret∧fitsL r 0 L=false∧get st'.f 4=some (.bool false)∧st'.m=m)):=by
 have hlt:=hd.lv_lt
 have hlv:lv≠m.length:=by omega
 refine loop_inv (fun t S=>∃ acc,0≤acc∧acc≤64∧fitsL r 0 L=fitsL r acc (L.drop t)∧S=S29 m lv a L t acc) L.length _ h0 ⟨0,by omega,by omega,rfl,rfl⟩ ?_ ?_
 ·rintro t S ht ⟨acc,ha0,ha1,hc,rfl⟩
  have hti:(t:Int) < L.length:=by omega
  have hw:=wrap_succ t (by omega)
  have hdd:L.drop t=L[t]::L.drop (t+1):=List.drop_eq_getElem_cons ht
  rw [hdd,fitsL] at hc
  have h92:=app95 (m:=[(7,[.int .i64 L[t].i,.int .i64 L[t].s,.int .i64 L[t].n])]::m) (.inr ⟨_,_,rfl⟩) (finds (hd.cons [(7,[.int .i64 L[t].i,.int .i64 L[t].s,.int .i64 L[t].n])]) hs.dok L[t].i L[t].s)
  have hone:=hs.fit L[t]
  obtain ⟨g1,g2⟩:=ss_get L t ht
  simp only [Slot.enc] at g1 g2
  have h21:=app117 L[t].i L[t].s
  generalize getW l (knum L[t].i L[t].s)=o at *
  by_cases ho:oneF r L[t]=true
  ·rw [if_pos ho] at hc
   rw [ho] at hone
   cases o with
   | none=>cases hone
   | some y =>
    simp only [specP,Option.isSome_some] at h92
    have hf:fitE y.k y.a L[t]=true:=hone.symm
    have hn:=fitE_n hf
    unfold fitE at hf
    simp only [Bool.and_eq_true,Bool.not_eq_true',beq_iff_eq] at hf
    obtain ⟨f1,f2,f3,f4,f5⟩:=hf
    have h93:=app100 y.k
    have k8:=ksz8 y.k
    have hne:(L[t].n != 8 * ksz y.k)=false:=by simpa using f3
    rw [f4] at h21
    have hwa:IntKind.i64.wrap (64 - acc - 8 * ksz y.k)=64 - (acc+L[t].n):=by rw [wrap_id _ (by omega) (by omega)]; omega
    by_cases hb:64 < acc+L[t].n
    ·rw [if_pos hb] at hc
     have hb':64 - acc < 8 * ksz y.k:=by omega
     rw [hc]
     refine .inr ?_
     simp [cx29,Cd.inner,Cd.body,S29,hti,ht,g1,g2,h92,h93,k8,f1,f2,hne,hb',EndsL]
    ·rw [if_neg hb] at hc
     have hb':¬ 64 - acc < 8 * ksz y.k:=by omega
     refine .inl ?_
     have hG:Goes (maskSt [0,5,60,61,62] [] [] []) (S29 m lv a L (t+1) (acc+L[t].n)) (Cd.run (app E) cx29.body.inner.body (S29 m lv a L t acc)):=by
      simp [cx29,Cd.inner,Cd.body,S29,hti,ht,g1,g2,h92,h93,h21,k8,f1,f2,f5,hne,hb',hwa,hw,hlv]
     obtain ⟨st2,q1,q2⟩:=hG.get
     exact ⟨st2,_,q1,q2,acc+L[t].n,by omega,by omega,hc,rfl⟩
  ·rw [if_neg ho] at hc
   have ho':oneF r L[t]=false:=by simpa using ho
   rw [ho'] at hone
   rw [hc]
   refine .inr ?_
   have h93n:=app100 0
   cases o with
   | none =>
    simp only [specP,Option.isSome_none] at h92
    have k0:ksz 0=0:=rfl
    simp [cx29,Cd.inner,Cd.body,S29,hti,ht,g1,g2,h92,h93n,k0,EndsL]
   | some y =>
    simp only [specP,Option.isSome_some] at h92
    have h93:=app100 y.k
    have k8:=ksz8 y.k
    have hf:fitE y.k y.a L[t]=false:=hone.symm
    unfold fitE at hf
    cases f1:(8 * ksz y.k == 0) with
    | true=>simp [cx29,Cd.inner,Cd.body,S29,hti,ht,g1,g2,h92,h93,k8,f1,EndsL]
    | false =>
     cases f2:(y.a == 4) with
     | true=>simp [cx29,Cd.inner,Cd.body,S29,hti,ht,g1,g2,h92,h93,k8,f1,f2,EndsL]
     | false =>
      cases f3:(L[t].n != 8 * ksz y.k) with
      | true=>simp [cx29,Cd.inner,Cd.body,S29,hti,ht,g1,g2,h92,h93,k8,f1,f2,f3,EndsL]
      | false =>
       have f3':L[t].n=8 * ksz y.k:=by simpa using f3
       by_cases hb':64 - acc < 8 * ksz y.k
       ·simp [cx29,Cd.inner,Cd.body,S29,hti,ht,g1,g2,h92,h93,k8,f1,f2,f3,hb',EndsL]
       ·cases f4:safeA L[t].i with
        | true =>
         rw [f4] at h21
         simp [cx29,Cd.inner,Cd.body,S29,hti,ht,g1,g2,h92,h93,h21,k8,f1,f2,f3,hb',EndsL]
        | false =>
         rw [f4] at h21
         have f5:(L[t].i == 5118)=true:=by
          rw [f1,f2,f4,f3'] at hf
          simpa using hf
         simp [cx29,Cd.inner,Cd.body,S29,hti,ht,g1,g2,h92,h93,h21,k8,f1,f2,f3,f5,hb',EndsL]
 ·rintro S ⟨acc,ha0,ha1,hc,rfl⟩
  rw [List.drop_length,fitsL] at hc
  rw [hc]
  simp [cx29,Cd.inner,Cd.body,S29,EndsL]
end
def headF (f:Nat→Int):Bool:=!(!(f 0 == 1) && !(f 0 == 2)) && (!decide (f 5 < 1) && (!decide (8 < f 5) && (!decide (f 3 < 257) && (!decide (383 < f 3) && (!(!((f 3).tmod 2 == 1)) && !(!(IntKind.i64.wrap (f 4 - 1) == f 3)))))))
def fitsC (r:RD) (f:Nat→Int):Bool:=if f 0=0 then true else if headF f=true then fitsL r 0 (slsF f (f 5).toNat) else false
theorem slsF_len (f:Nat→Int) (n:Nat):(slsF f n).length=n:=by simp [slsF]
section
variable {m:Mem} {lv a a' ver:Nat} {l:List Row} {c:Int} (hd:DA m lv a a' ver l c) {r:RD} (hs:Sim l c r) (f:Nat→Int)
include hd hs in
set_option maxHeartbeats 2000000 in
theorem appx29:app E false (.fn 69 []) [.ptr lv a [] 0,.agg (CF f 30)] m=some (.bool (fitsC r f),emptyBag,m):=by
 have hlt:=hd.lv_lt
 have hlv:lv≠m.length:=by omega
 have k0:=CF_get f 30 (k:=0) (by omega)
 have k3:=CF_get f 30 (k:=3) (by omega)
 have k4:=CF_get f 30 (k:=4) (by omega)
 have k5:=CF_get f 30 (k:=5) (by omega)
 by_cases hd0:f 0=0
 ·rw [fitsC,if_pos hd0,app_fn E rfl hx29 rfl]
  simp [cx29,k0,hd0]
 have hd0':(f 0 == 0)=false:=by simpa using hd0
 rw [fitsC,if_neg hd0]
 by_cases hh:headF f=true
 case neg =>
  rw [if_neg hh,app_fn E rfl hx29 rfl]
  unfold headF at hh
  cases a1:(!(f 0 == 1) && !(f 0 == 2)) with
  | true =>
   simp only [Bool.and_eq_true,Bool.not_eq_true',beq_eq_false_iff_ne] at a1
   have a1':(f 0 != 1)=true:=by simpa using a1.1
   have a2':(f 0 != 2)=true:=by simpa using a1.2
   simp [cx29,k0,hd0',a1',a2']
  | false =>
   have a1':(f 0 != 1)=false∨((f 0 != 1)=true∧(f 0 != 2)=false):=by
    rw [Bool.and_eq_false_iff] at a1
    simp only [Bool.not_eq_false',beq_iff_eq] at a1
    rcases a1 with h | h
    ·exact .inl (by simpa using h)
    ·by_cases h1:f 0=1
     ·exact .inl (by simpa using h1)
     ·exact .inr ⟨by simpa using h1,by simpa using h⟩
   rw [a1] at hh
   by_cases b1:f 5 < 1
   ·rcases a1' with a1' | ⟨a1',a2'⟩
    ·simp [cx29,k0,k5,hd0',a1',b1]
    ·simp [cx29,k0,k5,hd0',a1',a2',b1]
   ·by_cases b2:8 < f 5
    ·rcases a1' with a1' | ⟨a1',a2'⟩
     ·simp [cx29,k0,k5,hd0',a1',b1,b2]
     ·simp [cx29,k0,k5,hd0',a1',a2',b1,b2]
    ·by_cases b3:f 3 < 257
     ·rcases a1' with a1' | ⟨a1',a2'⟩
      ·simp [cx29,k0,k3,k5,hd0',a1',b1,b2,b3]
      ·simp [cx29,k0,k3,k5,hd0',a1',a2',b1,b2,b3]
     ·by_cases b4:383 < f 3
      ·rcases a1' with a1' | ⟨a1',a2'⟩
       ·simp [cx29,k0,k3,k5,hd0',a1',b1,b2,b3,b4]
       ·simp [cx29,k0,k3,k5,hd0',a1',a2',b1,b2,b3,b4]
      ·cases b5:((f 3).tmod 2 == 1) with
       | false =>
        have b5':((f 3).tmod 2 != 1)=true:=by simpa using b5
        rcases a1' with a1' | ⟨a1',a2'⟩
        ·simp [cx29,k0,k3,k5,hd0',a1',b1,b2,b3,b4,b5']
        ·simp [cx29,k0,k3,k5,hd0',a1',a2',b1,b2,b3,b4,b5']
       | true =>
        have b5':((f 3).tmod 2 != 1)=false:=by simpa using b5
        cases b6:(IntKind.i64.wrap (f 4 - 1) == f 3) with
        | true=>exact absurd (by simp [b1,b2,b3,b4,b5,b6]) hh
        | false =>
         have b6':(IntKind.i64.wrap (f 4 - 1) != f 3)=true:=by simpa using b6
         rcases a1' with a1' | ⟨a1',a2'⟩
         ·simp [cx29,k0,k3,k4,k5,hd0',a1',b1,b2,b3,b4,b5',b6']
         ·simp [cx29,k0,k3,k4,k5,hd0',a1',a2',b1,b2,b3,b4,b5',b6']
 rw [if_pos hh]
 unfold headF at hh
 simp only [Bool.and_eq_true,Bool.not_eq_true',Bool.not_not,decide_eq_false_iff_not] at hh
 obtain ⟨a1,b1,b2,b3,b4,b5,b6⟩:=hh
 have a1':(f 0 != 1)=false∨((f 0 != 1)=true∧(f 0 != 2)=false):=by
  rw [Bool.and_eq_false_iff] at a1
  simp only [Bool.not_eq_false',beq_iff_eq] at a1
  rcases a1 with h | h
  ·exact .inl (by simpa using h)
  ·by_cases h1:f 0=1
   ·exact .inl (by simpa using h1)
   ·exact .inr ⟨by simpa using h1,by simpa using h⟩
 have b5':((f 3).tmod 2 != 1)=false:=by simpa using b5
 have b6':(IntKind.i64.wrap (f 4 - 1) != f 3)=false:=by simpa using b6
 have hch:=CF_chunks f (f 5).toNat (by omega)
 have hsl:=slsF_len f (f 5).toNat
 have hS0:maskSt [0,5,60,61,62] [] [] [] (S29 m lv a (slsF f (f 5).toNat) 0 0)=some (S29 m lv a (slsF f (f 5).toNat) 0 0):=by
  simp [S29,hlv]
 obtain ⟨e,⟨f',tops',own',dead',m'⟩,q1,q2,q3⟩:=loop29 hd hs (slsF f (f 5).toNat) (by omega) hS0
 have hl:=loop_at hS0 q1
 have hlen2:(Ss (slsF f (f 5).toNat)).length=(f 5).toNat:=by rw [encs_len,hsl]
 have hb1:(1:Int)≤f 5:=by omega
 have hb8:f 5≤8:=by omega
 have hb0:(0:Int)≤f 5:=by omega
 have hn:((f 5).toNat:Int)=f 5:=by omega
 have hmx:max (f 5) 0=f 5:=by omega
 simp only [cx29,Cd.inner,Cd.body,S29,hsl,hn,Int.sub_zero,Sl] at hl
 have hok:=fun a b c=>ss_okns (slsF f (f 5).toNat) a b c
 rcases q3 with ⟨rfl,hz,hm⟩ | ⟨rfl,hz,hg,hm⟩
 ·simp only at hm
  subst hm
  rw [hz,app_fn E rfl hx29 rfl]
  generalize Ss (slsF f (f 5).toNat)=SL at *
  rcases a1' with a1' | ⟨a1',a2'⟩
  ·simp [cx29,k0,k3,k4,k5,hd0',a1',b1,b2,b3,b4,b5',b6',hch,hlen2,hb0,hb8,hn,hmx,hok,hl,hlv]
  ·simp [cx29,k0,k3,k4,k5,hd0',a1',a2',b1,b2,b3,b4,b5',b6',hch,hlen2,hb0,hb8,hn,hmx,hok,hl,hlv]
 ·simp only at hm hg
  subst hm
  rw [hz,app_fn E rfl hx29 rfl]
  generalize Ss (slsF f (f 5).toNat)=SL at *
  rcases a1' with a1' | ⟨a1',a2'⟩
  ·simp [cx29,k0,k3,k4,k5,hd0',a1',b1,b2,b3,b4,b5',b6',hch,hlen2,hb0,hb8,hn,hmx,hok,hl,hg,hlv]
  ·simp [cx29,k0,k3,k4,k5,hd0',a1',a2',b1,b2,b3,b4,b5',b6',hch,hlen2,hb0,hb8,hn,hmx,hok,hl,hg,hlv]
end
def sumN:List Slot→Int
 | []=>0
 | x::L=>x.n+sumN L
theorem sumN_snoc (L:List Slot) (x:Slot):sumN (L++[x])=sumN L+x.n:=by
 induction L with
 | nil=>simp [sumN]
 | cons y L ih=>simp only [List.cons_append,sumN,ih]; omega
theorem sumN_pos {r:RD} {L:List Slot} (h:∀ x∈L,oneF r x=true):0≤sumN L:=by
 induction L with
 | nil=>simp [sumN]
 | cons y L ih =>
  have:=ih fun x hx=>h x (by simp [hx])
  have:=(oneF_n (h y (by simp))).1
  simp only [sumN]; omega
theorem sumN_le {r:RD} {L:List Slot} (h:∀ x∈L,oneF r x=true):sumN L≤32 * (L.length:Int):=by
 induction L with
 | nil=>simp [sumN]
 | cons y L ih =>
  have:=ih fun x hx=>h x (by simp [hx])
  have:=(oneF_n (h y (by simp))).2
  simp only [sumN,List.length_cons]; omega
theorem fitsL_all {r:RD} {L:List Slot} (h:∀ x∈L,oneF r x=true) (acc:Int) (ha:acc≤64):fitsL r acc L=decide (acc+sumN L≤64):=by
 induction L generalizing acc with
 | nil=>simp [fitsL,sumN,ha]
 | cons y L ih =>
  have hp:=sumN_pos fun x hx=>h x (List.mem_cons_of_mem y hx)
  rw [fitsL,if_pos (h y (by simp)),sumN]
  by_cases hb:64 < acc+y.n
  ·rw [if_pos hb]
   symm
   rw [decide_eq_false_iff_not]
   omega
  ·rw [if_neg hb,ih (fun x hx=>h x (by simp [hx])) _ (by omega),show acc+y.n+sumN L=acc+(y.n+sumN L) by omega]
theorem fitsL_bad {r:RD} {L:List Slot} {x:Slot} (hx:x∈L) (h:oneF r x=false) (acc:Int):fitsL r acc L=false:=by
 induction L generalizing acc with
 | nil=>cases hx
 | cons y L ih =>
  rw [fitsL]
  split
  ·split
   ·rfl
   ·next h1 _ =>
    rcases List.mem_cons.1 hx with rfl | hx
    ·rw [h] at h1; cases h1
    ·exact ih hx _
  ·rfl
theorem slsF_succ (f:Nat→Int) (t:Nat):slsF f (t+1)=slsF f t++[slF f t]:=by
 unfold slsF
 rw [List.range_succ,List.map_append]; rfl
theorem slsF_mem {f:Nat→Int} {n:Nat} {x:Slot} (h:x∈slsF f n):∃ j,j < n∧x=slF f j:=by
 unfold slsF at h
 simp only [List.mem_map,List.mem_range] at h
 obtain ⟨j,hj,rfl⟩:=h
 exact ⟨j,hj,rfl⟩
theorem slsF_in {f:Nat→Int} {n j:Nat} (h:j < n):slF f j∈slsF f n:=by
 unfold slsF
 exact List.mem_map.2 ⟨j,List.mem_range.2 h,rfl⟩
section
variable {r:RD} (hr:r.ok) (f:Nat→Int)
def S30 (r:RD) (f:Nat→Int) (t:Nat) (acc:Int):St:=⟨[(2,.elp r.pv 0),(3,.elp (.agg (CF f 30)) 0),(5,.int .i64 acc),(6,.int .i64 t)],[],[],[],[]⟩
include hr in
set_option maxHeartbeats 2000000 in
theorem loop30 (hb1:1≤f 5) (hb8:f 5≤8) {st:St} (h0:maskSt [2,3,5,6] [] [] [] st=some (S30 r f 0 0)) :
  ∃ e st',loopW (maskSt [2,3,5,6] [] [] []) (Cd.run (app E) cx30.body.inner.body) st=some (e,st')∧e≠.normal∧st'.m=[] ∧
   ((e=.exit 0∧∃ acc,get st'.f 5=some (.int .i64 acc)∧fitsL r 0 (slsF f (f 5).toNat)=decide (acc≤64))∨(e=.ret∧fitsL r 0 (slsF f (f 5).toNat)=false∧get st'.f 4=some (.bool false))):=by
 have k5:=CF_get f 30 (k:=5) (by omega)
 have g4:=fun a=>es_deps r.l a
 have g5:=fun a b c=>es_okns r.l a b c
 have hrn:=fun a b ρ=>es_rens r.l a b ρ
 refine loop_inv (fun t S=>(∀ x∈slsF f t,oneF r x=true)∧S=S30 r f t (sumN (slsF f t))) (f 5).toNat _ h0 ⟨fun x hx=>by simp [slsF] at hx,rfl⟩ ?_ ?_
 ·rintro t S ht ⟨hall,rfl⟩
  have hti:(t:Int) < f 5:=by omega
  have ht8:t < 8:=by omega
  have hti8:(t:Int) < 8:=by omega
  have hw:=wrap_succ t (by omega)
  have hT2:List.take 2 (List.drop (6+t * 3) (CF f 30))=[.int .i64 (slF f t).i,.int .i64 (slF f t).s]:=by
   rw [CF_two f 30 _ (by omega),show 6+t * 3=t * 3+6 by omega]; rfl
  have hG2:(CF f 30)[6+t * 3+2]?=some (.int .i64 (slF f t).n):=by
   rw [CF_get f 30 (by omega),show 6+t * 3=t * 3+6 by omega]; rfl
  have hG0:(CF f 30)[6+t * 3]?=some (.int .i64 (slF f t).i):=by
   rw [CF_get f 30 (by omega),show 6+t * 3=t * 3+6 by omega]; rfl
  have hbT:6+t * 3+2≤30:=by omega
  have hat:=app33 r.nl r.l r.c (slF f t).i (slF f t).s hr.1
  have h22:=app118 (slF f t).i (slF f t).s
  have hin:slF f t∈slsF f (f 5).toNat:=slsF_in ht
  have hsum:=sumN_snoc (slsF f t) (slF f t)
  rw [← slsF_succ] at hsum
  have hlo:=sumN_pos hall
  have hhi:=sumN_le hall
  rw [slsF_len] at hhi
  have hone:∀ k,oneF r (slF f t)=k→oneF r (slF f t)=k:=fun _ h=>h
  have hbad:oneF r (slF f t)=false→fitsL r 0 (slsF f (f 5).toNat)=false:=fun h=>fitsL_bad hin h 0
  have hgo:oneF r (slF f t)=true→∀ x∈slsF f (t+1),oneF r x=true:=by
   intro h x hx
   rw [slsF_succ] at hx
   rcases List.mem_append.1 hx with hx | hx
   ·exact hall x hx
   ·rw [List.mem_singleton.1 hx]; exact h
  have hun:oneF r (slF f t)=match findIx r.l (slF f t).i (slF f t).s with
   | none=>false
   | some j=>match r.l[j]? with
    | none=>false
    | some y=>fitE y.k y.a (slF f t):=rfl
  generalize slF f t=x at *
  generalize sumN (slsF f (t+1))=acc1 at *
  generalize sumN (slsF f t)=acc at *
  cases hf:findIx r.l x.i x.s with
  | none =>
   rw [atA_none hf] at hat
   rw [hf] at hun
   rw [hbad hun]
   refine .inr ?_
   simp [cx30,Cd.inner,Cd.body,S30,hti,hti8,ht8,k5,hT2,hbT,hat,EndsL]
  | some j =>
   rw [atA_some hf] at hat
   rw [hf] at hun
   obtain ⟨hn,_⟩:=findIx_some hf
   have hn':(j:Int) < r.l.length:=by omega
   have hn2:¬ (j:Int) < 0:=by omega
   simp only [List.getElem?_eq_getElem hn] at hun
   have h94:=app74 r.l[j].k
   have k8:=ksz8 r.l[j].k
   have hks:=ksz_le r.l[j].k
   unfold fitE at hun
   cases f1:(8 * ksz r.l[j].k == 0) with
   | true =>
    have f1':(ksz r.l[j].k == 0)=true:=by
     simp only [beq_iff_eq] at f1 ⊢; omega
    rw [f1] at hun
    rw [hbad hun]
    refine .inr ?_
    simp [cx30,Cd.inner,Cd.body,S30,hti,hti8,ht8,k5,hT2,hbT,hat,hn,hn',hn2,es_getE,Ent.enc,Ent.cs,h94,f1',EndsL]
   | false =>
    have f1':(ksz r.l[j].k == 0)=false:=by
     simp only [beq_eq_false_iff_ne] at f1 ⊢; omega
    rw [f1] at hun
    cases f2:(r.l[j].a == 4) with
    | true =>
     rw [f2] at hun
     rw [hbad hun]
     refine .inr ?_
     simp [cx30,Cd.inner,Cd.body,S30,hti,hti8,ht8,k5,hT2,hbT,hat,hn,hn',hn2,es_getE,Ent.enc,Ent.cs,h94,f1',f2,EndsL]
    | false =>
     rw [f2] at hun
     cases f3:(x.n == 8 * ksz r.l[j].k) with
     | false =>
      have f3':(x.n != 8 * ksz r.l[j].k)=true:=by simpa using f3
      rw [f3] at hun
      rw [hbad hun]
      refine .inr ?_
      simp [cx30,Cd.inner,Cd.body,S30,hti,hti8,ht8,k5,hT2,hG2,hbT,hat,hn,hn',hn2,es_getE,Ent.enc,Ent.cs,h94,k8,f1',f2,f3',EndsL]
     | true =>
      have f3':(x.n != 8 * ksz r.l[j].k)=false:=by simpa using f3
      rw [f3] at hun
      cases f4:safeA x.i with
      | true =>
       rw [f4] at hun h22
       rw [hbad hun]
       refine .inr ?_
       simp [cx30,Cd.inner,Cd.body,S30,hti,hti8,ht8,k5,hT2,hG2,hbT,hat,hn,hn',hn2,es_getE,Ent.enc,Ent.cs,h94,h22,k8,f1',f2,f3',EndsL]
      | false =>
       rw [f4] at hun h22
       cases f5:(x.i == 5118) with
       | true =>
        rw [f5] at hun
        rw [hbad hun]
        refine .inr ?_
        simp [cx30,Cd.inner,Cd.body,S30,hti,hti8,ht8,k5,hT2,hG2,hG0,hbT,hat,hn,hn',hn2,es_getE,Ent.enc,Ent.cs,h94,h22,k8,f1',f2,f3',f5,EndsL]
       | false =>
        rw [f5] at hun
        have h1:oneF r x=true:=hun
        have hxn:x.n=8 * ksz r.l[j].k:=by simpa using f3
        have hwa:IntKind.i64.wrap (acc+8 * ksz r.l[j].k)=acc1:=by rw [wrap_id _ (by omega) (by omega)]; omega
        have hG:Goes (maskSt [2,3,5,6] [] [] []) (S30 r f (t+1) acc1) (Cd.run (app E) cx30.body.inner.body (S30 r f t acc)):=by
         simp [cx30,Cd.inner,Cd.body,S30,hti,hti8,ht8,k5,hT2,hG2,hG0,hbT,hat,hn,hn',hn2,es_getE,Ent.enc,Ent.cs,h94,h22,k8,f1',f2,f3',f5,hwa,hw,g4,g5,hrn]
        obtain ⟨st2,q1,q2⟩:=hG.get
        exact .inl ⟨st2,_,q1,q2,hgo h1,rfl⟩
 ·rintro S ⟨hall,rfl⟩
  have hn:((f 5).toNat:Int)=f 5:=by omega
  have he:=fitsL_all hall 0 (by omega)
  rw [Int.zero_add] at he
  rw [he]
  generalize sumN (slsF f (f 5).toNat)=acc at *
  simp [cx30,Cd.inner,Cd.body,S30,EndsL,hn,k5]
include hr in
set_option maxHeartbeats 2000000 in
theorem appx30:app E false (.fn 35 []) [r.pv,.agg (CF f 30)] []=some (.bool (fitsC r f),emptyBag,[]):=by
 have k0:=CF_get f 30 (k:=0) (by omega)
 have k3:=CF_get f 30 (k:=3) (by omega)
 have k4:=CF_get f 30 (k:=4) (by omega)
 have k5:=CF_get f 30 (k:=5) (by omega)
 have g4:=fun a=>es_deps r.l a
 have g5:=fun a b c=>es_okns r.l a b c
 have hrn:=fun a b ρ=>es_rens r.l a b ρ
 by_cases hd0:f 0=0
 ·rw [fitsC,if_pos hd0,app_fn E rfl hx30 rfl]
  simp [cx30,k0,hd0]
 have hd0':(f 0 == 0)=false:=by simpa using hd0
 rw [fitsC,if_neg hd0]
 by_cases hh:headF f=true
 case neg =>
  rw [if_neg hh,app_fn E rfl hx30 rfl]
  unfold headF at hh
  by_cases a1:f 0 < 0
  ·simp [cx30,k0,hd0',a1]
  by_cases a2:2 < f 0
  ·simp [cx30,k0,hd0',a1,a2]
  have a3:(!(f 0 == 1) && !(f 0 == 2))=false:=by
   rcases (by omega:f 0=1∨f 0=2) with h | h <;> rw [h] <;> rfl
  rw [a3] at hh
  by_cases b1:f 5 < 1
  ·simp [cx30,k0,k5,hd0',a1,a2,b1]
  by_cases b2:8 < f 5
  ·simp [cx30,k0,k5,hd0',a1,a2,b1,b2]
  by_cases b3:f 3 < 257
  ·simp [cx30,k0,k3,k5,hd0',a1,a2,b1,b2,b3]
  by_cases b4:383 < f 3
  ·simp [cx30,k0,k3,k5,hd0',a1,a2,b1,b2,b3,b4]
  cases b5:((f 3).tmod 2 == 1) with
  | false =>
   have b5':((f 3).tmod 2 != 1)=true:=by simpa using b5
   simp [cx30,k0,k3,k5,hd0',a1,a2,b1,b2,b3,b4,b5']
  | true =>
   have b5':((f 3).tmod 2 != 1)=false:=by simpa using b5
   cases b6:(IntKind.i64.wrap (f 4 - 1) == f 3) with
   | true=>exact absurd (by simp [b1,b2,b3,b4,b5,b6]) hh
   | false =>
    have b6':(IntKind.i64.wrap (f 4 - 1) != f 3)=true:=by simpa using b6
    simp [cx30,k0,k3,k4,k5,hd0',a1,a2,b1,b2,b3,b4,b5',b6']
 rw [if_pos hh]
 unfold headF at hh
 simp only [Bool.and_eq_true,Bool.not_eq_true',Bool.not_not,decide_eq_false_iff_not] at hh
 obtain ⟨a1,b1,b2,b3,b4,b5,b6⟩:=hh
 have a12:¬ f 0 < 0∧¬ 2 < f 0:=by
  rw [Bool.and_eq_false_iff] at a1
  simp only [Bool.not_eq_false',beq_iff_eq] at a1
  omega
 obtain ⟨a1',a2'⟩:=a12
 have b5':((f 3).tmod 2 != 1)=false:=by simpa using b5
 have b6':(IntKind.i64.wrap (f 4 - 1) != f 3)=false:=by simpa using b6
 have hS0:maskSt [2,3,5,6] [] [] [] (S30 r f 0 0)=some (S30 r f 0 0):=by
  simp [S30,g4,g5,hrn]
 obtain ⟨e,⟨f',tops',own',dead',m'⟩,q1,q2,gm,q3⟩:=loop30 hr f (by omega) (by omega) hS0
 simp only at gm
 subst gm
 have hl:=loop_at hS0 q1
 simp only [cx30,Cd.inner,Cd.body,S30] at hl
 rw [app_fn E rfl hx30 rfl]
 rcases q3 with ⟨rfl,acc,gg,hz⟩ | ⟨rfl,hz,gg⟩
 ·simp only at gg
  rw [hz]
  simp only [RD.pv,El,rd] at *
  generalize Es r.l=L0 at *
  simp [cx30,k0,k3,k4,k5,hd0',a1',a2',b1,b2,b3,b4,b5',b6',hl,gg,g4,g5,hrn]
 ·simp only at gg
  rw [hz]
  simp only [RD.pv,El,rd] at *
  generalize Es r.l=L0 at *
  simp [cx30,k0,k3,k4,k5,hd0',a1',a2',b1,b2,b3,b4,b5',b6',hl,gg,g4,g5,hrn]
end
end Go.Proofs.YtmffcpiffkclgaaGreat.ZJM.DC
