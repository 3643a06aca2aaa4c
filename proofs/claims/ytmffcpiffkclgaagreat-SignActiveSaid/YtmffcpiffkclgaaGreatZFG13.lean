/- The document's bytes of a table. -/
import Derived.Test.YtmffcpiffkclgaaGreatZFG1
import Derived.Test.YtmffcpiffkclgaaGreatZFG4
import Derived.Test.YtmffcpiffkclgaaGreatZFX1
set_option linter.unusedSimpArgs false
set_option linter.unusedVariables false
set_option maxRecDepth 10000
namespace Go.Proofs.YtmffcpiffkclgaaGreat.ZJM.DC
open Go.Proofs.YtmffcpiffkclgaaGreat.ZJM Go.RowKit
def S123 (n:Int) (sz:Nat) (i:Nat):St :=
 ⟨[(0,.int .i64 (n / pw i)),(1,.int .i64 sz),(6,.lst (some 8) false 1 (Bs (kb i n))),(7,.int .i64 i)],[(8,i,5)],[],[],[]⟩
theorem appx123 (n:Int) (hn:n < 9223372036854775808) (sz:Nat) (hz:sz≤4):app E false (.fn 27 []) [.int .i64 n,.int .i64 sz] []=some (.tup [Bl false (if n < 0 then [] else kb sz n),.bool (decide (0≤n) && decide (n < pw sz))],emptyBag,[]):=by
 by_cases hneg:n < 0
 ·have h1:¬ 0≤n:=by omega
  rw [if_pos hneg,app_fn E rfl hx123 rfl]
  simp [cx123,hneg,h1]
 ·rw [if_neg hneg]
  have hn0:0≤n:=by omega
  have hS0:maskSt [0,1,6,7] [] [8] [] (S123 n sz 0)=some (S123 n sz 0):=by simp [S123,kb]
  have hl:=loop_eq (mask:=maskSt [0,1,6,7] [] [8] []) (body:=Cd.run (app E) cx123.body.inner.body) (S123 n sz) sz (fun i hi=>by
   have hi':(i:Int) < sz:=by omega
   have hw:=wrap_succ i (by omega)
   have h0:0≤n / pw i∧n / pw i≤n:=⟨Int.ediv_nonneg hn0 (Int.le_of_lt (pw_pos i)),Int.ediv_le_self _ hn0⟩
   have h1:(n / pw i).tmod 256=n / pw i % 256:=Int.tmod_eq_emod_of_nonneg h0.1
   have h2:(n / pw i).tdiv 256=n / pw (i+1):=by
    rw [Int.tdiv_eq_ediv_of_nonneg h0.1,pw_succ,Int.ediv_ediv_of_nonneg (Int.le_of_lt (pw_pos i))]
   have h3:0≤n / pw (i+1)∧n / pw (i+1)≤n:=⟨Int.ediv_nonneg hn0 (Int.le_of_lt (pw_pos _)),Int.ediv_le_self _ hn0⟩
   have h4:IntKind.i64.wrap (n / pw (i+1))=n / pw (i+1):=wrap_id _ (by omega) (by omega)
   have h5:n / pw i % 256 % 256=n / pw i % 256:=by omega
   have hb:i+1≤maxBytes:=by unfold maxBytes; omega
   unfold S123
   simp [cx123,Cd.inner,Cd.body,hi',hi,hw,h1,h2,h4,h5,wrap8,kb_succ,kb_len,hb,bs_okns,okns_append]) (by simp [cx123,Cd.inner,Cd.body,S123]) hS0
  have key:maskSt [0,1,6,7] [] [8] [] ⟨[(7,.int .i64 0),(10,.bool false),(9,.int .i64 n),(6,.lst (some 8) false 1 []),(8,.lst (some 8) false 1 []),(5,.bool false),(4,.lst none true 1 []),(0,.int .i64 n),(1,.int .i64 sz)],[(8,0,5)],[],[],[]⟩=some (S123 n sz 0):=by simp [S123,kb,pw]
  have hl2:=loop_at hS0 hl _ key
  have hq:(n / pw sz == 0)=decide (n < pw sz):=by
   have hp:=pw_pos sz
   by_cases h:n < pw sz
   ·rw [Int.ediv_eq_zero_of_lt hn0 h]; simp [h]
   ·have:1≤n / pw sz:=Int.le_ediv_of_mul_le hp (by omega)
    have h3:¬ n / pw sz=0:=by omega
    simp [h,h3]
  have hkl:=kb_len sz n
  have hok:=fun a b c=>bs_okns (kb sz n) a b c
  simp only [cx123,Cd.inner,Cd.body,S123] at hl2
  rw [app_fn E rfl hx123 rfl]
  generalize kb sz n=B at *
  simp [cx123,hl2,hneg,hn0,hq,hok,hkl]
def pairs (f:Nat→Int) (n:Nat):List (Int × Int):=[(2,f 0),(3,f 1),(3,f 2),(4,f 3),(4,f 4),(2,f 5)]++(slsF f n).map fun x=>(4,(wordA x.i x.s x.n).1)
def kbP (p:Int × Int):List Int:=kb (ksz p.1).toNat p.2
def fitP (p:Int × Int):Bool:=wfits p.1 p.2
theorem pairs_len (f:Nat→Int) (n:Nat):(pairs f n).length=n+6:=by
 simp [pairs,slsF_len]
theorem pairs_succ (f:Nat→Int) (t:Nat):pairs f (t+1)=pairs f t++[(4,(wordF f t).1)]:=by
 unfold pairs
 rw [slsF_succ,List.map_append,List.append_assoc]; rfl
theorem pairs_kind {f:Nat→Int} {n:Nat} {p:Int × Int} (h:p∈pairs f n):p.1=2∨p.1=3∨p.1=4:=by
 unfold pairs at h
 rcases List.mem_append.1 h with h | h
 ·simp only [List.mem_cons,List.not_mem_nil,or_false] at h
  rcases h with rfl | rfl | rfl | rfl | rfl | rfl <;> simp
 ·simp only [List.mem_map] at h
  obtain ⟨x,_,rfl⟩:=h
  simp
theorem wfits_pw {k n:Int} (hk:k=2∨k=3∨k=4):(decide (0≤n) && decide (n < pw (ksz k).toNat))=wfits k n:=by
 have e1:pw 1=256:=rfl
 have e2:pw 2=65536:=rfl
 have e4:pw 4=4294967296:=rfl
 rcases hk with rfl | rfl | rfl
 ·have h:(decide (n < pw (ksz 2).toNat))=decide (n≤255):=by show decide (n < pw 1)=_; rw [e1]; exact decide_eq_decide.2 (by omega)
  rw [h]; simp [wfits,ksz,klo,khi]
 ·have h:(decide (n < pw (ksz 3).toNat))=decide (n≤65535):=by show decide (n < pw 2)=_; rw [e2]; exact decide_eq_decide.2 (by omega)
  rw [h]; simp [wfits,ksz,klo,khi]
 ·have h:(decide (n < pw (ksz 4).toNat))=decide (n≤4294967295):=by show decide (n < pw 4)=_; rw [e4]; exact decide_eq_decide.2 (by omega)
  rw [h]; simp [wfits,ksz,klo,khi]
theorem fold_fit (L:List (Int × Int)) (b:List Int):(L.foldl (fun w p=>putS w p.1 p.2) (0,b))=(0,b++L.flatMap kbP)∧L.all fitP=true∨(L.foldl (fun w p=>putS w p.1 p.2) (0,b)).1≠0∧L.all fitP=false:=by
 have stay:∀ (L:List (Int × Int)) (w:Int × List Int),w.1≠0→(L.foldl (fun w p=>putS w p.1 p.2) w).1≠0:=by
  intro L
  induction L with
  | nil=>intro w h; exact h
  | cons x L ih =>
   intro w h
   refine ih _ ?_
   simp only [putS,wE]
   rw [if_neg h]; exact h
 induction L generalizing b with
 | nil=>left; simp
 | cons x L ih =>
  simp only [List.foldl_cons,List.all_cons]
  cases hf:wfits x.1 x.2 with
  | true =>
   have e:putS (0,b) x.1 x.2=(0,b++kbP x):=by simp [putS,wE,wB,hf,kbP]
   rw [e]
   have hx:fitP x=true:=hf
   rcases ih (b++kbP x) with ⟨h1,h2⟩ | ⟨h1,h2⟩
   ·left; rw [h1,hx,h2]; simp [List.flatMap_cons]
   ·right; exact ⟨h1,by rw [hx,h2]; rfl⟩
  | false =>
   right
   have hx:fitP x=false:=hf
   refine ⟨stay _ _ ?_,by rw [hx]; rfl⟩
   simp [putS,wE,hf]
theorem tabW_pairs (f:Nat→Int):tabW f=(pairs f (f 5).toNat).foldl (fun w p=>putS w p.1 p.2) (0,[]):=by
 unfold tabW pairs slW hdW
 rw [List.foldl_append,List.foldl_map]; rfl
theorem tabB_pairs (f:Nat→Int):tabB f=if 0≤f 5∧f 5≤8∧wOk (slsF f (f 5).toNat)=true∧(pairs f (f 5).toNat).all fitP=true then some ((pairs f (f 5).toNat).flatMap kbP) else none:=by
 unfold tabB
 rw [tabW_pairs]
 by_cases h1:0≤f 5∧f 5≤8
 ·rw [if_pos h1]
  by_cases h2:wOk (slsF f (f 5).toNat)=true
  ·rw [if_pos h2]
   rcases fold_fit (pairs f (f 5).toNat) [] with ⟨h3,h4⟩ | ⟨h3,h4⟩
   ·rw [h3,if_pos rfl,if_pos ⟨h1.1,h1.2,h2,h4⟩]; simp
   ·rw [if_neg h3,if_neg (fun h=>by rw [h.2.2.2] at h4; cases h4)]
  ·rw [if_neg h2,if_neg (fun h=>h2 h.2.2.1)]
 ·rw [if_neg h1,if_neg (fun h=>h1 ⟨h.1,h.2.1⟩)]
abbrev Nu (L:List (Int × Int)):List PV:=Ks (L.map Prod.snd)
abbrev Sz (L:List (Int × Int)):List PV:=Ks (L.map fun p=>ksz p.1)
section
variable (f:Nat→Int)
def S57a (f:Nat→Int) (t:Nat):St:=⟨[(1,.ptr 0 1 [] 0),(4,.lst (some 25) false 1 (Nu (pairs f t))),(5,.lst (some 26) false 1 (Sz (pairs f t))),(6,.int .i64 t)],[(25,t+6,3),(26,t+6,3)],[(1,CF f 30)],[],[]⟩
theorem loop57a (h8:f 5≤8) {st:St} (h0:maskSt [1,4,5,6] [1] [25,26] [] st=some (S57a f 0)) :
  ∃ e st',loopW (maskSt [1,4,5,6] [1] [25,26] []) (Cd.run (app E) cx57.body.inner.body) st=some (e,st')∧e≠.normal∧st'.m=[] ∧
   ((e=.exit 0∧wOk (slsF f (f 5).toNat)=true∧st'.own=[(1,CF f 30)]∧st'.dead=[]∧st'.tops=[(25,(f 5).toNat+6,3),(26,(f 5).toNat+6,3)]∧get st'.f 4=some (.lst (some 25) false 1 (Nu (pairs f (f 5).toNat)))∧get st'.f 5=some (.lst (some 26) false 1 (Sz (pairs f (f 5).toNat)))) ∨
    (e=.ret∧wOk (slsF f (f 5).toNat)=false∧get st'.f 2=some (.lst none true 1 [])∧get st'.f 3=some (.int .i64 2))):=by
 refine loop_inv (fun t S=>wOk (slsF f t)=true∧S=S57a f t) (f 5).toNat _ h0 ⟨rfl,rfl⟩ ?_ ?_
 ·rintro t S ht ⟨hall,rfl⟩
  have k5:=CF_get f 30 (k:=5) (by omega)
  have hti:(t:Int) < f 5:=by omega
  have ht8:t < 8:=by omega
  have htI:(t:Int) < 8:=by omega
  have ht7:t≤7:=by omega
  have hw:=wrap_succ t (by omega)
  have hsl:=CF_slot f t ht8
  have hb1:6+t * 3+3≤30:=by omega
  have h19:app E false (.fn 26 []) [.agg [.int .i64 (slF f t).i,.int .i64 (slF f t).s,.int .i64 (slF f t).n]] []=some (.tup [.int .i64 (wordF f t).1,.int .i64 (wordF f t).2],emptyBag,[]):=app19 _ _ _
  have hp:=pairs_succ f t
  have hpl:=pairs_len f t
  have hn1:Nu (pairs f (t+1))=Nu (pairs f t)++[.int .i64 (wordF f t).1]:=by rw [hp]; simp [encs]
  have hs1:Sz (pairs f (t+1))=Sz (pairs f t)++[.int .i64 4]:=by rw [hp]; simp [encs,ksz]
  have o1:=fun a b c=>ks_okns ((pairs f t).map Prod.snd) a b c
  have o2:=fun a b c=>ks_okns ((pairs f t).map fun p=>ksz p.1) a b c
  have o3:∀ a b c,PV.okns a b c (Nu (pairs f (t+1)))=true:=fun a b c=>ks_okns ((pairs f (t+1)).map Prod.snd) a b c
  have o4:∀ a b c,PV.okns a b c (Sz (pairs f (t+1)))=true:=fun a b c=>ks_okns ((pairs f (t+1)).map fun p=>ksz p.1) a b c
  have l1:(Nu (pairs f t)).length=t+6:=by rw [encs_len,List.length_map,hpl]
  have l2:(Sz (pairs f t)).length=t+6:=by rw [encs_len,List.length_map,hpl]
  have hx:(t+6+1) * 8≤maxBytes:=by unfold maxBytes; omega
  have e7:t+1+6=t+6+1:=by omega
  have hbad:(wordF f t).2≠0→wOk (slsF f (f 5).toNat)=false:=by
   intro h
   unfold wOk
   rw [List.all_eq_false]
   unfold wordF at h
   exact ⟨slF f t,slsF_in ht,by simpa using h⟩
  have hgo:(wordF f t).2=0→wOk (slsF f (t+1))=true:=by
   intro h
   unfold wOk at hall ⊢
   rw [slsF_succ,List.all_append,hall]
   unfold wordF at h
   simpa using h
  rcases word_err f t with hz | hz
  ·rw [hz] at h19
   rw [hn1] at o3
   rw [hs1] at o4
   have hG:Goes (maskSt [1,4,5,6] [1] [25,26] []) (S57a f (t+1)) (Cd.run (app E) cx57.body.inner.body (S57a f t)):=by
    simp only [S57a,hn1,hs1,e7]
    generalize Nu (pairs f t)=NN at *
    generalize Sz (pairs f t)=SS at *
    simp [-isPlace,-moves,cx57,Cd.inner,Cd.body,hti,ht8,ht7,htI,hb1,hsl,k5,h19,hw,o1,o2,o3,o4,l1,l2,hx]
   obtain ⟨st2,q1,q2⟩:=hG.get
   exact .inl ⟨st2,_,q1,q2,hgo hz,rfl⟩
  ·rw [hz] at h19
   refine .inr ?_
   have hno:=hbad (by omega)
   simp only [S57a]
   generalize Nu (pairs f t)=NN at *
   generalize Sz (pairs f t)=SS at *
   simp [-isPlace,-moves,cx57,Cd.inner,Cd.body,hti,ht8,ht7,htI,hb1,hsl,k5,h19,hw,o1,o2,l1,l2,hx,EndsL]
   exact hno
 ·rintro S ⟨hall,rfl⟩
  have k5:=CF_get f 30 (k:=5) (by omega)
  have hn:¬ (max (f 5) 0 < f 5):=by omega
  simp only [S57a]
  simp [-isPlace,-moves,cx57,Cd.inner,Cd.body,EndsL,k5,hn]
  exact hall
def S57b (P:List (Int × Int)) (t:Nat) (W:List Int):St:=⟨[(4,.lst (some 25) false 1 (Nu P)),(5,.lst (some 26) false 1 (Sz P)),(9,.lst (some 53) false 1 (Bs W)),(10,.int .i64 t)],[(25,P.length,3),(26,P.length,3),(53,W.length,5)],[],[],[]⟩
theorem loop57b (P:List (Int × Int)) (hP:∀ p∈P,p.1=2∨p.1=3∨p.1=4) (hPn:∀ p∈P,p.2 < 9223372036854775808) (hPl:P.length≤100) {st:St} (h0:maskSt [4,5,9,10] [] [25,26,53] [] st=some (S57b P 0 [])) :
  ∃ e st',loopW (maskSt [4,5,9,10] [] [25,26,53] []) (Cd.run (app E) (cx57.body.nth 1)) st=some (e,st')∧e≠.normal∧st'.m=[] ∧
   ((e=.exit 2∧P.all fitP=true∧get st'.f 9=some (.lst (some 53) false 1 (Bs (P.flatMap kbP)))∧st'.own=[]∧st'.dead=[]) ∨
    (e=.ret∧P.all fitP=false∧get st'.f 2=some (.lst none true 1 [])∧get st'.f 3=some (.int .i64 2))):=by
 refine loop_inv (fun t S=>(P.take t).all fitP=true∧((P.take t).flatMap kbP).length≤4 * t∧S=S57b P t ((P.take t).flatMap kbP)) P.length _ h0 ⟨rfl,by simp,rfl⟩ ?_ ?_
 ·rintro t S ht ⟨hall,hlen,rfl⟩
  have hti:(t:Int) < P.length:=by omega
  have hw:=wrap_succ t (by omega)
  have hmem:=List.getElem_mem ht
  have hk:=hP _ hmem
  have hks:=ksz_le P[t].1
  have hko:(((ksz P[t].1).toNat:Nat):Int)=ksz P[t].1:=by omega
  have h27:=appx123 P[t].2 (hPn _ hmem) (ksz P[t].1).toNat (by omega)
  rw [hko,wfits_pw hk] at h27
  have gN:(Nu P)[t]?=some (.int .i64 P[t].2):=by simp [encs,ht]
  have gS:(Sz P)[t]?=some (.int .i64 (ksz P[t].1)):=by simp [encs,ht]
  have gN2:∀ h,(Nu P)[t]'h=.int .i64 P[t].2:=fun h=>(List.getElem?_eq_some_iff.1 gN).2
  have gS2:∀ h,(Sz P)[t]'h=.int .i64 (ksz P[t].1):=fun h=>(List.getElem?_eq_some_iff.1 gS).2
  have l1:(Nu P).length=P.length:=by rw [encs_len,List.length_map]
  have l2:(Sz P).length=P.length:=by rw [encs_len,List.length_map]
  have o1:∀ a b c,PV.okns a b c (Nu P)=true:=fun a b c=>ks_okns (P.map Prod.snd) a b c
  have o2:∀ a b c,PV.okns a b c (Sz P)=true:=fun a b c=>ks_okns (P.map fun p=>ksz p.1) a b c
  have htk:(P.take (t+1)).flatMap kbP=(P.take t).flatMap kbP++kbP P[t]:=by
   rw [List.take_add_one,List.flatMap_append,List.getElem?_eq_getElem ht]; simp
  have hta:(P.take (t+1)).all fitP=fitP P[t]:=by
   rw [List.take_add_one,List.all_append,hall,List.getElem?_eq_getElem ht]; simp
  have hkl:(kbP P[t]).length=(ksz P[t].1).toNat:=kb_len _ _
  have hbad:fitP P[t]=false→P.all fitP=false:=by
   intro h
   rw [List.all_eq_false]
   exact ⟨P[t],hmem,by simp [h]⟩
  have hx:((P.take t).flatMap kbP).length+(kbP P[t]).length≤maxBytes:=by unfold maxBytes; omega
  have o3:=fun a b c=>bs_okns ((P.take t).flatMap kbP) a b c
  have o4:=fun a b c=>bs_okns (kbP P[t]) a b c
  have l3:=bs_len ((P.take t).flatMap kbP)
  have l4:=bs_len (kbP P[t])
  cases hf:fitP P[t] with
  | true =>
   have hf2:wfits P[t].1 P[t].2=true:=hf
   have hn0:¬ P[t].2 < 0:=by
    rw [← wfits_pw hk] at hf2
    simp only [Bool.and_eq_true,decide_eq_true_eq] at hf2
    omega
   rw [hf2,if_neg hn0] at h27
   change app E false (.fn 27 []) _ _=some (.tup [Bl false (kbP P[t]),_],_,_) at h27
   have hl5:((P.take t).flatMap kbP++kbP P[t]).length=((P.take t).flatMap kbP).length+(kbP P[t]).length:=List.length_append
   have hb5:Bs ((P.take t).flatMap kbP++kbP P[t])=Bs ((P.take t).flatMap kbP)++Bs (kbP P[t]):=bs_app _ _
   have hG:Goes (maskSt [4,5,9,10] [] [25,26,53] []) (S57b P (t+1) ((P.take (t+1)).flatMap kbP)) (Cd.run (app E) (cx57.body.nth 1) (S57b P t ((P.take t).flatMap kbP))):=by
    simp only [S57b,htk,hl5,hb5]
    simp only [Bl] at h27
    generalize kbP P[t]=K at *
    generalize (P.take t).flatMap kbP=W at *
    generalize P[t]=p at *
    generalize Nu P=NN at *
    generalize Sz P=SS at *
    generalize Bs W=BW at *
    generalize Bs K=BK at *
    simp [-isPlace,-moves,cx57,Cd.nth,Cd.loops,Cd.body,hti,ht,hw,gN,gS,gN2,gS2,l1,l2,l3,l4,o1,o2,o3,o4,okns_append,h27,hx]
   obtain ⟨st2,q1,q2⟩:=hG.get
   exact .inl ⟨st2,_,q1,q2,by rw [hta,hf],by rw [htk,List.length_append,hkl]; omega,rfl⟩
  | false =>
   have hf2:wfits P[t].1 P[t].2=false:=hf
   rw [hf2] at h27
   refine .inr ?_
   have hno:=hbad hf
   simp only [S57b]
   simp only [Bl] at h27
   generalize (if P[t].2 < 0 then [] else kb (ksz P[t].1).toNat P[t].2)=K2 at *
   generalize (P.take t).flatMap kbP=W at *
   generalize P[t]=p at *
   generalize Nu P=NN at *
   generalize Sz P=SS at *
   simp [-isPlace,-moves,cx57,Cd.nth,Cd.loops,Cd.body,hti,ht,hw,gN,gS,gN2,gS2,l1,l2,l3,o1,o2,o3,h27,EndsL]
   simpa using hno
 ·rintro S ⟨hall,hlen,rfl⟩
  rw [List.take_length] at hall hlen ⊢
  have l1:(Nu P).length=P.length:=by rw [encs_len,List.length_map]
  simp only [S57b]
  generalize Nu P=NN at *
  generalize Sz P=SS at *
  simp [-isPlace,-moves,cx57,Cd.nth,Cd.loops,Cd.body,EndsL,l1]
  simpa using hall
theorem word_lt (i s n:Int):(wordA i s n).1 < 9223372036854775808:=by
 unfold wordA
 split
 ·next h =>
  simp only [okS,Bool.and_eq_true,decide_eq_true_eq] at h
  simp only; omega
 ·decide
theorem pairs_lt (hfb:∀ j,j < 6→f j < 9223372036854775808) (n:Nat):∀ p∈pairs f n,p.2 < 9223372036854775808:=by
 intro p h
 unfold pairs at h
 rcases List.mem_append.1 h with h | h
 ·simp only [List.mem_cons,List.not_mem_nil,or_false] at h
  rcases h with rfl | rfl | rfl | rfl | rfl | rfl
  ·exact hfb 0 (by omega)
  ·exact hfb 1 (by omega)
  ·exact hfb 2 (by omega)
  ·exact hfb 3 (by omega)
  ·exact hfb 4 (by omega)
  ·exact hfb 5 (by omega)
 ·simp only [List.mem_map] at h
  obtain ⟨x,_,rfl⟩:=h
  exact word_lt _ _ _
set_option maxHeartbeats 1000000 in
theorem appx57 (hfb:∀ j,j < 6→f j < 9223372036854775808):app E false (.fn 7 []) [.agg (CF f 30)] []=some (.tup [(blO (tabB f)).1,.int .i64 (blO (tabB f)).2],emptyBag,[]):=by
 have k0:=CF_get f 30 (k:=0) (by omega)
 have k1:=CF_get f 30 (k:=1) (by omega)
 have k2:=CF_get f 30 (k:=2) (by omega)
 have k3:=CF_get f 30 (k:=3) (by omega)
 have k4:=CF_get f 30 (k:=4) (by omega)
 have k5:=CF_get f 30 (k:=5) (by omega)
 rw [tabB_pairs]
 by_cases h8:f 5≤8
 case neg =>
  have h8':8 < f 5:=by omega
  rw [if_neg (fun h=>h8 h.2.1),app_fn E rfl hx57 rfl]
  simp [-isPlace,-moves,cx57,k0,k1,k2,k3,k4,k5,h8',blO]
 have h8':¬ 8 < f 5:=by omega
 have hp0:pairs f 0=[(2,f 0),(3,f 1),(3,f 2),(4,f 3),(4,f 4),(2,f 5)]:=rfl
 have hN0:Nu (pairs f 0)=[.int .i64 (f 0),.int .i64 (f 1),.int .i64 (f 2),.int .i64 (f 3),.int .i64 (f 4),.int .i64 (f 5)]:=rfl
 have hS0':Sz (pairs f 0)=[.int .i64 1,.int .i64 2,.int .i64 2,.int .i64 4,.int .i64 4,.int .i64 1]:=rfl
 have hS0:maskSt [1,4,5,6] [1] [25,26] [] (S57a f 0)=some (S57a f 0):=by
  simp [-isPlace,-moves,S57a,hN0,hS0']
 obtain ⟨e,⟨f',tops',own',dead',m'⟩,q1,q2,gm,q3⟩:=loop57a f h8 hS0
 have hl:=loop_at hS0 q1
 simp only at gm
 subst gm
 simp only [cx57,Cd.inner,Cd.body,S57a,hN0,hS0'] at hl
 rcases q3 with ⟨rfl,hz,g1,g2,g3,g4,g5⟩ | ⟨rfl,hz,g1,g2⟩
 case inr =>
  simp only at g1 g2
  rw [if_neg (fun h=>by rw [hz] at h; cases h.2.2.1),app_fn E rfl hx57 rfl]
  simp [-isPlace,-moves,cx57,k0,k1,k2,k3,k4,k5,h8',hl,g1,g2,blO]
 simp only at g1 g2 g3 g4 g5
 subst g1 g2 g3
 have hpl:=pairs_len f (f 5).toNat
 have hpk:∀ p∈pairs f (f 5).toNat,p.1=2∨p.1=3∨p.1=4:=fun p h=>pairs_kind h
 have hplt:=pairs_lt f hfb (f 5).toNat
 have o1:∀ a b c,PV.okns a b c (Nu (pairs f (f 5).toNat))=true:=fun a b c=>ks_okns ((pairs f (f 5).toNat).map Prod.snd) a b c
 have o2:∀ a b c,PV.okns a b c (Sz (pairs f (f 5).toNat))=true:=fun a b c=>ks_okns ((pairs f (f 5).toNat).map fun p=>ksz p.1) a b c
 rw [← hpl] at hl
 have hneg:f 5 < 0→(pairs f (f 5).toNat).all fitP=false:=by
  intro h
  rw [List.all_eq_false]
  refine ⟨(2,f 5),by simp [pairs],?_⟩
  have e2:klo 2=0:=rfl
  simp only [fitP,wfits,e2,Bool.and_eq_true,decide_eq_true_eq]
  omega
 generalize pairs f (f 5).toNat=P at *
 have hS1:maskSt [4,5,9,10] [] [25,26,53] [] (S57b P 0 [])=some (S57b P 0 []):=by
  simp only [S57b]
  generalize Nu P=NN at *
  generalize Sz P=SS at *
  simp [-isPlace,-moves,o1,o2]
 obtain ⟨e2,⟨f2',tops2',own2',dead2',m2'⟩,p1,p2,gm2,p3⟩:=loop57b P hpk hplt (by omega) hS1
 have hm:=loop_at hS1 p1
 simp only at gm2
 subst gm2
 have key2:maskSt [4,5,9,10] [] [25,26,53] [] ⟨(10,.int .i64 0)::(9,.lst (some 53) false 1 [])::(53,.lst (some 53) false 1 [])::f',[(53,0,5),(25,P.length,3),(26,P.length,3)],[(1,CF f 30)],[],[]⟩=some (S57b P 0 []):=by
  simp only [S57b]
  generalize Nu P=NN at *
  generalize Sz P=SS at *
  simp [-isPlace,-moves,o1,o2,g4,g5]
 have hm:=hm _ key2
 simp only [cx57,Cd.nth,Cd.loops,Cd.body,List.nil_append,List.cons_append,List.getElem?_cons_succ,List.getElem?_cons_zero,Option.getD_some] at hm
 rcases p3 with ⟨rfl,hy,j1,j2,j3⟩ | ⟨rfl,hy,j1,j2⟩
 ·simp only at j1 j2 j3
  subst j2 j3
  have h05:0≤f 5:=by
   by_cases h:f 5 < 0
   ·rw [hneg h] at hy; cases hy
   ·omega
  rw [if_pos ⟨h05,h8,hz,hy⟩,app_fn E rfl hx57 rfl]
  have o3:=fun a b c=>bs_okns (P.flatMap kbP) a b c
  generalize Nu P=NN at *
  generalize Sz P=SS at *
  generalize P.flatMap kbP=W at *
  simp [-isPlace,-moves,cx57,k0,k1,k2,k3,k4,k5,h8',hl,hm,g4,g5,j1,o1,o2,o3,blO]
 ·simp only at j1 j2
  rw [if_neg (fun h=>by rw [hy] at h; cases h.2.2.2),app_fn E rfl hx57 rfl]
  generalize Nu P=NN at *
  generalize Sz P=SS at *
  simp [-isPlace,-moves,cx57,k0,k1,k2,k3,k4,k5,h8',hl,hm,g4,g5,j1,j2,o1,o2,blO]
end
theorem appy128 (k:Nat) (hk:k≤31):app E false (.fn 128 []) [.int .i64 (k:Int)] []=some (.int .u32 ((2 ^ k:Nat):Int),emptyBag,[]):=by
 induction k with
 | zero =>
  rw [app_fn E rfl hy128 rfl]
  simp [cy128]
 | succ k ih =>
  have h1:=ih (by omega)
  have hw:IntKind.i64.wrap (((k+1:Nat):Int) - 1)=(k:Int):=by rw [wrap_id _ (by omega) (by omega)]; omega
  have hlt:¬ (((k+1:Nat):Int) < 1):=by omega
  have hp:2 ^ (k+1)≤2 ^ 31:=Nat.pow_le_pow_right (by decide) hk
  have hu:IntKind.u32.wrap (2 * ((2 ^ k:Nat):Int))=((2 ^ (k+1):Nat):Int):=by
   have e:(2 ^ (k+1):Nat)=2 * 2 ^ k:=by rw [Nat.pow_succ]; omega
   rw [wrap_u32 _ (by omega) (by omega)]; omega
  generalize 2 ^ (k+1)=q at *
  generalize 2 ^ k=p at *
  generalize hK:((k+1:Nat):Int)=K at *
  rw [app_fn E rfl hy128 rfl]
  simp [cy128,hlt,hw,h1,hu]
theorem bits8_len (n:Int):(bits8 n).length=8:=rfl
def bitsW (w:Nat) (n:Int):List Int:=(List.range w).map fun j=>n / ((2 ^ (w - 1 - j):Nat):Int) % 2
theorem bits8_W (n:Int):bitsW 8 n=bits8 n:=by simp [bitsW,bits8,List.range_succ]
theorem bitsW_len (w:Nat) (n:Int):(bitsW w n).length=w:=by simp [bitsW]
theorem bitsW_bit (w:Nat) (n:Int):∀ x∈bitsW w n,0≤x∧x < 2:=by
 intro x hx
 simp only [bitsW,List.mem_map] at hx
 obtain ⟨j,_,rfl⟩:=hx
 omega
theorem bitsW_take (w:Nat) (n:Int) {t:Nat} (ht:t < w):(bitsW w n).take (t+1)=(bitsW w n).take t++[n / ((2 ^ (w - 1 - t):Nat):Int) % 2]:=by
 rw [List.take_add_one,List.getElem?_eq_getElem (by rw [bitsW_len]; exact ht)]
 simp [bitsW]
section
variable (m:Mem) (w:Nat) (hw8:1≤w∧w≤32) (n:Int) (hn:0≤n∧n < 4294967296)
def S95 (m:Mem) (w:Nat) (n:Int) (t:Nat):St:=⟨[(0,.int .u32 n),(1,.int .i64 w),(5,.lst (some 7) false 1 (Bs ((bitsW w n).take (t - (32 - w))))),(6,.int .i64 (31 - (t:Int)))],[(7,t - (32 - w),5)],[],[],m⟩
include hw8 hn in
theorem appy95:app E false (.fn 95 []) [.int .u32 n,.int .i64 w] m=some (.lst (some 0) false 1 (Bs (bitsW w n)),⟨[],[(0,w,5)]⟩,m):=by
 have hS0:maskSt [0,1,5,6] [] [7] [] (S95 m w n 0)=some (S95 m w n 0):=by simp [S95]
 have hl:=loop_eq (mask:=maskSt [0,1,5,6] [] [7] []) (body:=Cd.run (app E) cy95.body.inner.body) (S95 m w n) 32 (fun t ht=>by
  have h0:(0:Int)≤31 - (t:Int):=by omega
  have hws:IntKind.i64.wrap (31 - (t:Int) - 1)=31 - ((t+1:Nat):Int):=by rw [wrap_id _ (by omega) (by omega)]; omega
  by_cases hk:31 - (t:Int) < w
  ·obtain ⟨k,hkk⟩:∃ k:Nat,31 - (t:Int)=k:=⟨31 - t,by omega⟩
   have hk31:k≤31:=by omega
   have h128:=appy128 k hk31
   have hp:2 ^ k≤2 ^ 31:=Nat.pow_le_pow_right (by decide) hk31
   have hp0:0 < 2 ^ k:=Nat.pow_pos (by decide)
   have e1:n.tdiv ((2 ^ k:Nat):Int)=n / ((2 ^ k:Nat):Int):=Int.tdiv_eq_ediv_of_nonneg hn.1
   have e0:0≤n / ((2 ^ k:Nat):Int)∧n / ((2 ^ k:Nat):Int)≤n:=⟨Int.ediv_nonneg hn.1 (by omega),Int.ediv_le_self _ hn.1⟩
   have e2:IntKind.u32.wrap (n / ((2 ^ k:Nat):Int))=n / ((2 ^ k:Nat):Int):=wrap_u32 _ e0.1 (by omega)
   have e3:(n / ((2 ^ k:Nat):Int)).tmod 2=n / ((2 ^ k:Nat):Int) % 2:=Int.tmod_eq_emod_of_nonneg e0.1
   have e4:IntKind.u8.wrap (n / ((2 ^ k:Nat):Int) % 2)=n / ((2 ^ k:Nat):Int) % 2:=wrap_u8 _ (by omega) (by omega)
   have e5:((2 ^ k:Nat):Int)≠0:=by omega
   have ej:t+1 - (32 - w)=t - (32 - w)+1:=by omega
   have htk:=bitsW_take w n (t:=t - (32 - w)) (by omega)
   rw [show w - 1 - (t - (32 - w))=k by omega] at htk
   have hx:t - (32 - w)+1≤maxBytes:=by unfold maxBytes; omega
   have hln:((bitsW w n).take (t - (32 - w))).length=t - (32 - w):=by rw [List.length_take,bitsW_len]; omega
   have hbl:=bs_len ((bitsW w n).take (t - (32 - w)))
   rw [hln] at hbl
   have ho:=fun a b c=>bs_okns ((bitsW w n).take (t - (32 - w))) a b c
   simp only [S95,ej,htk,bs_app]
   rw [hkk] at hws h0 hk ⊢
   generalize hq:((2 ^ k:Nat):Int)=q at *
   generalize n / q=nq at *
   generalize (bitsW w n).take (t - (32 - w))=T at *
   generalize t - (32 - w)=j at *
   simp [-isPlace,-moves,cy95,Cd.inner,Cd.body,h0,hk,h128,e1,e2,e3,e4,e5,hx,hbl,ho,okns_append,hws]
  ·have h31:(t:Int)≤31:=by omega
   have ej:t+1 - (32 - w)=0:=by omega
   have ej2:t - (32 - w)=0:=by omega
   simp only [S95,ej,ej2,List.take_zero]
   simp [-isPlace,-moves,cy95,Cd.inner,Cd.body,h0,h31,hk,hws]) (by simp [cy95,Cd.inner,Cd.body,S95]) hS0
 have key:maskSt [0,1,5,6] [] [7] [] ⟨[(6,.int .i64 31),(5,.lst (some 7) false 1 []),(7,.lst (some 7) false 1 []),(4,.lst none true 1 []),(0,.int .u32 n),(1,.int .i64 w)],[(7,0,5)],[],[],m⟩=some (S95 m w n 0):=by
  have:0 - (32 - w)=0:=by omega
  simp [S95,this]
 have hl2:=loop_at hS0 hl _ key
 have e32:32 - (32 - w)=w:=by omega
 have htk:(bitsW w n).take w=bitsW w n:=List.take_of_length_le (by rw [bitsW_len]; exact Nat.le_refl _)
 have hbl:=bs_len (bitsW w n)
 rw [bitsW_len] at hbl
 have ho:=fun a b c=>bs_okns (bitsW w n) a b c
 simp only [cy95,Cd.inner,Cd.body,S95,e32,htk] at hl2
 rw [app_fn E rfl hy95 rfl]
 generalize bitsW w n=T at *
 simp [-isPlace,-moves,cy95,hl2,ho,hbl,bagEv,bagOf,bagChk,renB,obsB,topsB,nameIn,noTagB,nodupB,tagsOf,tagOf,PV.retag,PV.retag1,isRec]
end
theorem fb_len (b:List Int):(b.flatMap bits8).length=8 * b.length:=by
 induction b with
 | nil=>rfl
 | cons x b ih=>rw [List.flatMap_cons,List.length_append,ih,bits8_len,List.length_cons]; omega
section
variable (b:List Int) (hb:OkB b) (hn:b.length≤1000)
def S56 (b:List Int) (t:Nat):St:=⟨[(0,.lst none false 1 (Bs b)),(3,.lst (some 5) false 1 (Bs ((b.take t).flatMap bits8))),(4,.int .i64 t)],[(5,8 * t,5)],[],[],[]⟩
include hb hn in
theorem appy56:app E false (.fn 56 []) [.lst none false 1 (Bs b)] []=some (.lst none false 1 (Bs (b.flatMap bits8)),emptyBag,[]):=by
 have hS0:maskSt [0,3,4] [] [5] [] (S56 b 0)=some (S56 b 0):=by simp [S56,bs_okns]
 have hl:=loop_eq (mask:=maskSt [0,3,4] [] [5] []) (body:=Cd.run (app E) cy56.body.inner.body) (S56 b) b.length (fun t ht=>by
  have htI:(t:Int) < b.length:=by omega
  have hw:=wrap_succ t (by omega)
  have hx:=hb _ (List.getElem_mem ht)
  have h95:=appy95 [[]] 8 (by omega) b[t] (by omega)
  rw [bits8_W,show ((8:Nat):Int)=8 from rfl] at h95
  have hu:IntKind.u32.wrap b[t]=b[t]:=wrap_u32 _ (by omega) (by omega)
  have htk:(b.take (t+1)).flatMap bits8=(b.take t).flatMap bits8++bits8 b[t]:=by
   rw [List.take_add_one,List.flatMap_append,List.getElem?_eq_getElem ht]; simp
  have hl1:((b.take t).flatMap bits8).length=8 * t:=by rw [fb_len,List.length_take]; omega
  have hbl:=bs_len ((b.take t).flatMap bits8)
  rw [hl1] at hbl
  have hb8:=bs_len (bits8 b[t])
  rw [bits8_len] at hb8
  have ho:=fun a b' c=>bs_okns ((b.take t).flatMap bits8) a b' c
  have ho8:=fun a b' c=>bs_okns (bits8 b[t]) a b' c
  have hxm:8 * t+8≤maxBytes:=by unfold maxBytes; omega
  have e8:8 * (t+1)=8 * t+8:=by omega
  simp only [S56,htk,bs_app,e8]
  generalize (b.take t).flatMap bits8=T at *
  generalize bits8 b[t]=B8 at *
  generalize 8 * t=t8 at *
  simp [cy56,Cd.inner,Cd.body,htI,ht,hw,hu,h95,hbl,hb8,ho,ho8,okns_append,hxm,bs_getE,bs_okns,bagName,PV.retag,PV.retag1]) (by simp [cy56,Cd.inner,Cd.body,S56]) hS0
 have key:maskSt [0,3,4] [] [5] [] ⟨[(4,.int .i64 0),(3,.lst (some 5) false 1 []),(5,.lst (some 5) false 1 []),(2,.lst none true 1 []),(0,.lst none false 1 (Bs b))],[(5,0,5)],[],[],[]⟩=some (S56 b 0):=by simp [S56,bs_okns]
 have hl2:=loop_at hS0 hl _ key
 have ho:=fun a b' c=>bs_okns (b.flatMap bits8) a b' c
 have htk:b.take b.length=b:=List.take_length
 simp only [cy56,Cd.inner,Cd.body,S56,htk] at hl2
 rw [app_fn E rfl hy56 rfl]
 generalize b.flatMap bits8=T at *
 simp [cy56,hl2,ho,bs_okns]
end
def zeros (n:Nat):List Int:=List.replicate n 0
theorem zeros_succ (n:Nat):zeros (n+1)=zeros n++[0]:=by simp [zeros,List.replicate_succ']
section
variable (n:Nat) (hn:n≤100000)
def S94 (n:Nat) (t:Nat):St:=⟨[(0,.int .i64 n),(3,.lst (some 5) false 1 (Bs (zeros t))),(4,.int .i64 t)],[(5,t,5)],[],[],[]⟩
include hn in
theorem appy94:app E false (.fn 94 []) [.int .i64 n] []=some (.lst none false 1 (Bs (zeros n)),emptyBag,[]):=by
 have hS0:maskSt [0,3,4] [] [5] [] (S94 n 0)=some (S94 n 0):=by simp [S94,zeros]
 have hl:=loop_eq (mask:=maskSt [0,3,4] [] [5] []) (body:=Cd.run (app E) cy94.body.inner.body) (S94 n) n (fun t ht=>by
  have htI:(t:Int) < n:=by omega
  have hw:=wrap_succ t (by omega)
  have hbl:=bs_len (zeros t)
  rw [show (zeros t).length=t by simp [zeros]] at hbl
  have ho:=fun a b' c=>bs_okns (zeros t) a b' c
  have hxm:t+1≤maxBytes:=by unfold maxBytes; omega
  simp only [S94,zeros_succ,bs_app]
  generalize zeros t=T at *
  simp [cy94,Cd.inner,Cd.body,htI,ht,hw,hbl,ho,okns_append,hxm]) (by simp [cy94,Cd.inner,Cd.body,S94]) hS0
 have key:maskSt [0,3,4] [] [5] [] ⟨[(4,.int .i64 0),(3,.lst (some 5) false 1 []),(5,.lst (some 5) false 1 []),(2,.lst none true 1 []),(0,.int .i64 n)],[(5,0,5)],[],[],[]⟩=some (S94 n 0):=by simp [S94,zeros]
 have hl2:=loop_at hS0 hl _ key
 have ho:=fun a b' c=>bs_okns (zeros n) a b' c
 simp only [cy94,Cd.inner,Cd.body,S94] at hl2
 rw [app_fn E rfl hy94 rfl]
 generalize zeros n=T at *
 simp [cy94,hl2,ho]
end
def dv:List Int:=1::bitsW 16 4129
theorem appy129:app E false (.fn 129 []) [.int .i64 16,.int .u32 4129] []=some (.lst none false 1 (Bs dv),emptyBag,[]):=by
 have h95:=appy95 [[]] 16 (by omega) 4129 (by omega)
 have hbl:=bs_len (bitsW 16 4129)
 rw [bitsW_len] at hbl
 have hx:1+16≤maxBytes:=by unfold maxBytes; omega
 have ho:=fun a b' c=>bs_okns (bitsW 16 4129) a b' c
 rw [show ((16:Nat):Int)=16 from rfl] at h95
 show _=some (PV.lst none false 1 (PV.int .u8 1::Bs (bitsW 16 4129)),emptyBag,[])
 rw [app_fn E rfl hy129 rfl]
 generalize bitsW 16 4129=T at *
 simp [cy129,h95,hbl,hx,ho,bagName,PV.retag,PV.retag1]
def Bit (b:List Int):Prop:=∀ x∈b,0≤x∧x < 2
theorem bs_getN (b:List Int) (t:Nat) (h:t < b.length):(Bs b)[t]?=some (.int .u8 b[t]):=by simp [encs,h]
theorem bs_recI (b:List Int):(∀ x,x∈Bs b→isRec x=false)↔True:=iff_true_intro fun x hx=>by
 simp only [encs,List.mem_map] at hx
 obtain ⟨n,_,rfl⟩:=hx
 rfl
section
variable (m:Mem) (b:List Int) (hb:Bit b) (hn:b.length≤100000)
def S93 (m:Mem) (A:PV) (b:List Int) (t:Nat):St:=⟨[(0,A),(3,.slr m.length 1000000000 [] 0 t 1),(4,.int .i64 t)],[],[(1000000000,Bs (b.take t))],[],m⟩
include hb hn in
theorem round93 (t:Nat) (ht:t < b.length):Goes (maskSt [0,3,4] [] [] [3]) (S93 m (.lst none false 1 (Bs b)) b (t+1)) (Cd.run (app E) cy93.body.inner.body (S93 m (.lst none false 1 (Bs b)) b t)):=by
 have htI:(t:Int) < b.length:=by omega
 have hw:=wrap_succ t (by omega)
 have hx:=hb _ (List.getElem_mem ht)
 have e1:(b[t]).tmod 2=b[t]:=by rw [Int.tmod_eq_emod_of_nonneg (by omega)]; omega
 have htk:b.take (t+1)=b.take t++[b[t]]:=by rw [List.take_add_one,List.getElem?_eq_getElem ht]; rfl
 have hxm:t+1≤maxBytes:=by unfold maxBytes; omega
 have hbl:=bs_len (b.take t)
 rw [show (b.take t).length=t by rw [List.length_take]; omega] at hbl
 have c1:=bs_cellI (b.take t)
 have c2:=fun a b' ρ=>bs_rens (b.take t) a b' ρ
 have c3:=fun a b' c=>bs_okns (b.take t) a b' c
 have c4:=fun a=>bs_names (b.take t) a
 simp only [S93,htk,bs_app]
 generalize Bs (b.take t)=T at *
 simp [cy93,Cd.inner,Cd.body,htI,ht,hw,e1,hxm,hbl,bs_getE,bs_okns,c1,c2,c3,c4]
include hb hn in
theorem round93s {lv sl:Nat} (hq:mget m lv sl []=some (Bs b)) (t:Nat) (ht:t < b.length):Goes (maskSt [0,3,4] [] [] [3]) (S93 m (.slr lv sl [] 0 b.length 1) b (t+1)) (Cd.run (app E) cy93.body.inner.body (S93 m (.slr lv sl [] 0 b.length 1) b t)):=by
 have l0:=mget_lt hq
 have l1:lv≠m.length:=by omega
 have htI:(t:Int) < b.length:=by omega
 have hw:=wrap_succ t (by omega)
 have hx:=hb _ (List.getElem_mem ht)
 have e1:(b[t]).tmod 2=b[t]:=by rw [Int.tmod_eq_emod_of_nonneg (by omega)]; omega
 have htk:b.take (t+1)=b.take t++[b[t]]:=by rw [List.take_add_one,List.getElem?_eq_getElem ht]; rfl
 have hxm:t+1≤maxBytes:=by unfold maxBytes; omega
 have hbl:=bs_len (b.take t)
 rw [show (b.take t).length=t by rw [List.length_take]; omega] at hbl
 have c1:=bs_cellI (b.take t)
 have c2:=fun a b' ρ=>bs_rens (b.take t) a b' ρ
 have c3:=fun a b' c=>bs_okns (b.take t) a b' c
 have c4:=fun a=>bs_names (b.take t) a
 have hgN:=bs_getN b t ht
 have hbB:=bs_len b
 simp only [S93,htk,bs_app]
 generalize Bs (b.take t)=T at *
 simp [cy93,Cd.inner,Cd.body,htI,ht,hw,e1,hxm,hbl,hbB,hq,l1,hgN,bs_getE,bs_okns,c1,c2,c3,c4]
include hb hn in
theorem appy93r:app E true (.fn 93 []) [.lst none false 1 (Bs b)] m=some (.slr m.length 0 [] 0 b.length 1,⟨[(0,Bs b)],[]⟩,m):=by
 have hS0:maskSt [0,3,4] [] [] [3] (S93 m (.lst none false 1 (Bs b)) b 0)=some (S93 m (.lst none false 1 (Bs b)) b 0):=by
  simp [S93,bs_okns]
 have hl:=loop_eq (mask:=maskSt [0,3,4] [] [] [3]) (body:=Cd.run (app E) cy93.body.inner.body) (S93 m (.lst none false 1 (Bs b)) b) b.length (round93 m b hb hn) (by simp [cy93,Cd.inner,Cd.body,S93]) hS0
 have key:maskSt [0,3,4] [] [] [3] ⟨[(4,.int .i64 0),(3,.slr m.length 5 [] 0 0 1),(5,.slr m.length 5 [] 0 0 1),(2,.lst none true 1 []),(0,.lst none false 1 (Bs b))],[],[(5,[])],[],m⟩=some (S93 m (.lst none false 1 (Bs b)) b 0):=by simp [S93,bs_okns]
 have hl2:=loop_at hS0 hl _ key
 have htk:b.take b.length=b:=List.take_length
 have c1:=bs_cellI b
 have c2:=fun a b' ρ=>bs_rens b a b' ρ
 have c3:=fun a b' c=>bs_okns b a b' c
 have c4:=fun a=>bs_names b a
 have c5:=bs_len b
 simp only [cy93,Cd.inner,Cd.body,S93,htk] at hl2
 rw [app_fn E rfl hy93 rfl]
 have c9:=bs_recI b
 generalize Bs b=T at *
 simp [cy93,hl2,c1,c2,c3,c4,c5,c9,bagEv,bagOf,bagChk,renB,obsB,topsB,nameIn,noTagB,nodupB,tagsOf,tagOf,PV.retag,PV.retag1,frzV,frzR]
include hb hn in
theorem appy93v:app E false (.fn 93 []) [.lst none false 1 (Bs b)] m=some (.lst none false 1 (Bs b),emptyBag,m):=by
 have hS0:maskSt [0,3,4] [] [] [3] (S93 m (.lst none false 1 (Bs b)) b 0)=some (S93 m (.lst none false 1 (Bs b)) b 0):=by
  simp [S93,bs_okns]
 have hl:=loop_eq (mask:=maskSt [0,3,4] [] [] [3]) (body:=Cd.run (app E) cy93.body.inner.body) (S93 m (.lst none false 1 (Bs b)) b) b.length (round93 m b hb hn) (by simp [cy93,Cd.inner,Cd.body,S93]) hS0
 have key:maskSt [0,3,4] [] [] [3] ⟨[(4,.int .i64 0),(3,.slr m.length 5 [] 0 0 1),(5,.slr m.length 5 [] 0 0 1),(2,.lst none true 1 []),(0,.lst none false 1 (Bs b))],[],[(5,[])],[],m⟩=some (S93 m (.lst none false 1 (Bs b)) b 0):=by simp [S93,bs_okns]
 have hl2:=loop_at hS0 hl _ key
 have htk:b.take b.length=b:=List.take_length
 have c1:=bs_cellI b
 have c2:=fun a b' ρ=>bs_rens b a b' ρ
 have c3:=fun a b' c=>bs_okns b a b' c
 have c4:=fun a=>bs_names b a
 have c5:=bs_len b
 have c6:=bs_chunks b
 have c7:=fun x y c d=>bs_out b x y c d
 have c8:=bs_take b
 simp only [cy93,Cd.inner,Cd.body,S93,htk] at hl2
 rw [app_fn E rfl hy93 rfl]
 generalize Bs b=T at *
 simp [cy93,hl2,c1,c2,c3,c4,c5,c6,c7,c8,frzV,frzR]
include hb hn in
theorem appy93s {lv sl:Nat} (hq:mget m lv sl []=some (Bs b)):app E true (.fn 93 []) [.slr lv sl [] 0 b.length 1] m=some (.slr m.length 0 [] 0 b.length 1,⟨[(0,Bs b)],[]⟩,m):=by
 have l0:=mget_lt hq
 have l1:lv≠m.length:=by omega
 have hS0:maskSt [0,3,4] [] [] [3] (S93 m (.slr lv sl [] 0 b.length 1) b 0)=some (S93 m (.slr lv sl [] 0 b.length 1) b 0):=by
  simp [S93,l1]
 have hl:=loop_eq (mask:=maskSt [0,3,4] [] [] [3]) (body:=Cd.run (app E) cy93.body.inner.body) (S93 m (.slr lv sl [] 0 b.length 1) b) b.length (round93s m b hb hn hq) (by simp [cy93,Cd.inner,Cd.body,S93]) hS0
 have key:maskSt [0,3,4] [] [] [3] ⟨[(4,.int .i64 0),(3,.slr m.length 5 [] 0 0 1),(5,.slr m.length 5 [] 0 0 1),(2,.lst none true 1 []),(0,.slr lv sl [] 0 b.length 1)],[],[(5,[])],[],m⟩=some (S93 m (.slr lv sl [] 0 b.length 1) b 0):=by simp [S93,l1]
 have hl2:=loop_at hS0 hl _ key
 have htk:b.take b.length=b:=List.take_length
 have c1:=bs_cellI b
 have c2:=fun a b' ρ=>bs_rens b a b' ρ
 have c3:=fun a b' c=>bs_okns b a b' c
 have c4:=fun a=>bs_names b a
 have c5:=bs_len b
 simp only [cy93,Cd.inner,Cd.body,S93,htk] at hl2
 rw [app_fn E rfl hy93 rfl]
 have c9:=bs_recI b
 generalize Bs b=T at *
 simp [cy93,hl2,l1,c1,c2,c3,c4,c5,c9,bagEv,bagOf,bagChk,renB,obsB,topsB,nameIn,noTagB,nodupB,tagsOf,tagOf,PV.retag,PV.retag1,frzV,frzR]
end
theorem set_self (L:List PV) (t:Nat) (x:PV) (h:L[t]?=some x):L.take t++x::L.drop (t+1)=L:=by
 obtain ⟨ht,rfl⟩:=List.getElem?_eq_some_iff.1 h
 rw [← List.drop_eq_getElem_cons ht,List.take_append_drop]
section
variable (m:Mem) (a:List Int) (ha:Bit a) (hn:a.length≤100000)
def S97z (m:Mem) (lv sl:Nat) (a:List Int) (t:Nat):St:=⟨[(0,.slr lv sl [] 0 a.length 1),(1,.lst none false 1 (Bs (zeros a.length))),(5,.slr m.length 1000000000 [] 0 a.length 1),(6,.int .i64 t)],[],[(1000000000,Bs a)],[],m⟩
include ha hn in
theorem appy97 {lv sl:Nat} (hq:mget m lv sl []=some (Bs a)):app E false (.fn 97 []) [.slr lv sl [] 0 a.length 1,.lst none false 1 (Bs (zeros a.length))] m=some (.lst none false 1 (Bs a),emptyBag,m):=by
 have l0:=mget_lt hq
 have l1:lv≠m.length:=by omega
 have hq2:mget ([]::m) lv sl []=some (Bs a):=by rw [mget_cons,if_neg l1]; exact hq
 have h93:=appy93s ([]::m) a ha hn hq2
 have hzl:(Bs (zeros a.length)).length=a.length:=by rw [bs_len]; simp [zeros]
 have hzo:=fun x y c=>bs_okns (zeros a.length) x y c
 have hzr:=fun x y ρ=>bs_rens (zeros a.length) x y ρ
 have c1:=bs_cellI a
 have c2:=fun a' b' ρ=>bs_rens a a' b' ρ
 have c3:=fun a' b' c=>bs_okns a a' b' c
 have c4:=fun a'=>bs_names a a'
 have c5:=bs_len a
 have c6:=bs_chunks a
 have c7:=fun x y c d=>bs_out a x y c d
 have c8:=bs_take a
 have c9:=bs_recI a
 have hS0:maskSt [0,1,5,6] [] [] [5] (S97z m lv sl a 0)=some (S97z m lv sl a 0):=by
  simp only [S97z]
  generalize Bs (zeros a.length)=ZZ at *
  generalize Bs a=T at *
  simp [l1,hzo,hzr,c1,c2,c3,c4]
 have hl:=loop_eq (mask:=maskSt [0,1,5,6] [] [] [5]) (body:=Cd.run (app E) cy97.body.inner.body) (S97z m lv sl a) a.length (fun t ht=>by
  have htI:(t:Int) < a.length:=by omega
  have ht1:t+1≤a.length:=ht
  have hw:=wrap_succ t (by omega)
  have hx:=ha _ (List.getElem_mem ht)
  have e1:(a[t]).tmod 2=a[t]:=by rw [Int.tmod_eq_emod_of_nonneg (by omega)]; omega
  have e2:IntKind.u8.wrap (a[t])=a[t]:=wrap_u8 _ (by omega) (by omega)
  have e3:IntKind.i64.wrap 0=0:=by decide
  have e4:IntKind.i64.wrap (t:Int)=t:=wrap_id _ (by omega) (by omega)
  have gA:=bs_getN a t ht
  have gA2:∀ h,(Bs a)[t]'h=.int .u8 a[t]:=fun h=>(List.getElem?_eq_some_iff.1 gA).2
  have gZ:(Bs (zeros a.length))[t]?=some (.int .u8 0):=by simp [encs,zeros,ht]
  have gZ2:∀ h,(Bs (zeros a.length))[t]'h=.int .u8 0:=fun h=>(List.getElem?_eq_some_iff.1 gZ).2
  have hset:=set_self (Bs a) t _ gA
  have hset2:(Bs a).set t (.int .u8 a[t])=Bs a:=by
   apply List.ext_getElem?
   intro i
   rw [List.getElem?_set]
   split
   ·next h=>subst h; rw [if_pos (by rw [c5]; exact ht),gA]
   ·rfl
  simp only [S97z]
  generalize Bs (zeros a.length)=ZZ at *
  generalize a[t]=x at *
  generalize Bs a=T at *
  simp [cy97,Cd.inner,Cd.body,htI,ht,hw,e1,e2,e3,e4,gA,gA2,gZ,gZ2,hset,hset2,hzl,hzo,hzr,ht1,l1,hq,c1,c2,c3,c4,c5]) (by simp [cy97,Cd.inner,Cd.body,S97z,hzl]) hS0
 have key:maskSt [0,1,5,6] [] [] [5] ⟨[(6,.int .i64 0),(5,.slr m.length 18000 [] 0 a.length 1),(17,.slr m.length 18000 [] 0 a.length 1),(16,.slr lv sl [] 0 a.length 1),(12,.bool false),(11,.int .i64 a.length),(10,.lst none false 1 (Bs (zeros a.length))),(9,.int .i64 a.length),(8,.slr lv sl [] 0 a.length 1),(4,.lst none true 1 []),(0,.slr lv sl [] 0 a.length 1),(1,.lst none false 1 (Bs (zeros a.length)))],[],[(18000,Bs a)],[],m⟩=some (S97z m lv sl a 0):=by
  simp only [S97z]
  generalize Bs (zeros a.length)=ZZ at *
  generalize Bs a=T at *
  simp [l1,hzo,hzr,c1,c2,c3,c4]
 have hl2:=loop_at hS0 hl _ key
 simp only [cy97,Cd.inner,Cd.body,S97z] at hl2
 rw [app_fn E rfl hy97 rfl]
 generalize Bs (zeros a.length)=ZZ at *
 generalize Bs a=T at *
 simp [cy97,hl2,h93,hzl,hzo,hzr,l1,c1,c2,c3,c4,c5,c6,c7,c8,c9,frzV,frzR,bagName,PV.retag,PV.retag1]
end
def Rw (g:Nat→Int) (n:Nat):List Int:=(List.range n).map g
theorem Rw_len (g:Nat→Int) (n:Nat):(Rw g n).length=n:=by simp [Rw]
theorem Rw_get (g:Nat→Int) {n i:Nat} (h:i < n):(Rw g n)[i]?=some (g i):=by simp [Rw,h]
theorem Rw_ext {g g':Nat→Int} {n:Nat} (h:∀ j,j < n→g j=g' j):Rw g n=Rw g' n:=List.map_congr_left fun j hj=>h j (List.mem_range.1 hj)
theorem Rw_self (L:List Int):Rw (fun j=>L.getD j 0) L.length=L:=by
 apply List.ext_getElem?
 intro i
 by_cases hi:i < L.length
 ·rw [Rw_get _ hi,List.getElem?_eq_getElem hi]; simp [hi]
 ·rw [List.getElem?_eq_none (by rw [Rw_len]; omega),List.getElem?_eq_none (by omega)]
def up (g:Nat→Int) (i:Nat) (v:Int):Nat→Int:=fun j=>if j=i then v else g j
theorem Rw_set (g:Nat→Int) {n i:Nat} (h:i < n) (v:Int):(Rw g n).set i v=Rw (up g i v) n:=by
 apply List.ext_getElem?
 intro j
 rw [List.getElem?_set]
 by_cases hj:j < n
 ·rw [Rw_get _ hj,Rw_get _ hj,Rw_len]
  by_cases e:i=j
  ·subst e; rw [if_pos rfl,if_pos h,up,if_pos rfl]
  ·rw [if_neg e,up,if_neg (fun h=>e h.symm)]
 ·rw [List.getElem?_eq_none (l:=Rw g n) (by rw [Rw_len]; omega),List.getElem?_eq_none (l:=Rw (up g i v) n) (by rw [Rw_len]; omega),Rw_len]
  by_cases e:i=j
  ·omega
  ·rw [if_neg e]
def gD (X:Nat→Int) (ρ:Int) (t:Nat):Nat→Int:=fun j=>if j < t then 0 else if j < t+16 then (ρ / ((2 ^ (15 - (j - t)):Nat):Int) % 2+X j) % 2 else X j
def gU (X:Nat→Int) (ρ:Int) (t u:Nat):Nat→Int:=fun j=>if t≤j∧j < t+u then (gD X ρ t j+dv.getD (j - t) 0) % 2 else gD X ρ t j
theorem lowX_bit {a:Int} (h0:0≤a) (p:Nat):lowX a / ((2 ^ p:Nat):Int) % 2=(a / ((2 ^ p:Nat):Int)+4129 / ((2 ^ p:Nat):Int)) % 2:=by
 obtain ⟨n,rfl⟩:∃ n:Nat,a=n:=⟨a.toNat,by omega⟩
 have key:(n ^^^ 4129) / 2 ^ p % 2=(n / 2 ^ p+4129 / 2 ^ p) % 2:=by
  have h1:=Nat.testBit_xor n 4129 p
  simp only [Nat.testBit_eq_decide_div_mod_eq] at h1
  have e1:n / 2 ^ p % 2=0∨n / 2 ^ p % 2=1:=by omega
  have e2:4129 / 2 ^ p % 2=0∨4129 / 2 ^ p % 2=1:=by omega
  have e3:(n ^^^ 4129) / 2 ^ p % 2=0∨(n ^^^ 4129) / 2 ^ p % 2=1:=by omega
  rcases e1 with e1 | e1 <;> rcases e2 with e2 | e2 <;> rcases e3 with e3 | e3 <;> rw [e1,e2,e3] at h1 <;> first | omega | (exfalso; revert h1; decide)
 unfold lowX
 rw [Int.toNat_natCast]
 have:=congrArg (fun z:Nat=>(z:Int)) key
 simpa using this
theorem dv_get (k:Nat) (h1:1≤k) (h:k≤16):dv.getD k 0=4129 / ((2 ^ (16 - k):Nat):Int) % 2:=by
 rcases (by omega:k=1∨k=2∨k=3∨k=4∨k=5∨k=6∨k=7∨k=8∨k=9∨k=10∨k=11∨k=12∨k=13∨k=14∨k=15∨k=16) with rfl | rfl | rfl | rfl | rfl | rfl | rfl | rfl | rfl | rfl | rfl | rfl | rfl | rfl | rfl | rfl <;> decide
theorem dbl_bit (ρ:Int) (k:Nat) (h1:1≤k) (h:k≤15):2 * ρ % 65536 / ((2 ^ (16 - k):Nat):Int) % 2=ρ / ((2 ^ (15 - k):Nat):Int) % 2:=by
 rcases (by omega:k=1∨k=2∨k=3∨k=4∨k=5∨k=6∨k=7∨k=8∨k=9∨k=10∨k=11∨k=12∨k=13∨k=14∨k=15) with rfl | rfl | rfl | rfl | rfl | rfl | rfl | rfl | rfl | rfl | rfl | rfl | rfl | rfl | rfl <;> simp <;> omega
section
variable (X:Nat→Int) (hX:∀ j,0≤X j∧X j < 2) (ρ:Int) (t:Nat)
theorem gD_top:gD X ρ t t=(ρ / 32768+X t) % 2:=by
 unfold gD
 rw [if_neg (by omega),if_pos (by omega),Nat.sub_self]
 simp
include hX in
theorem step0 (h:gD X ρ t t≠1) (j:Nat):gD X (feedI ρ (X t)) (t+1) j=gD X ρ t j:=by
 rw [gD_top X ρ t] at h
 have hf:feedI ρ (X t)=2 * ρ % 65536:=by rw [feedI,if_neg h]
 rw [hf]
 by_cases h1:j < t
 ·unfold gD; rw [if_pos (by omega),if_pos h1]
 by_cases h2:j=t
 ·subst h2
  rw [gD_top X ρ j]
  unfold gD; rw [if_pos (by omega)]
  omega
 unfold gD
 rw [if_neg (by omega),if_neg h1]
 have hxj:=hX j
 by_cases h3:j < t+16
 ·rw [if_pos (by omega),if_pos h3,show 15 - (j - (t+1))=16 - (j - t) by omega,dbl_bit ρ (j - t) (by omega) (by omega)]
 ·rw [if_neg h3]
  by_cases h4:j < t+1+16
  ·rw [if_pos h4,show 15 - (j - (t+1))=0 by omega]
   simp
   omega
  ·rw [if_neg h4]
include hX in
theorem step1 (h:gD X ρ t t=1) (j:Nat):gD X (feedI ρ (X t)) (t+1) j=gU X ρ t 17 j:=by
 have htop:=h
 rw [gD_top X ρ t] at h
 have hf:feedI ρ (X t)=lowX (2 * ρ % 65536):=by rw [feedI,if_pos h]
 rw [hf]
 have hxj:=hX j
 unfold gU
 by_cases h1:j < t
 ·rw [if_neg (by omega)]
  unfold gD; rw [if_pos (by omega),if_pos h1]
 by_cases h2:j=t
 ·subst h2
  rw [if_pos (by omega),htop,Nat.sub_self]
  unfold gD; rw [if_pos (by omega)]
  decide
 by_cases h3:j < t+16
 ·rw [if_pos (by omega),dv_get (j - t) (by omega) (by omega)]
  unfold gD
  rw [if_neg (by omega),if_pos (by omega),if_neg h1,if_pos h3,show 15 - (j - (t+1))=16 - (j - t) by omega,lowX_bit (by omega)]
  have:=dbl_bit ρ (j - t) (by omega) (by omega)
  generalize 2 * ρ % 65536 / ((2 ^ (16 - (j - t)):Nat):Int)=A at *
  generalize ρ / ((2 ^ (15 - (j - t)):Nat):Int)=B at *
  generalize 4129 / ((2 ^ (16 - (j - t)):Nat):Int)=C at *
  omega
 by_cases h4:j=t+16
 ·subst h4
  rw [if_pos (by omega),show t+16 - t=16 by omega,dv_get 16 (by omega) (by omega)]
  unfold gD
  rw [if_neg (by omega),if_pos (by omega),if_neg (by omega),if_neg (by omega),show 15 - (t+16 - (t+1))=0 by omega,lowX_bit (by omega)]
  simp
  omega
 ·rw [if_neg (by omega)]
  unfold gD
  rw [if_neg (by omega),if_neg (by omega),if_neg (by omega),if_neg (by omega)]
theorem gU_0:gU X ρ t 0=gD X ρ t:=by
 funext j
 unfold gU; rw [if_neg (by omega)]
theorem gU_succ (u:Nat) (j:Nat):gU X ρ t (u+1) j=up (gU X ρ t u) (t+u) ((gU X ρ t u (t+u)+dv.getD u 0) % 2) j:=by
 have e:gU X ρ t u (t+u)=gD X ρ t (t+u):=by unfold gU; rw [if_neg (by omega)]
 unfold up
 by_cases h:j=t+u
 ·rw [if_pos h,e]
  subst h
  unfold gU; rw [if_pos (by omega),show t+u - t=u by omega]
 ·rw [if_neg h]
  unfold gU
  by_cases h2:t≤j∧j < t+u
  ·rw [if_pos h2,if_pos (by omega)]
  ·rw [if_neg h2,if_neg (by omega)]
end
theorem dv_len:dv.length=17:=rfl
theorem dv_bit:∀ x∈dv,0≤x∧x < 2:=by
 intro x hx
 rcases List.mem_cons.1 hx with rfl | hx
 ·omega
 ·exact bitsW_bit 16 4129 x hx
theorem gD_bit {X:Nat→Int} (hX:∀ j,0≤X j∧X j < 2) (ρ:Int) (t j:Nat):0≤gD X ρ t j∧gD X ρ t j < 2:=by
 unfold gD
 have:=hX j
 split
 ·omega
 ·split <;> omega
theorem gU_bit {X:Nat→Int} (hX:∀ j,0≤X j∧X j < 2) (ρ:Int) (t u j:Nat):0≤gU X ρ t u j∧gU X ρ t u j < 2:=by
 unfold gU
 split
 ·omega
 ·exact gD_bit hX ρ t j
theorem rw_rw (g:Nat→Int) {n i:Nat} (h:i < n) (v:Int):(Bs (Rw g n)).set i (.int .u8 v)=Bs (Rw (up g i v) n):=by
 simp only [encs,← Rw_set g h,List.map_set]
theorem tk_set (L:List PV) (i:Nat) (h:i < L.length) (x:PV):L.take i++x::L.drop (i+1)=L.set i x:=by
 rw [List.set_eq_take_append_cons_drop,if_pos h]
section
variable (X:Nat→Int) (hX:∀ j,0≤X j∧X j < 2) (n:Nat) (hn:n≤100000) (ρ:Int) (t:Nat) (ht:t+16 < n)
def S96i (n t:Nat) (R:List Int) (u:Nat):St:=⟨[(0,.int .i64 16),(7,.lst none false 1 (Bs dv)),(8,.slr 0 1000000000 [] 0 n 1),(10,.int .i64 t),(11,.int .i64 u)],[],[(1000000000,Bs R)],[],[]⟩
include hX hn ht in
theorem roundi (u:Nat) (hu:u < 17):Goes (maskSt [0,7,8,10,11] [] [] [8]) (S96i n t (Rw (gU X ρ t (u+1)) n) (u+1)) (Cd.run (app E) (cy96.body.nth 2) (S96i n t (Rw (gU X ρ t u) n) u)):=by
 have huI:(u:Int)≤16:=by omega
 have hw:=wrap_succ u (by omega)
 have hw2:IntKind.i64.wrap ((t:Int)+(u:Int))=(t:Int)+(u:Int):=wrap_id _ (by omega) (by omega)
 have w1:((t:Int)+(u:Int)).toNat=t+u:=by omega
 have w2:0≤(t:Int)+(u:Int):=by omega
 have w3:(t:Int)+(u:Int) < n:=by omega
 have htu:t+u < n:=by omega
 have htu1:t+u+1≤n:=by omega
 have hgu:=gU_bit hX ρ t u (t+u)
 have hdm:dv[u]'(by rw [dv_len]; omega)∈dv:=List.getElem_mem _
 have hdb:=dv_bit _ hdm
 have hgd:dv.getD u 0=dv[u]'(by rw [dv_len]; omega):=by
  rw [List.getD_eq_getElem?_getD,List.getElem?_eq_getElem (by rw [dv_len]; omega)]; rfl
 have gR:(Bs (Rw (gU X ρ t u) n))[t+u]?=some (.int .u8 (gU X ρ t u (t+u))):=by
  simp only [encs,List.getElem?_map,Rw_get _ htu,Option.map_some]
 have gR2:∀ h,(Bs (Rw (gU X ρ t u) n))[t+u]'h=.int .u8 (gU X ρ t u (t+u)):=fun h=>(List.getElem?_eq_some_iff.1 gR).2
 have gV:=bs_getN dv u (by rw [dv_len]; omega)
 have gV2:∀ h,(Bs dv)[u]'h=.int .u8 (dv[u]'(by rw [dv_len]; omega)):=fun h=>(List.getElem?_eq_some_iff.1 gV).2
 have lV:(Bs dv).length=17:=by rw [bs_len,dv_len]
 have lR:(Bs (Rw (gU X ρ t u) n)).length=n:=by rw [bs_len,Rw_len]
 have hRw:Rw (gU X ρ t (u+1)) n=Rw (up (gU X ρ t u) (t+u) ((gU X ρ t u (t+u)+dv.getD u 0) % 2)) n:=Rw_ext fun j _=>gU_succ X ρ t u j
 have hset:=rw_rw (gU X ρ t u) htu ((gU X ρ t u (t+u)+dv.getD u 0) % 2)
 rw [← hRw] at hset
 have hset2:=tk_set (Bs (Rw (gU X ρ t u) n)) (t+u) (by rw [lR]; exact htu) (.int .u8 ((gU X ρ t u (t+u)+dv.getD u 0) % 2))
 rw [hset] at hset2
 rw [hgd] at hset hset2
 have o1:=fun a b c=>bs_okns dv a b c
 have o2:=fun a b ρ'=>bs_rens dv a b ρ'
 have c1:=bs_cellI (Rw (gU X ρ t (u+1)) n)
 have c2:=fun a b ρ'=>bs_rens (Rw (gU X ρ t (u+1)) n) a b ρ'
 have c3:=fun a b c=>bs_okns (Rw (gU X ρ t (u+1)) n) a b c
 have c4:=fun a=>bs_names (Rw (gU X ρ t (u+1)) n) a
 have hu17:u < 17:=hu
 generalize dv[u]'(by rw [dv_len]; omega)=d at *
 generalize gU X ρ t u (t+u)=x at *
 have e1:IntKind.u8.wrap (x+d)=x+d:=wrap_u8 _ (by omega) (by omega)
 have e2:(x+d).tmod 2=(x+d) % 2:=Int.tmod_eq_emod_of_nonneg (by omega)
 simp only [S96i]
 generalize Bs (Rw (gU X ρ t (u+1)) n)=T1 at *
 generalize Bs (Rw (gU X ρ t u) n)=T at *
 generalize Bs dv=DV at *
 simp [cy96,Cd.nth,Cd.loops,Cd.body,huI,hw,hw2,w1,w2,w3,htu,htu1,hu17,gR,gR2,gV,gV2,lV,lR,e1,e2,hset,hset2,o1,o2,c1,c2,c3,c4]
include hX hn ht in
theorem loopi {st:St} (h0:maskSt [0,7,8,10,11] [] [] [8] st=some (S96i n t (Rw (gU X ρ t 0) n) 0)):loopW (maskSt [0,7,8,10,11] [] [] [8]) (Cd.run (app E) (cy96.body.nth 2)) st=Cd.run (app E) (cy96.body.nth 2) (S96i n t (Rw (gU X ρ t 17) n) 17) :=
 loop_eq (fun u=>S96i n t (Rw (gU X ρ t u) n) u) 17 (fun u hu=>roundi X hX n hn ρ t ht u hu) (by simp [cy96,Cd.nth,Cd.loops,Cd.body,S96i]) h0
end
def remX (X:Nat→Int):Nat→Int
 | 0=>0
 | t+1=>feedI (remX X t) (X t)
section
variable (X:Nat→Int) (hX:∀ j,0≤X j∧X j < 2) (n:Nat) (hn:n≤100000)
def S96o (n:Nat) (R:List Int) (t:Nat):St:=⟨[(0,.int .i64 16),(7,.lst none false 1 (Bs dv)),(8,.slr 0 1000000000 [] 0 n 1),(10,.int .i64 t)],[],[(1000000000,Bs R)],[],[]⟩
include hX hn in
theorem roundo (t:Nat) (ht:t+16 < n):Goes (maskSt [0,7,8,10] [] [] [8]) (S96o n (Rw (gD X (remX X (t+1)) (t+1)) n) (t+1)) (Cd.run (app E) (cy96.body.nth 1) (S96o n (Rw (gD X (remX X t) t) n) t)):=by
 have htI:(t:Int)+16 < n:=by omega
 have hw:=wrap_succ t (by omega)
 have hw2:IntKind.i64.wrap ((t:Int)+16)=(t:Int)+16:=wrap_id _ (by omega) (by omega)
 have htn:t < n:=by omega
 have htn1:t+1≤n:=by omega
 have htnI:(t:Int) < n:=by omega
 have gR:(Bs (Rw (gD X (remX X t) t) n))[t]?=some (.int .u8 (gD X (remX X t) t t)):=by
  simp only [encs,List.getElem?_map,Rw_get _ htn,Option.map_some]
 have gR2:∀ h,(Bs (Rw (gD X (remX X t) t) n))[t]'h=.int .u8 (gD X (remX X t) t t):=fun h=>(List.getElem?_eq_some_iff.1 gR).2
 have lR:(Bs (Rw (gD X (remX X t) t) n)).length=n:=by rw [bs_len,Rw_len]
 have o1:=fun a b c=>bs_okns dv a b c
 have o2:=fun a b ρ'=>bs_rens dv a b ρ'
 have c1:=fun R=>bs_cellI R
 have c2:=fun R a b ρ'=>bs_rens R a b ρ'
 have c3:=fun R a b c=>bs_okns R a b c
 have c4:=fun R a=>bs_names R a
 by_cases h1:gD X (remX X t) t t=1
 ·have hR1:Rw (gD X (remX X (t+1)) (t+1)) n=Rw (gU X (remX X t) t 17) n:=Rw_ext fun j _=>step1 X hX (remX X t) t h1 j
  have hR0:Rw (gU X (remX X t) t 0) n=Rw (gD X (remX X t) t) n:=by rw [gU_0]
  have hS0:maskSt [0,7,8,10,11] [] [] [8] (S96i n t (Rw (gU X (remX X t) t 0) n) 0)=some (S96i n t (Rw (gU X (remX X t) t 0) n) 0):=by
   simp [S96i,o1,o2,c2,c3,c4]
  have hl:=loop_at hS0 (loopi X hX n hn (remX X t) t ht hS0)
  rw [hR0] at hl
  rw [h1] at gR gR2
  rw [hR1]
  simp only [cy96,Cd.nth,Cd.loops,Cd.body,S96i,List.nil_append,List.append_nil,List.cons_append,List.getElem?_cons_succ,List.getElem?_cons_zero,Option.getD_some] at hl
  simp only [S96o]
  generalize Rw (gU X (remX X t) t 17) n=R1 at *
  generalize Rw (gD X (remX X t) t) n=R at *
  generalize dv=D at *
  simp [cy96,Cd.nth,Cd.loops,Cd.body,htI,hw,hw2,htn,htn1,htnI,gR,gR2,lR,hl,o1,o2,c1,c2,c3,c4]
 ·have hR1:Rw (gD X (remX X (t+1)) (t+1)) n=Rw (gD X (remX X t) t) n:=Rw_ext fun j _=>step0 X hX (remX X t) t h1 j
  have h1':(gD X (remX X t) t t == 1)=false:=by simpa using h1
  rw [hR1]
  simp only [S96o]
  generalize gD X (remX X t) t t=x at *
  generalize Rw (gD X (remX X t) t) n=R at *
  generalize dv=D at *
  simp [cy96,Cd.nth,Cd.loops,Cd.body,htI,hw,hw2,htn,htn1,htnI,gR,gR2,lR,h1,h1',o1,o2,c1,c2,c3,c4]
end
def p2 (k:Nat):Int:=((2 ^ k:Nat):Int)
theorem acc_step (ρ:Int) (t:Nat) (ht:t < 16):ρ / p2 (16 - t) * p2 (16 - t)+ρ / p2 (15 - t) % 2 * p2 (15 - t)=ρ / p2 (16 - (t+1)) * p2 (16 - (t+1)):=by
 unfold p2
 rcases (by omega:t=0∨t=1∨t=2∨t=3∨t=4∨t=5∨t=6∨t=7∨t=8∨t=9∨t=10∨t=11∨t=12∨t=13∨t=14∨t=15) with rfl | rfl | rfl | rfl | rfl | rfl | rfl | rfl | rfl | rfl | rfl | rfl | rfl | rfl | rfl | rfl <;> simp <;> omega
theorem acc_le {ρ:Int} (h:0≤ρ∧ρ < 65536) (t:Nat) (ht:t≤16):0≤ρ / p2 (16 - t) * p2 (16 - t)∧ρ / p2 (16 - t) * p2 (16 - t) < 65536:=by
 unfold p2
 rcases (by omega:t=0∨t=1∨t=2∨t=3∨t=4∨t=5∨t=6∨t=7∨t=8∨t=9∨t=10∨t=11∨t=12∨t=13∨t=14∨t=15∨t=16) with rfl | rfl | rfl | rfl | rfl | rfl | rfl | rfl | rfl | rfl | rfl | rfl | rfl | rfl | rfl | rfl | rfl <;> simp <;> omega
theorem term_le {ρ:Int} (h:0≤ρ∧ρ < 65536) (t:Nat) (ht:t < 16):0≤ρ / p2 (15 - t) % 2 * p2 (15 - t)∧ρ / p2 (15 - t) % 2 * p2 (15 - t) < 65536:=by
 unfold p2
 rcases (by omega:t=0∨t=1∨t=2∨t=3∨t=4∨t=5∨t=6∨t=7∨t=8∨t=9∨t=10∨t=11∨t=12∨t=13∨t=14∨t=15) with rfl | rfl | rfl | rfl | rfl | rfl | rfl | rfl | rfl | rfl | rfl | rfl | rfl | rfl | rfl | rfl <;> simp <;> omega
section
variable (m:Mem) (lv sl off:Nat) (T:List PV) (hq:mget m lv sl []=some T) (hT:off+16≤T.length) (ρ:Int) (hρ:0≤ρ∧ρ < 65536) (hg:∀ t,t < 16→T[off+t]?=some (.int .u8 (ρ / p2 (15 - t) % 2)))
def S130 (m:Mem) (lv sl off:Nat) (ρ:Int) (t:Nat):St:=⟨[(0,.slr lv sl [] off 16 1),(3,.int .u32 (ρ / p2 (16 - t) * p2 (16 - t))),(4,.int .i64 t)],[],[],[],m⟩
include hq hT hρ hg in
theorem appy130:app E false (.fn 130 []) [.slr lv sl [] off 16 1] m=some (.int .u32 ρ,emptyBag,m):=by
 have l0:=mget_lt hq
 have l1:lv≠m.length:=by omega
 have hS0:maskSt [0,3,4] [] [] [] (S130 m lv sl off ρ 0)=some (S130 m lv sl off ρ 0):=by simp [S130,l1]
 have hl:=loop_eq (mask:=maskSt [0,3,4] [] [] []) (body:=Cd.run (app E) cy130.body.inner.body) (S130 m lv sl off ρ) 16 (fun t ht=>by
  have htI:(t:Int) < 16:=by omega
  have hw:=wrap_succ t (by omega)
  have hgt:=hg t ht
  have hgt2:∀ h,T[off+t]'h=.int .u8 (ρ / p2 (15 - t) % 2):=fun h=>(List.getElem?_eq_some_iff.1 hgt).2
  have hin:off+t < T.length:=by omega
  have h128:=appy128 (15 - t) (by omega)
  rw [show ((15 - t:Nat):Int)=15 - (t:Int) by omega] at h128
  change app E false (.fn 128 []) _ _=some (.int .u32 (p2 (15 - t)),_,_) at h128
  have hs:=acc_step ρ t ht
  have ha:=acc_le hρ t (by omega)
  have ha1:=acc_le hρ (t+1) (by omega)
  have ht2:=term_le hρ t ht
  have hx:0≤ρ / p2 (15 - t) % 2∧ρ / p2 (15 - t) % 2 < 2:=by omega
  simp only [S130,← hs] at ha1 ⊢
  generalize ρ / p2 (16 - t) * p2 (16 - t)=A at *
  generalize p2 (15 - t)=q at *
  generalize ρ / q % 2=x at *
  have e1:x.tmod 2=x:=by rw [Int.tmod_eq_emod_of_nonneg (by omega)]; omega
  have e2:IntKind.u32.wrap x=x:=wrap_u32 _ (by omega) (by omega)
  have e3:IntKind.u32.wrap (x * q)=x * q:=wrap_u32 _ (by omega) (by omega)
  have e4:IntKind.u32.wrap (A+x * q)=A+x * q:=wrap_u32 _ (by omega) (by omega)
  have e5:IntKind.i64.wrap 15=15:=by decide
  have e6:IntKind.i64.wrap (15 - (t:Int))=15 - (t:Int):=wrap_id _ (by omega) (by omega)
  simp [cy130,Cd.inner,Cd.body,htI,ht,hw,hq,l1,hgt,hgt2,hin,h128,e1,e2,e3,e4,e5,e6]) (by simp [cy130,Cd.inner,Cd.body,S130]) hS0
 have key:maskSt [0,3,4] [] [] [] ⟨[(4,.int .i64 0),(3,.int .u32 0),(2,.int .u32 0),(0,.slr lv sl [] off 16 1)],[],[],[],m⟩=some (S130 m lv sl off ρ 0):=by
  have:ρ / p2 16 * p2 16=0:=by unfold p2; simp; omega
  simp [S130,l1,this]
 have hl2:=loop_at hS0 hl _ key
 have hend:ρ / p2 0 * p2 0=ρ:=by unfold p2; simp
 simp only [cy130,Cd.inner,Cd.body,S130,Nat.sub_self,hend] at hl2
 rw [app_fn E rfl hy130 rfl]
 simp [cy130,hl2,l1]
end
theorem zeros_len (n:Nat):(zeros n).length=n:=by simp [zeros]
theorem zeros_bit (n:Nat):Bit (zeros n):=fun x hx=>by
 simp only [zeros,List.mem_replicate] at hx
 omega
theorem remX_lt (X:Nat→Int):∀ t,0≤remX X t∧remX X t < 65536
 | 0=>by simp [remX]
 | t+1=>feed_lt _ _
theorem remX_fold (L:List Int):∀ t,t≤L.length→remX (fun j=>L.getD j 0) t=(L.take t).foldl feedI 0
 | 0,_=>rfl
 | t+1,h=>by
  have ht:t < L.length:=by omega
  rw [take_fold feedI 0 L t ht,remX,remX_fold L t (by omega)]
  simp [ht]
theorem feed_zeros (n:Nat):(zeros n).foldl feedI 0=0:=by
 induction n with
 | zero=>rfl
 | succ n ih=>rw [zeros_succ,List.foldl_append,ih]; rfl
section
variable (a:List Int) (ha:Bit a) (hn:a.length≤1000)
def S96z (a:List Int) (t:Nat):St:=⟨[(0,.int .i64 16),(2,.lst none false 1 (Bs a)),(7,.lst none false 1 (Bs dv)),(8,.slr 0 1000000000 [] 0 t 1),(9,.int .i64 t)],[],[(1000000000,Bs (zeros t))],[],[]⟩
theorem loopz {st:St} (h0:maskSt [0,2,7,8,9] [] [] [8] st=some (S96z a 0)):loopW (maskSt [0,2,7,8,9] [] [] [8]) (Cd.run (app E) (cy96.body.nth 0)) st=Cd.run (app E) (cy96.body.nth 0) (S96z a 16):=by
 refine loop_eq (S96z a) 16 (fun t ht=>?_) (by simp [cy96,Cd.nth,Cd.loops,Cd.body,S96z]) h0
 have htI:(t:Int) < 16:=by omega
 have hw:=wrap_succ t (by omega)
 have o1:=fun a' b c=>bs_okns dv a' b c
 have o2:=fun a' b ρ'=>bs_rens dv a' b ρ'
 have p1:=fun a' b c=>bs_okns a a' b c
 have p2:=fun a' b ρ'=>bs_rens a a' b ρ'
 have c1:=bs_cellI (zeros t)
 have c2:=fun a' b ρ'=>bs_rens (zeros t) a' b ρ'
 have c3:=fun a' b c=>bs_okns (zeros t) a' b c
 have c4:=fun a'=>bs_names (zeros t) a'
 have l1:(Bs (zeros t)).length=t:=by rw [bs_len,zeros_len]
 have hx:t+1≤maxBytes:=by unfold maxBytes; omega
 simp only [S96z,zeros_succ,bs_app]
 generalize dv=D at *
 generalize zeros t=Z at *
 simp [cy96,Cd.nth,Cd.loops,Cd.body,htI,hw,o1,o2,p1,p2,c1,c2,c3,c4,l1,hx,okns_append,rens_append,namess_append,ht]
end
theorem getD_zeros (n j:Nat):(zeros n).getD j 0=0:=by
 unfold zeros
 by_cases h:j < n <;> simp [h]
theorem appy96 (c:List Int) (hc:Bit c) (hn:c.length≤900):app E false (.fn 96 []) [.int .i64 16,.int .u32 4129,.lst none false 1 (Bs (c++zeros 16))] []=some (.int .u32 (c.foldl feedI 0),emptyBag,[]):=by
 obtain ⟨a,haE⟩:∃ a,a=c++zeros 16:=⟨_,rfl⟩
 rw [← haE]
 have hal:a.length=c.length+16:=by rw [haE,List.length_append,zeros_len]
 have hab:Bit a:=by
  rw [haE]; intro x hx
  rcases List.mem_append.1 hx with h | h
  ·exact hc x h
  ·exact zeros_bit 16 x h
 obtain ⟨R,hR⟩:∃ R,R=zeros 16++a:=⟨_,rfl⟩
 obtain ⟨n,hnE⟩:∃ n,n=R.length:=⟨_,rfl⟩
 have hnl:n=c.length+32:=by rw [hnE,hR,List.length_append,zeros_len,hal]; omega
 have hRb:Bit R:=by
  rw [hR]; intro x hx
  rcases List.mem_append.1 hx with h | h
  ·exact zeros_bit 16 x h
  ·exact hab x h
 obtain ⟨X,hXE⟩:∃ X:Nat→Int,X=fun j=>R.getD j 0:=⟨_,rfl⟩
 have hX:∀ j,0≤X j∧X j < 2:=fun j=>by
  rw [hXE]
  simp only
  by_cases h:j < R.length
  ·rw [List.getD_eq_getElem?_getD,List.getElem?_eq_getElem h]; exact hRb _ (List.getElem_mem h)
  ·rw [List.getD_eq_getElem?_getD,List.getElem?_eq_none (by omega)]; simp
 have hRw0:Rw (gD X (remX X 0) 0) n=R:=by
  have h1:Rw X n=R:=by rw [hXE,hnE]; exact Rw_self R
  rw [← h1]
  refine Rw_ext fun j hj=>?_
  unfold gD
  rw [if_neg (by omega)]
  have:=hX j
  split
  ·simp only [remX]; simp; omega
  ·rfl
 obtain ⟨t,ht⟩:∃ t,t=c.length+16:=⟨_,rfl⟩
 have hrem:remX X t=c.foldl feedI 0:=by
  rw [hXE,remX_fold R t (by omega)]
  have:R.take t=zeros 16++c:=by
   rw [hR,haE,← List.append_assoc,ht]
   have:c.length+16=(zeros 16++c).length:=by rw [List.length_append,zeros_len]; omega
   rw [this]
   exact List.take_left
  rw [this,List.foldl_append,feed_zeros]
 have hρ:=remX_lt X t
 rw [hrem] at hρ
 have o1:=fun a' b c=>bs_okns dv a' b c
 have o2:=fun a' b ρ'=>bs_rens dv a' b ρ'
 have pa1:=fun a' b c=>bs_okns a a' b c
 have pa2:=fun a' b ρ'=>bs_rens a a' b ρ'
 have key0:maskSt [0,2,7,8,9] [] [] [8] ⟨[(9,.int .i64 0),(8,.slr 0 15 [] 0 0 1),(15,.slr 0 15 [] 0 0 1),(7,.lst none false 1 (Bs dv)),(14,.lst none false 1 (Bs dv)),(13,.int .u32 4129),(12,.int .i64 16),(6,.int .u32 0),(0,.int .i64 16),(1,.int .u32 4129),(2,.lst none false 1 (Bs a))],[],[(15,[])],[],[]⟩=some (S96z a 0):=by
  simp [S96z,o1,pa1,zeros]
 have hl0:=loopz a key0
 have S0:maskSt [0,7,8,10] [] [] [8] (S96o n (Rw (gD X (remX X 0) 0) n) 0)=some (S96o n (Rw (gD X (remX X 0) 0) n) 0):=by
  rw [hRw0]
  simp [S96o,o1,o2,bs_okns,bs_rens,bs_names]
 have e3:¬ ((t:Int)+16 < n):=by omega
 have w1:IntKind.i64.wrap ((t:Int)+16)=(t:Int)+16:=wrap_id _ (by omega) (by omega)
 have hend:(Bs (Rw (gD X (remX X t) t) n)).length=n:=by rw [bs_len,Rw_len]
 have hl1:=loop_eq (mask:=maskSt [0,7,8,10] [] [] [8]) (body:=Cd.run (app E) (cy96.body.nth 1)) (fun t=>S96o n (Rw (gD X (remX X t) t) n) t) t (fun u hu=>roundo X hX n (by omega) u (by omega)) (by simp [cy96,Cd.nth,Cd.loops,Cd.body,S96o,e3,w1]) S0
 have hl2:=loop_at S0 hl1
 rw [hRw0] at hl2
 have hnum:=appy130 [[(1000000000,Bs (Rw (gD X (remX X t) t) n))]] 0 1000000000 t (Bs (Rw (gD X (remX X t) t) n)) (by simp) (by rw [hend]; omega) (c.foldl feedI 0) hρ (fun k hk=>by
  have h1:t+k < n:=by omega
  simp only [encs,List.getElem?_map,Rw_get _ h1,Option.map_some,Option.some.injEq,PV.int.injEq,true_and]
  have hx0:X (t+k)=0:=by
   rw [hXE]
   have:R=(zeros 16++c)++zeros 16:=by rw [hR,haE,List.append_assoc]
   simp only [this]
   rw [List.getD_eq_getElem?_getD,List.getElem?_append_right (by rw [List.length_append,zeros_len]; omega),← List.getD_eq_getElem?_getD]
   exact getD_zeros _ _
  unfold gD
  rw [if_neg (by omega),if_pos (by omega),hx0,hrem,show t+k - t=k by omega]
  unfold p2
  omega)
 have h129:=appy129
 have h93:=appy93v [] a hab (by omega)
 have c1:=bs_cellI a
 have c3:=fun a' b c=>bs_okns a a' b c
 have c4:=fun a'=>bs_names a a'
 have z1:=bs_cellI (zeros 16)
 have z2:=fun a' b ρ'=>bs_rens (zeros 16) a' b ρ'
 have z3:=fun a' b c=>bs_okns (zeros 16) a' b c
 have z4:=fun a'=>bs_names (zeros 16) a'
 have l1:(Bs (zeros 16)).length=16:=by rw [bs_len,zeros_len]
 have l2:(Bs a).length=c.length+16:=by rw [bs_len,hal]
 have key1:maskSt [0,7,8,10] [] [] [8] ⟨[(10,.int .i64 0),(8,.slr 0 27 [] 0 (16+a.length) 1),(27,.slr 0 27 [] 0 (16+a.length) 1),(26,.lst none false 1 (Bs a)),(25,.lst none false 1 (Bs a)),(24,.slr 0 1000000000 [] 0 16 1),(18,.bool false),(17,.int .i64 16),(16,.int .i64 16),(0,.int .i64 16),(2,.lst none false 1 (Bs a)),(7,.lst none false 1 (Bs dv)),(8,.slr 0 1000000000 [] 0 16 1),(9,.int .i64 16)],[],[(27,Bs (zeros 16)++Bs a)],[1000000000],[]⟩=some (S96o n R 0):=by
  have e1:16+a.length=n:=by omega
  have e2:Bs (zeros 16)++Bs a=Bs R:=by rw [hR,bs_app]
  have q1:=fun a' b c=>bs_okns R a' b c
  have q2:=fun a' b ρ'=>bs_rens R a' b ρ'
  have q4:=fun a'=>bs_names R a'
  rw [e1,e2]
  simp only [S96o]
  generalize Bs R=RR at *
  simp [o1,q1,q2,q4]
 have hl3:=hl2 _ key1
 simp only [cy96,Cd.nth,Cd.loops,Cd.body,S96o,S96z,List.nil_append,List.append_nil,List.cons_append,List.getElem?_cons_succ,List.getElem?_cons_zero,Option.getD_some] at hl0 hl3
 have w2:IntKind.i64.wrap ((n:Int) - 16)=(t:Int):=by rw [wrap_id _ (by omega) (by omega)]; omega
 have e4:(t:Int)≤n:=by omega
 have e5:n - t=16:=by omega
 have hx:16+a.length≤maxBytes:=by unfold maxBytes; omega
 have hb2:a.length≤9223372036854775807:=by omega
 obtain ⟨v,a1,hav⟩:∃ v a1,a=v::a1:=by
  match a,hal with
  | x::a1,_=>exact ⟨_,_,rfl⟩
  | [],hal=>simp at hal
 have hcons:Bs a=.int .u8 v::Bs a1:=by rw [hav]; rfl
 have f1:=bs_cells a1
 have t1:=bs_cellI a1
 have t2:=fun a' b c=>bs_okns a1 a' b c
 have t3:=fun a' b ρ'=>bs_rens a1 a' b ρ'
 have t4:=fun a'=>bs_names a1 a'
 have t5:=fun a'=>bs_deps a1 a'
 have t6:=bs_cellI2 a1
 have l3:(Bs a1).length=c.length+15:=by rw [bs_len]; rw [hav,List.length_cons] at hal; omega
 rw [hal] at hx hb2 hl3
 rw [app_fn E rfl hy96 rfl]
 simp only [hcons] at h93 hl0 hl3 ⊢
 generalize Bs a1=T at *
 generalize Rw (gD X (remX X t) t) n=RF at *
 generalize c.foldl feedI 0=ρ at *
 generalize Bs RF=RFB at *
 generalize dv=D at *
 simp [cy96,h129,hl0,h93,hl3,hnum,o1,o2,t1,t2,t3,t4,t5,t6,l3,z1,z2,z3,z4,l1,l2,e3,e4,e5,w1,w2,hx,hb2,hal,f1]
theorem bitsW_zero (w:Nat):bitsW w 0=zeros w:=by
 apply List.ext_getElem
 ·rw [bitsW_len,zeros_len]
 ·intro i h1 h2
  simp [bitsW,zeros]
theorem zeros_add (n m:Nat):zeros n++zeros m=zeros (n+m):=by simp [zeros,List.replicate_append_replicate]
theorem appy55 (b:List Int) (hb:Bit b) (hn:b.length≤800):app E false (.fn 55 []) [.int .i64 16,.int .u32 4129,.int .u32 0,.lst none false 1 (Bs b)] []=some (.int .u32 (b.foldl feedI 0),emptyBag,[]):=by
 have h93:=appy93r [[]] b hb (by omega)
 have h94:app E false (.fn 94 []) [.int .i64 16] []=_:=appy94 16 (by omega)
 have h94b:=appy94 b.length (by omega)
 have hbit:Bit (b++zeros 16):=by
  intro x hx
  rcases List.mem_append.1 hx with h | h
  ·exact hb x h
  ·exact zeros_bit 16 x h
 have hal:(b++zeros 16).length=b.length+16:=by rw [List.length_append,zeros_len]
 have h95:app E false (.fn 95 []) [.int .u32 0,.int .i64 16] _=_:=appy95 [[(15,Bs (b++zeros 16))]] 16 (by omega) 0 (by omega)
 rw [bitsW_zero] at h95
 have h97:=appy97 [[(15,Bs (b++zeros 16))]] (b++zeros 16) hbit (by omega) (lv:=0) (sl:=15) (by simp)
 rw [hal] at h97
 have h96:=appy96 b hb (by omega)
 have hcons:Bs (zeros 16)=.int .u8 0::Bs (zeros 15):=rfl
 have b1:=bs_cellI b
 have b2:=fun a' c d=>bs_okns b a' c d
 have b3:=fun a' c ρ'=>bs_rens b a' c ρ'
 have b4:=fun a'=>bs_names b a'
 have b5:=fun a'=>bs_deps b a'
 have lb:=bs_len b
 have z1:=bs_cellI (zeros 15)
 have z6:=bs_cellI2 (zeros 15)
 have z7:=bs_cells (zeros 15)
 have l15:(Bs (zeros 15)).length=15:=by rw [bs_len,zeros_len]
 have l16:(Bs (zeros 16)).length=16:=by rw [bs_len,zeros_len]
 have ln:(Bs (zeros b.length)).length=b.length:=by rw [bs_len,zeros_len]
 have hx:b.length+16≤maxBytes:=by unfold maxBytes; omega
 have hx2:16+b.length≤maxBytes:=by unfold maxBytes; omega
 have hadd:Bs (zeros 16)++Bs (zeros b.length)=Bs (zeros (b.length+16)):=by rw [← bs_app,zeros_add,Nat.add_comm]
 have happ:Bs b++.int .u8 0::Bs (zeros 15)=Bs (b++zeros 16):=by rw [bs_app,hcons]
 have y1:=fun a' c d=>bs_okns (b++zeros 16) a' c d
 have y5:=fun a'=>bs_deps (b++zeros 16) a'
 have zz:=fun a' c d=>bs_okns (zeros (b.length+16)) a' c d
 rw [app_fn E rfl hy55 rfl]
 generalize Bs (zeros (b.length+16))=ZN at *
 generalize Bs (b++zeros 16)=Y at *
 simp only [hcons] at h94
 generalize Bs (zeros 15)=Z at *
 generalize Bs (zeros b.length)=ZB at *
 generalize b.foldl feedI 0=ρ at *
 simp [cy55,h93,h94,h94b,h95,h97,h96,b1,b2,b3,b4,b5,lb,z1,z6,z7,l15,l16,ln,hx,hx2,hadd,happ,y1,y5,zz,bagName,PV.retag,PV.retag1]
theorem fold_bits (b:List Int):∀ r,(b.flatMap bits8).foldl feedI r=b.foldl byteI r:=by
 induction b with
 | nil=>intro r; rfl
 | cons x b ih=>intro r; rw [List.flatMap_cons,List.foldl_append,ih,List.foldl_cons]; rfl
theorem fb_bit (b:List Int):Bit (b.flatMap bits8):=by
 intro x hx
 obtain ⟨n,_,h⟩:=List.mem_flatMap.1 hx
 simp only [bits8,List.mem_cons,List.not_mem_nil,or_false] at h
 rcases h with rfl | rfl | rfl | rfl | rfl | rfl | rfl | rfl <;> omega
theorem appy29 (b:List Int) (hb:OkB b) (hn:b.length≤100):app E false (.fn 29 []) [.lst none false 1 (Bs b)] []=some (.int .i64 (crcI b),emptyBag,[]):=by
 have h56:=appy56 b hb (by omega)
 have h55:=appy55 (b.flatMap bits8) (fb_bit b) (by rw [fb_len]; omega)
 rw [fold_bits] at h55
 have h55:app E false (.fn 55 []) [.int .i64 16,.int .u32 4129,.int .u32 0,.lst none false 1 (Bs (b.flatMap bits8))] []=some (.int .u32 (crcI b),emptyBag,[]):=h55
 have hlt:=crc_lt b
 have hw:IntKind.i64.wrap (crcI b)=crcI b:=wrap_id _ (by omega) (by omega)
 have b1:=bs_deps b
 have b2:=bs_deps (b.flatMap bits8)
 rw [app_fn E rfl hy29 rfl]
 generalize crcI b=c at *
 generalize Bs (b.flatMap bits8)=Y at *
 simp [cy29,h56,h55,hw,b1,b2]
section
variable (f:Nat→Int) (hfb:∀ j,j < 6→f j < 9223372036854775808)
include hfb in
theorem appy9:app E false (.fn 9 []) [.agg (CF f 30)] []=some (.tup [.int .i64 (signA f).1,.int .i64 (signA f).2],emptyBag,[]):=by
 have h7:=appx57 f hfb
 unfold signA
 cases hb:tabB f with
 | none =>
  rw [hb] at h7
  simp only [blO] at h7
  rw [app_fn E rfl hy9 rfl]
  simp [-isPlace,-moves,cy9,h7]
 | some b =>
  rw [hb] at h7
  simp only [blO] at h7
  obtain ⟨ho,hl⟩:=tab_okB hb
  have h29:=appy29 b ho (by omega)
  have hd:=bs_deps b
  rw [app_fn E rfl hy9 rfl]
  simp [-isPlace,-moves,cy9,h7,h29,hd]
end
section
variable {r:RD} (hr:r.ok) (hk:skel r=skel rAll)
include hr in
theorem appy78 (k:Nat) (h4:k < 4):app E false (.fn 78 []) [r.pv,.int .i64 (k:Int)] []=some (.tup [.int .i64 (numR r 5119 ((k:Int)+1)).1,.bool (numR r 5119 ((k:Int)+1)).2],emptyBag,[]):=by
 have e1:=app32 r hr 5119 ((k:Int)+1)
 have hw:IntKind.i64.wrap ((k:Int)+1)=(k:Int)+1:=wrap_id _ (by omega) (by omega)
 have k0:¬ (k:Int) < 0:=by omega
 have k4:¬ (3:Int) < (k:Int):=by omega
 have g2:=fun a=>es_deps r.l a
 simp only [RD.pv,El,rd] at *
 generalize (numR r 5119 ((k:Int)+1)).1=w1 at *
 generalize (numR r 5119 ((k:Int)+1)).2=w2 at *
 generalize Es r.l=LA at *
 rw [app_fn E rfl hy78 rfl]
 simp [cy78,k0,k4,hw,e1,g2]
def S39f (r:RD) (F:List Int) (t:Nat):St:=⟨[(1,.ptr 0 1 [] 0),(3,.lst (some 11) false 1 (Is F)),(4,.int .i64 t)],[(11,F.length,3)],[(1,[El r.nl r.l,.int .i64 r.c])],[],[]⟩
include hr hk in
theorem num_there (k:Nat) (h4:k < 4):(numR r 5119 ((k:Int)+1)).2=true:=by
 have h:=List.all_eq_true.1 keys_all k (List.mem_range.2 h4)
 simp only [Bool.and_eq_true] at h
 exact isK_num hk hr h.2.2.2
include hr hk in
theorem chF_lt (k:Nat) (h4:k < 4):∀ j,j < 6→chF r k j < 9223372036854775808:=by
 obtain ⟨b0,b1,b2,b3,b4,b5⟩:=load_bounds hk hr h4
 intro j hj
 rcases (by omega:j=0∨j=1∨j=2∨j=3∨j=4∨j=5) with rfl | rfl | rfl | rfl | rfl | rfl <;> omega
set_option maxHeartbeats 1000000 in
include hr hk in
theorem round39 (t:Nat) (ht:t < 4):Goes (maskSt [1,3,4] [1] [11] []) (S39f r (faultsA r (t+1)) (t+1)) (Cd.run (app E) cy39.body.inner.body (S39f r (faultsA r t) t)):=by
 have htI:(t:Int) < 4:=by omega
 have hw:=wrap_succ t (by omega)
 have h17:=load_c hr hk t ht
 have h78:=appy78 hr t ht
 have h9:=appy9 (chF r t) (chF_lt hr hk t ht)
 have h35:=appx30 hr (chF r t)
 have hnt:=num_there hr hk t ht
 have g2:=fun a=>es_deps r.l a
 have g3:=fun a b c=>es_okns r.l a b c
 have z:=CF_zero30
 have k0:=CF_get (chF r t) 30 (k:=0) (by omega)
 have hx:(faultsA r t).length+1≤17592186044416:=by have:=faults_len r t; omega
 have hx2:((faultsA r t).length+1) * 8≤maxBytes:=by have:=faults_len r t; unfold maxBytes; omega
 have hl:(Is (faultsA r t)).length=(faultsA r t).length:=by simp [encs]
 have ho:=fun a b c=>is_okns (faultsA r t) a b c
 simp only [RD.pv,El,rd] at *
 rw [faults_succ]
 by_cases hz:chF r t 0=0
 ·have ha:apprA r t=true:=by unfold apprA; simp [hz]
  rw [if_pos ha]
  simp only [S39f,El]
  generalize Es r.l=LA at *
  generalize Is (faultsA r t)=FA at *
  generalize (faultsA r t).length=fl at *
  generalize chF r t=g at *
  simp [-isPlace,-moves,cy39,Cd.inner,Cd.body,← z,htI,hw,h17,k0,hz,ho,g2,g3]
 ·have k0':(chF r t 0 == 0)=false:=by simpa using hz
  have hap:apprA r t=(fitsC r (chF r t) && (((signA (chF r t)).2 == 0) && ((numR r 5119 ((t:Int)+1)).1 == (signA (chF r t)).1))):=by
   unfold apprA; rw [hnt,k0']; simp
  rw [hap]
  simp only [S39f,El]
  obtain ⟨s0,_,_⟩:=sign_ok hk hr ht
  rw [s0] at h9 ⊢
  simp only [hnt] at h78
  generalize Es r.l=LA at *
  generalize hFA:Is (faultsA r t)=FA at *
  have happ:Is (faultsA r t++[(t:Int)])=FA++[.int .i64 (t:Int)]:=by rw [← hFA]; simp [encs]
  have hlen:(faultsA r t++[(t:Int)]).length=(faultsA r t).length+1:=by simp
  generalize fitsC r (chF r t)=fc at *
  generalize (numR r 5119 ((t:Int)+1)).1=w1 at *
  generalize (signA (chF r t)).1=s1 at *
  generalize chF r t=g at *
  cases fc with
  | false =>
   simp only [Bool.false_and,Bool.false_eq_true,if_false,hlen,happ]
   generalize (faultsA r t).length=fl at *
   simp [-isPlace,-moves,cy39,Cd.inner,Cd.body,← z,htI,hw,h17,h78,h9,h35,k0,k0',hz,ho,g2,g3,hx2,hl,okns_append]
  | true =>
   cases he:(w1 == s1) with
   | true =>
    have he':w1=s1:=eq_of_beq he
    have hne:(w1 != s1)=false:=by simp [he']
    simp only [Bool.true_and,beq_self_eq_true,if_true]
    generalize (faultsA r t).length=fl at *
    simp [-isPlace,-moves,cy39,Cd.inner,Cd.body,← z,htI,hw,h17,h78,h9,h35,k0,k0',hz,ho,g2,g3,hx2,hl,hFA,hne,okns_append]
   | false =>
    have hne:(w1 != s1)=true:=by simp [bne,he]
    simp only [Bool.true_and,beq_self_eq_true,Bool.false_eq_true,if_false,hlen,happ]
    generalize (faultsA r t).length=fl at *
    simp [-isPlace,-moves,cy39,Cd.inner,Cd.body,← z,htI,hw,h17,h78,h9,h35,k0,k0',hz,ho,g2,g3,hx2,hl,hFA,hne,okns_append]
include hr hk in
theorem appy39:app E false (.fn 39 []) [r.pv] []=some (.lst none false 1 (Is (faultsA r 4)),emptyBag,[]):=by
 have g2:=fun a=>es_deps r.l a
 have g3:=fun a b c=>es_okns r.l a b c
 have hS0:maskSt [1,3,4] [1] [11] [] (S39f r (faultsA r 0) 0)=some (S39f r (faultsA r 0) 0):=by simp [S39f,faultsA,g3]
 have hl:=loop_eq (mask:=maskSt [1,3,4] [1] [11] []) (body:=Cd.run (app E) cy39.body.inner.body) (fun t=>S39f r (faultsA r t) t) 4 (fun t ht=>round39 hr hk t ht) (by simp [cy39,Cd.inner,Cd.body,S39f]) hS0
 have key:maskSt [1,3,4] [1] [11] [] ⟨[(4,.int .i64 0),(3,.lst (some 11) false 1 []),(11,.lst (some 11) false 1 []),(2,.lst none true 1 []),(1,.ptr 0 1 [] 0),(0,r.pv)],[(11,0,3)],[(1,[El r.nl r.l,.int .i64 r.c])],[],[]⟩=some (S39f r (faultsA r 0) 0):=by
  simp [S39f,faultsA,g3]
 have hl2:=loop_at hS0 hl _ key
 simp only [cy39,Cd.inner,Cd.body,S39f] at hl2
 have ho:=fun a b c=>is_okns (faultsA r 4) a b c
 rw [app_fn E rfl hy39 rfl]
 simp only [RD.pv,El,rd] at *
 generalize (faultsA r 4).length=fl at *
 generalize Is (faultsA r 4)=FA at *
 generalize Es r.l=LA at *
 simp [cy39,hl2,g2,g3,ho]
include hr hk in
theorem appy16:app E false (.fn 16 []) [r.pv] []=some (.bool (goodA r),emptyBag,[]):=by
 have h38:=appx23 r hr
 have h39:=appy39 hr hk
 have hg:=faults_good r
 have hl:(Is (faultsA r 4)).length=(faultsA r 4).length:=by simp [encs]
 have g2:=fun a=>es_deps r.l a
 unfold goodA
 rw [← hg]
 rw [app_fn E rfl hy16 rfl]
 simp only [RD.pv,El,rd] at *
 generalize (faultsA r 4).length=fl at *
 generalize Is (faultsA r 4)=FA at *
 generalize Es r.l=LA at *
 cases hf:flagA r <;> rw [hf] at h38 <;> simp [cy16,h38,h39,hl,g2]
end
def S13a (r:RD) (t:Nat):St:=⟨[(1,.ptr 0 1 [] 0),(2,.ptr 0 2 [] 0),(4,.int .i64 t)],[],[(1,[El r.nl r.l,.int .i64 r.c]),(2,[.lst none true 7 [],.int .i64 0])],[],[]⟩
def S13b (r:RD) (t:Nat):St:=⟨[(1,.ptr 0 1 [] 0),(2,.ptr 0 2 [] 0),(7,.int .i64 t)],[],[(1,[El r.nl r.l,.int .i64 r.c]),(2,[.lst none true 7 [],.int .i64 0])],[],[]⟩
def S13c (r:RD) (t:Nat):St:=⟨[(1,.ptr 0 1 [] 0),(2,.ptr 0 2 [] 0),(10,.int .i64 t)],[],[(1,[El r.nl r.l,.int .i64 r.c]),(2,[.lst none true 7 [],.int .i64 0])],[],[]⟩
theorem chF_seal (r:RD) (t k:Nat) (h4:k < 4):chF (sealR r t) k=chF r k:=chF_congr (fun s=>seal_other r t (by omega) s) (fun s=>seal_other r t (by omega) s)
section
variable {l:List Row} {c:Int} {r:RD} (hs:Sim l c r) (hk:skel r=skel rAll)
include hs hk in
theorem round13a (t:Nat) (ht:t < 4):Goes (maskSt [1,2,4] [1,2] [] []) (S13a r (t+1)) (Cd.run (app E) (cy13.body.nth 0) (S13a r t)):=by
 have htI:(t:Int) < 4:=by omega
 have hw:=wrap_succ t (by omega)
 have h17:=load_c hs.rok hk t ht
 have g2:=fun a=>es_deps r.l a
 have g3:=fun a b c=>es_okns r.l a b c
 have z:=CF_zero30
 simp only [RD.pv,El,rd,S13a] at *
 generalize Es r.l=LA at *
 generalize chF r t=g at *
 simp [-isPlace,-moves,cy13,Cd.nth,Cd.loops,Cd.body,← z,htI,hw,h17,g2,g3]
include hs hk in
theorem loop13b {st:St} (h0:maskSt [1,2,7] [1,2] [] [] st=some (S13b r 0)) :
  ∃ e st',loopW (maskSt [1,2,7] [1,2] [] []) (Cd.run (app E) (cy13.body.nth 1)) st=some (e,st')∧e≠.normal∧st'.m=[]∧st'.tops=[] ∧
   ((e=.exit 2∧fitsAll r 4=true∧get st'.f 1=some (.ptr 0 1 [] 0)∧get st'.f 2=some (.ptr 0 2 [] 0)∧st'.own=(S13b r 0).own)∨(e=.ret∧fitsAll r 4=false∧get st'.f 2=some (.ptr 0 2 [] 0)∧get st'.f 3=some (.int .i64 14)∧get st'.own 2=some [El r.nl r.l,.int .i64 r.c])):=by
 refine loop_inv (fun t S=>fitsAll r t=true∧S=S13b r t) 4 _ h0 ⟨rfl,rfl⟩ ?_ ?_
 ·rintro t S ht ⟨hall,rfl⟩
  have htI:(t:Int) < 4:=by omega
  have hw:=wrap_succ t (by omega)
  have h17:=load_c hs.rok hk t ht
  have h35:=appx30 hs.rok (chF r t)
  have hfs:=fits_succ r t
  have g2:=fun a=>es_deps r.l a
  have g3:=fun a b c=>es_okns r.l a b c
  have z:=CF_zero30
  rw [hall,Bool.true_and] at hfs
  cases hf:fitsC r (chF r t) with
  | true =>
   rw [hf] at hfs h35
   have hG:Goes (maskSt [1,2,7] [1,2] [] []) (S13b r (t+1)) (Cd.run (app E) (cy13.body.nth 1) (S13b r t)):=by
    simp only [RD.pv,El,rd,S13b] at *
    generalize Es r.l=LA at *
    generalize chF r t=g at *
    simp [-isPlace,-moves,cy13,Cd.nth,Cd.loops,Cd.body,← z,htI,hw,h17,h35,g2,g3]
   obtain ⟨st2,p1,p2⟩:=hG.get
   exact .inl ⟨st2,_,p1,p2,hfs,rfl⟩
  | false =>
   rw [hf] at hfs h35
   have hall4:fitsAll r 4=false:=by
    cases h4:fitsAll r 4 with
    | false=>rfl
    | true =>
     have:=(fitsAll_iff r).1 h4 t ht
     rw [hf] at this; cases this
   refine .inr ?_
   simp only [RD.pv,El,rd,S13b] at *
   generalize Es r.l=LA at *
   generalize chF r t=g at *
   simp [-isPlace,-moves,cy13,Cd.nth,Cd.loops,Cd.body,← z,htI,hw,h17,h35,g2,g3,EndsL,hall4]
 ·rintro S ⟨hall,rfl⟩
  simp [cy13,Cd.nth,Cd.loops,Cd.body,S13b,EndsL,hall]
include hs hk in
theorem round13c (t:Nat) (ht:t < 4):Goes (maskSt [1,2,10] [1,2] [] []) (S13c (sealR r (t+1)) (t+1)) (Cd.run (app E) (cy13.body.nth 2) (S13c (sealR r t) t)):=by
 have htI:(t:Int) < 4:=by omega
 have hw:=wrap_succ t (by omega)
 obtain ⟨l1,c1,h1⟩:=seal_sim hs t
 have hk1:skel (sealR r t)=skel rAll:=by rw [seal_skel,hk]
 have h17:=load_c h1.rok hk1 t ht
 have h9:=appy9 (chF (sealR r t) t) (chF_lt h1.rok hk1 t ht)
 rw [chF_seal r t t ht] at h17 h9
 have h36:=app94 (sealR r t) h1.rok 5119 ((t:Int)+1) (signA (chF r t)).1
 rw [← seal_succ] at h36
 have g2:=fun a=>es_deps (sealR r t).l a
 have g3:=fun a b c=>es_okns (sealR r t).l a b c
 have g5:=fun a b c=>es_okns (sealR r (t+1)).l a b c
 have g6:=fun a=>es_deps (sealR r (t+1)).l a
 have z:=CF_zero30
 have q1:(t:Int)+1≤9223372036854775807:=by omega
 simp only [RD.pv,El,rd,S13c] at *
 generalize sealR r (t+1)=r2 at *
 generalize sealR r t=r1 at *
 generalize setC r1 5119 ((t:Int)+1) (signA (chF r t)).1=e at *
 generalize (signA (chF r t)).1=s1 at *
 generalize (signA (chF r t)).2=s2 at *
 generalize Es r1.l=LA at *
 generalize Es r2.l=LB at *
 generalize chF r t=g at *
 simp [-isPlace,-moves,cy13,Cd.nth,Cd.loops,Cd.body,← z,htI,hw,h17,h9,h36,g2,g3,g5,g6]
include hs hk in
theorem appy13:∃ e,app E false (.fn 13 []) [r.pv] []=some (.tup [(sealA r).pv,.int .i64 e],emptyBag,[]):=by
 have g2:=fun a=>es_deps r.l a
 have g3:=fun a b c=>es_okns r.l a b c
 have hSa:maskSt [1,2,4] [1,2] [] [] (S13a r 0)=some (S13a r 0):=by simp [S13a,g3]
 have hla:=loop_at hSa (loop_eq (mask:=maskSt [1,2,4] [1,2] [] []) (body:=Cd.run (app E) (cy13.body.nth 0)) (S13a r) 4 (fun t ht=>round13a hs hk t ht) (by simp [cy13,Cd.nth,Cd.loops,Cd.body,S13a]) hSa)
 have hSb:maskSt [1,2,7] [1,2] [] [] (S13b r 0)=some (S13b r 0):=by simp [S13b,g3]
 obtain ⟨e,⟨f',tops',own',dead',m'⟩,q1,q2,q3,q4,q5⟩:=loop13b hs hk hSb
 have hlb:=loop_at hSb q1
 simp only at q3 q4 q5
 subst q3; subst q4
 simp only [cy13,Cd.nth,Cd.loops,Cd.body,S13a,S13b,List.nil_append,List.append_nil,List.cons_append,List.getElem?_cons_succ,List.getElem?_cons_zero,Option.getD_some] at hla hlb
 rcases q5 with ⟨rfl,hf,f1,f2,ho⟩ | ⟨rfl,hf,f2,f3,ho⟩
 ·obtain ⟨l1,c1,h1⟩:=seal_sim hs 4
  have h15:=appx17 (sealR r 4) h1.rok true
  refine ⟨setC (sealR r 4) 5118 0 (onN true),?_⟩
  have hsl:sealA r=setfA (sealR r 4) true:=by rw [sealA,if_pos hf]
  rw [hsl]
  have hSc:maskSt [1,2,10] [1,2] [] [] (S13c (sealR r 0) 0)=some (S13c (sealR r 0) 0):=by
   have g3':=fun a b c=>es_okns (sealR r 0).l a b c
   simp [S13c,g3']
  have hlc:=loop_at hSc (loop_eq (mask:=maskSt [1,2,10] [1,2] [] []) (body:=Cd.run (app E) (cy13.body.nth 2)) (fun t=>S13c (sealR r t) t) 4 (fun t ht=>round13c hs hk t ht) (by simp [cy13,Cd.nth,Cd.loops,Cd.body,S13c]) hSc)
  have hr0:sealR r 0=r:=rfl
  simp only [cy13,Cd.nth,Cd.loops,Cd.body,S13c,hr0,List.nil_append,List.append_nil,List.cons_append,List.getElem?_cons_succ,List.getElem?_cons_zero,Option.getD_some] at hlc
  have h2:=fun a=>es_deps (sealR r 4).l a
  have h3:=fun a b c=>es_okns (sealR r 4).l a b c
  have h4:=fun a b c=>es_okns (setfA (sealR r 4) true).l a b c
  have h5:=fun a=>es_deps (setfA (sealR r 4) true).l a
  generalize setC (sealR r 4) 5118 0 (onN true)=e at *
  generalize setfA (sealR r 4) true=r5 at *
  generalize sealR r 4=r4 at *
  subst ho
  simp only [S13b] at hlb
  simp only [RD.pv,El,rd] at *
  generalize Es r.l=LA at *
  generalize Es r4.l=LB at *
  generalize Es r5.l=LC at *
  rw [app_fn E rfl hy13 rfl]
  simp [cy13,hla,hlb,hlc,f1,f2,h15,g2,g3,h2,h3,h4,h5]
 ·refine ⟨14,?_⟩
  have hsl:sealA r=r:=by rw [sealA,if_neg (by rw [hf]; decide)]
  rw [hsl]
  simp only [RD.pv,El,rd] at *
  generalize Es r.l=LA at *
  rw [app_fn E rfl hy13 rfl]
  simp [cy13,hla,hlb,f2,f3,ho,g2,g3]
end
def rd43:Rd:=cy43.rds[0]!
section
variable {σ:Type} (M:σ→Mem) (N:Nat) (hN:∀ s,(M s).length=N) {lv a a' ver:Nat} {l:List Row} {c:Int} (hd:∀ s,DA (M s) lv a a' ver l c) {r:RD} (hs:Sim l c r) (hk:skel r=skel rAll) (hg:goodA r=true) (f0:FuncId) (i0:Nat) (fs0:List Nat) (cap0:List PV) (lv0 j0:Nat) (hlv0:lv0 < N) (hcap:∀ n ks ts,N≤n→PV.okns n ks ts cap0=true)
 (J:Nat→σ→Prop) (Stop:σ→Prop)
 (hyld:∀ (k:Nat),k < 4→∀ (s:σ) (o1 o2 o3:Lvl),chF r k 0≠0→J k s→∃ b s',app E false (.rnd f0 i0 fs0 cap0 lv0 j0) [.int .i64 (k:Int),.agg (CF (chF r k) 30)] (o3::o2::o1::M s)=some (.bool b,emptyBag,o3::o2::o1::M s')∧(if b=true then J (k+1) s' else Stop s'))
 (hskip:∀ (k:Nat),k < 4→∀ (s:σ),chF r k 0=0→J k s→J (k+1) s)
def oA (lv a:Nat) (f0:FuncId) (i0:Nat) (fs0:List Nat) (cap0:List PV) (lv0 j0:Nat) (q:Nat):Lvl:=[(500000000,[.lrec q]),(10000,[.ptr lv a [] 0]),(2,[.rnd f0 i0 fs0 cap0 lv0 j0])]
include hN hd hs hk hg hlv0 hcap hyld hskip in
theorem appy43_yes (s:σ) (hJ:J 0 s) (lvb sb:Nat) (hb:∀ s,mget (M s) lvb sb []=some [.ptr lv a [] 0]) :
  ∃ s',(J 4 s'∨Stop s')∧app E false (.fn 43 [.ptr lvb sb [] 0]) [.rnd f0 i0 fs0 cap0 lv0 j0] (M s)=some (.tup [],emptyBag,M s'):=by
 have q1:lvb≠N:=by have:=mget_lt (hb s); rw [hN] at this; omega
 have q2:lv < N:=by have:=(hd s).lv_lt; rw [hN] at this; omega
 have q3:lv≠N:=by omega
 have q4:lv0≠N:=by omega
 have hc1:=hcap N [] [] (Nat.le_refl _)
 have hc2:=hcap (N+1) [] [] (by omega)
 have hc3:=hcap (N+1+1) [] [] (by omega)
 have n1:N≠N+1+1:=by omega
 have n2:lv≠N+1:=by omega
 have n3:lv0≠N+1:=by omega
 have n4:lv0≠N+1+1:=by omega
 have n5:lv≠N+1+1:=by omega
 obtain ⟨⟨s',q⟩,g1,g2⟩:=@appx89 (σ × Nat) (fun p=>oA lv a f0 i0 fs0 cap0 lv0 j0 p.2::M p.1) (N+1) (fun p=>by simp [hN]) lv a a' ver l c (fun p=>(hd p.1).cons _) r hs hk 43 0 [2] [.ptr N 2 [] 0] N 500000000 (by omega)
  (fun n ks ts h=>by
   have:N≠n:=by omega
   simp [this])
  (fun k p=>J k p.1∧p.2=0) (fun p=>Stop p.1∧p.2=2)
  (fun k hk4 p o1 hne hJ=>by
   obtain ⟨s1,q⟩:=p
   obtain ⟨hJ1,e1⟩:=hJ
   simp only at hJ1 e1
   subst e1
   have hNs:=hN s1
   obtain ⟨b,s2,y1,y2⟩:=hyld k hk4 s1 (oA lv a f0 i0 fs0 cap0 lv0 j0 1) o1 [(4,CF (chF r k) 30)] hne hJ1
   have hNs2:=hN s2
   refine ⟨b,(s2,if b=true then 0 else 2),?_,by cases b <;> simp_all⟩
   have z:=CF_zero30
   rw [app_rnd E hy43 (rd:=rd43) rfl (by simp [rd43,cy43,oA,hNs])]
   simp only [oA] at *
   generalize chF r k=gk at *
   cases b <;> simp [-isPlace,-moves,rd43,cy43,← z,hNs,hNs2,y1,q4,n1,n3,n4,hc1,hc2,hc3])
  (fun k hk4 p hz hJ=>⟨hskip k hk4 p.1 hz hJ.1,hJ.2⟩)
  (s,0) ⟨hJ,rfl⟩ N 10000 (fun p=>by simp [oA,hN])
 have hNs:=hN s
 have hNs':=hN s'
 have h19:=appx126 ((hd s).cons [(2,[.rnd f0 i0 fs0 cap0 lv0 j0])]) hs hk
 rw [hg] at h19
 have h44:=appx27 ([(2,[.rnd f0 i0 fs0 cap0 lv0 j0])]::M s) lv a (by simp [hNs]; omega)
 have hb1:=hb s
 simp only [oA] at g2
 rcases g1 with ⟨e1,e2⟩ | ⟨e1,e2⟩ <;> simp only at e1 e2 <;> subst e2
 ·refine ⟨s',.inl e1,?_⟩
  rw [app_fn E rfl hy43 rfl]
  simp [cy43,hNs,hNs',q1,q3,q4,hb1,h19,h44,g2,hc1,hc2,n1,n2,n3,bagName,PV.retag,PV.retag1]
 ·refine ⟨s',.inr e1,?_⟩
  rw [app_fn E rfl hy43 rfl]
  simp [cy43,hNs,hNs',q1,q3,q4,hb1,h19,h44,g2,hc1,hc2,n1,n2,n3,bagName,PV.retag,PV.retag1]
end
def rd4:Rd:=(cy4.rds[0]?).getD ⟨[],[],.skip,.skip⟩
def own4 (r:RD) (ver:Nat) (rows:List Row) (c:Int) (q:Nat) (n:Nat) (last:Int) (b:Bool):Lvl:=[(500000000,[.lrec q]),(63000,[.ptr 0 1000000000 [] 0]),(14,[.int .i64 last]),(13,[.int .i64 n]),(6,[.bool b]),(8,[El r.nl r.l,.int .i64 r.c]),(1000000000,[.ptr 0 1000000001 [] 0,.int .i64 c]),(1000000001,[shC ver rows])]
def caps4:List PV:=[.ptr 0 6 [] 0,.ptr 0 8 [] 0,.ptr 0 13 [] 0,.ptr 0 14 [] 0]
def cnt (r:RD) (t:Nat):Nat:=((List.range t).filter fun k=>chF r k 0 != 0).length
theorem cnt_succ (r:RD) (t:Nat):cnt r (t+1)=if chF r t 0=0 then cnt r t else cnt r t+1:=by
 unfold cnt
 rw [List.range_succ,List.filter_append,List.length_append]
 by_cases h:chF r t 0=0
 ·simp [h]
 ·rw [if_neg h]; simp [h]
theorem cnt_le (r:RD) (t:Nat):cnt r t≤t:=Nat.le_trans (List.length_filter_le _ _) (by simp)
section
variable {r:RD} (hr:r.ok) (hk:skel r=skel rAll) (ver:Nat) (rows:List Row) (c:Int)
include hr hk in
set_option maxHeartbeats 1000000 in
theorem rnd4 (n k:Nat) (hk4:k < 4) (hn:n≤4) (last:Int) (hlast:last < k) (o1 o2 o3:Lvl) (hne:chF r k 0≠0) :
  app E false (.rnd 4 0 [6,8,13,14] caps4 0 500000000) [.int .i64 (k:Int),.agg (CF (chF r k) 30)] (o3::o2::o1::[own4 r ver rows c 0 n last false])=some (.bool true,emptyBag,o3::o2::o1::[own4 r ver rows c 0 (n+1) k false]):=by
 have z:=CF_zero30
 have hwn:=wrap_succ n (by omega)
 have hc:=load_c hr hk k hk4
 have hlt:¬ (k:Int)≤last:=by omega
 have g4:=fun a=>es_deps r.l a
 have g5:=fun a b c=>es_okns r.l a b c
 have hne':(chF r k 0 == 0)=false:=by simpa using hne
 rw [app_rnd E hy4 (rd:=rd4) rfl (by simp [rd4,cy4,own4,caps4])]
 simp only [own4,caps4,RD.pv,El,rd] at *
 generalize chF r k=gk at *
 generalize Es r.l=L0 at *
 generalize shC ver rows=SS at *
 simp [-isPlace,-moves,rd4,cy4,← z,hlt,hc,hne',hwn,g4,g5]
def S4w (r:RD) (ver:Nat) (rows:List Row) (c:Int) (t:Nat):St:=⟨[(6,.ptr 0 6 [] 0),(7,.ptr 0 1000000000 [] 0),(8,.ptr 0 8 [] 0),(9,.int .i64 (cnt r t)),(10,.int .i64 t)],[],[(6,[.bool false]),(8,[El r.nl r.l,.int .i64 r.c]),(1000000000,[.ptr 0 1000000001 [] 0,.int .i64 c]),(1000000001,[shC ver rows])],[],[]⟩
include hr hk in
set_option maxHeartbeats 1000000 in
theorem loop4_yes (hg:goodA r=true) {st:St} (h0:maskSt [6,7,8,9,10] [6,8] [] [7] st=some (S4w r ver rows c 0)):loopW (maskSt [6,7,8,9,10] [6,8] [] [7]) (Cd.run (app E) (cy4.body.nth 0)) st=Cd.run (app E) (cy4.body.nth 0) (S4w r ver rows c 4):=by
 have h16:=appy16 hr hk
 rw [hg] at h16
 have g4:=fun a=>es_deps r.l a
 have g5:=fun a b c=>es_okns r.l a b c
 have g6:=fun a b ρ=>es_rens r.l a b ρ
 have s1:=fun lv=>shC_names lv ver rows
 have s2:=fun a b ρ=>shC_ren a b ρ ver rows
 have s3:=fun a ks ts=>shC_okn a ks ts ver rows
 have s4:=shC_rec ver rows
 refine loop_eq (S4w r ver rows c) 4 (fun t ht=>?_) (by simp [cy4,Cd.nth,Cd.loops,Cd.body,S4w]) h0
 have htI:(t:Int) < 4:=by omega
 have hw:=wrap_succ t (by omega)
 have hwn:=wrap_succ (cnt r t) (by have:=cnt_le r t; omega)
 have hc:=load_c hr hk t ht
 have z:=CF_zero30
 have hcs:=cnt_succ r t
 by_cases hz:chF r t 0=0
 ·rw [if_pos hz] at hcs
  simp only [S4w,RD.pv,El,rd,hcs] at *
  generalize chF r t=gk at *
  generalize cnt r t=n at *
  generalize Es r.l=L0 at *
  generalize shC ver rows=SS at *
  simp [-isPlace,-moves,cy4,Cd.nth,Cd.loops,Cd.body,← z,htI,hw,hc,hz,h16,g4,g5,g6,s1,s2,s3,s4]
 ·rw [if_neg hz] at hcs
  have hz':(chF r t 0 != 0)=true:=by simpa using hz
  simp only [S4w,RD.pv,El,rd,hcs] at *
  generalize chF r t=gk at *
  generalize cnt r t=n at *
  generalize Es r.l=L0 at *
  generalize shC ver rows=SS at *
  simp [-isPlace,-moves,cy4,Cd.nth,Cd.loops,Cd.body,← z,htI,hw,hwn,hc,hz',h16,g4,g5,g6,s1,s2,s3,s4]
end
def Cd.hd:Cd→Cd
 | .seq a _=>a
 | b=>b
def Cd.tl:Cd→Cd
 | .seq _ b=>b
 | b=>b
theorem run_assoc5 (K:Callee) (a0 a1 a2 a3 a4 B:Cd) (st:St):Cd.run K (.seq a0 (.seq a1 (.seq a2 (.seq a3 (.seq a4 B))))) st=match Cd.run K (.seq a0 (.seq a1 (.seq a2 (.seq a3 a4)))) st with | some (.normal,st')=>B.run K st' | r=>r:=by
 simp only [run_seq]
 rcases Cd.run K a0 st with _ | ⟨⟨⟩ | _ | _,st1⟩ <;> try rfl
 simp only
 rcases Cd.run K a1 st1 with _ | ⟨⟨⟩ | _ | _,st2⟩ <;> try rfl
 simp only
 rcases Cd.run K a2 st2 with _ | ⟨⟨⟩ | _ | _,st3⟩ <;> try rfl
 simp only
 rcases Cd.run K a3 st3 with _ | ⟨⟨⟩ | _ | _,st4⟩ <;> try rfl
def ownB (q:RD) (ver:Nat) (rows:List Row) (c:Int):Lvl:=[(8,[El q.nl q.l,.int .i64 q.c]),(23000,[.ptr 0 23001 [] 0,.int .i64 c]),(23001,[shC ver rows]),(6,[.bool false])]
theorem ownB_da (q:RD) (ver:Nat) (rows:List Row) (c:Int):DA [ownB q ver rows c] 0 23000 23001 ver rows c:=⟨by simp [ownB],by simp [ownB],by decide⟩
theorem ownB_set (q:RD) (ver:Nat) (rows:List Row) (c:Int) (v:Nat) (l':List Row) (c':Int):dset [ownB q ver rows c] 0 23000 23001 v l' c'=[ownB q v l' c']:=by simp [dset,wr,ownB]
theorem own4_da (q:RD) (ver:Nat) (rows:List Row) (c:Int) (k n:Nat) (last:Int) (b:Bool):DA [own4 q ver rows c k n last b] 0 1000000000 1000000001 ver rows c:=⟨by simp [own4],by simp [own4],by decide⟩
theorem seal_skelA {l:List Row} {c:Int} {r:RD} (hs:Sim l c r) (hk:skel r=skel rAll):skel (sealA r)=skel rAll:=by
 cases hf:fitsAll r 4 with
 | true=>exact (good_seal hs hk hf).2
 | false=>rw [sealA,if_neg (by rw [hf]; decide)]; exact hk
section
variable {q:RD} {ver:Nat} {rows:List Row} {c:Int} (hs:Sim rows c q) (hk:skel q=skel rAll)
include hs hk in
theorem rest4:app E false (.fn 43 [.ptr 0 63000 [] 0]) [.rnd 4 0 [6,8,13,14] caps4 0 500000000] [own4 q ver rows c 0 0 (-1) false]=some (.tup [],emptyBag,[own4 q ver rows c 0 (if goodA q=true then cnt q 4 else 0) (-1) false]) ∨
  ∃ last,app E false (.fn 43 [.ptr 0 63000 [] 0]) [.rnd 4 0 [6,8,13,14] caps4 0 500000000] [own4 q ver rows c 0 0 (-1) false]=some (.tup [],emptyBag,[own4 q ver rows c 0 (if goodA q=true then cnt q 4 else 0) last false]):=by
 cases hg:goodA q with
 | false =>
  left
  exact appy43_no (own4_da q ver rows c 0 0 (-1) false) hs hk hg 4 0 [6,8,13,14] caps4 0 500000000 (by simp) 0 63000 (by simp [own4])
 | true =>
  right
  obtain ⟨⟨n,last⟩,g1,g2⟩:=@appy43_yes (Nat × Int) (fun p=>[own4 q ver rows c 0 p.1 p.2 false]) 1 (fun p=>rfl) 0 1000000000 1000000001 ver rows c (fun p=>own4_da q ver rows c 0 p.1 p.2 false) q hs hk hg 4 0 [6,8,13,14] caps4 0 500000000 (by omega)
   (fun n ks ts h=>by
    have:0≠n:=by omega
    simp [caps4,this])
   (fun k p=>p.2 < (k:Int)∧p.1=cnt q k) (fun p=>False)
   (fun k hk4 p o1 o2 o3 hne hJ=>by
    obtain ⟨n,last⟩:=p
    obtain ⟨e1,e2⟩:=hJ
    simp only at e1 e2
    have hR:=rnd4 hs.rok hk ver rows c n k hk4 (by rw [e2]; have:=cnt_le q k; omega) last e1 o1 o2 o3 hne
    refine ⟨true,(n+1,(k:Int)),hR,?_⟩
    rw [if_pos rfl]
    refine ⟨by simp only; omega,?_⟩
    simp only
    rw [cnt_succ,if_neg hne,e2])
   (fun k hk4 p hz hJ=>by
    obtain ⟨n,last⟩:=p
    obtain ⟨e1,e2⟩:=hJ
    simp only at e1 e2
    refine ⟨by simp only; omega,?_⟩
    simp only
    rw [cnt_succ,if_pos hz,e2])
   (0,-1) ⟨by simp,rfl⟩ 0 63000 (fun p=>by simp [own4])
  rcases g1 with ⟨e1,e2⟩ | e1
  ·simp only at e2 g2
   rw [e2] at g2
   exact ⟨last,by simpa using g2⟩
  ·exact e1.elim
include hs hk in
theorem loop4_at {st:St} (h0:maskSt [6,7,8,9,10] [6,8] [] [7] st=some (S4w q ver rows c 0)):loopW (maskSt [6,7,8,9,10] [6,8] [] [7]) (Cd.run (app E) (cy4.body.nth 0)) st=Cd.run (app E) (cy4.body.nth 0) { S4w q ver rows c (if goodA q=true then 4 else 0) with f:=(S4w q ver rows c (if goodA q=true then 4 else 0)).f }:=by
 cases hg:goodA q with
 | true=>exact loop4_yes hs.rok hk ver rows c hg h0
 | false =>
  have h16:=appy16 hs.rok hk
  rw [hg] at h16
  have g4:=fun a=>es_deps q.l a
  refine loop_eq (S4w q ver rows c) 0 (fun t ht=>by omega) ?_ h0
  simp only [S4w,RD.pv,El,rd] at *
  generalize Es q.l=L0 at *
  simp [cy4,Cd.nth,Cd.loops,Cd.body,h16,g4]
end
set_option maxHeartbeats 2000000 in
theorem appy4 (nl:Bool) (L:List (Nat→Int)) (sl flag:Bool):app E false (.fn 4 []) [.lst none nl 30 (Cs L),.bool sl,.bool flag] []=some (.bool true,emptyBag,[]):=by
 obtain ⟨r,ver,rows,c,hs,hk,h11⟩:=appy11 [[(6,[.bool false])]] nl L
 have hlive:=live10
 have k1:=fun a b c=>cs_okns L a b c
 have k2:=fun a b ρ=>cs_rens L a b ρ
 have k3:=fun a=>cs_deps L a
 have r1:=fun a b ρ=>es_rens r.l a b ρ
 have r2:=fun a=>es_deps r.l a
 have r3:=fun a b c=>es_okns r.l a b c
 have r4:=fun a=>es_names r.l a
 have s1:=fun lv=>shC_names lv ver rows
 have s2:=fun a b ρ=>shC_ren a b ρ ver rows
 have s3:=fun a ks ts=>shC_okn a ks ts ver rows
 have s4:=shC_rec ver rows
 obtain ⟨B,hB⟩:∃ B,B=Cd.tl (Cd.tl (Cd.tl (Cd.tl (Cd.tl cy4.body)))):=⟨_,rfl⟩
 have rest:∀ (q:RD) (v:Nat) (l:List Row) (c':Int),Sim l c' q→skel q=skel rAll→∀ (F:List (Nat × PV)),get F 6=some (.ptr 0 6 [] 0)→get F 7=some (.ptr 0 23000 [] 0)→get F 8=some (.ptr 0 8 [] 0) →
   ∃ st',Cd.run (app E) B ⟨F,[],ownB q v l c',[],[]⟩=some (.ret,st')∧st'.m=[]∧st'.tops=[]∧get st'.f 6=some (.ptr 0 6 [] 0)∧get st'.own 6=some [.bool true]:=by
  intro q v l c' hs' hk' F f6 f7 f8
  have g1:=fun a b ρ=>es_rens q.l a b ρ
  have g2:=fun a=>es_deps q.l a
  have g3:=fun a b c=>es_okns q.l a b c
  have g4:=fun a=>es_names q.l a
  have t1:=fun lv=>shC_names lv v l
  have t2:=fun a b ρ=>shC_ren a b ρ v l
  have t3:=fun a ks ts=>shC_okn a ks ts v l
  have t4:=shC_rec v l
  have hl:=fun st h=>@loop4_at q v l c' hs' hk' st h
  have h16:=appy16 hs'.rok hk'
  have h18:=appy18 [(14,[.int .i64 (-1)])::(13,[.int .i64 0])::(S4w q v l c' 0).own] 0 1000000000 (by simp)
  simp only [cy4,Cd.nth,Cd.loops,Cd.body,S4w,List.nil_append,List.append_nil,List.cons_append,List.getElem?_cons_succ,List.getElem?_cons_zero,Option.getD_some] at hl h18
  have hc0:cnt q 0=0:=rfl
  have fin:∀ last,app E false (.fn 43 [.ptr 0 63000 [] 0]) [.rnd 4 0 [6,8,13,14] caps4 0 500000000] [own4 q v l c' 0 0 (-1) false]=some (.tup [],emptyBag,[own4 q v l c' 0 (if goodA q=true then cnt q 4 else 0) last false])→∃ st',Cd.run (app E) B ⟨F,[],ownB q v l c',[],[]⟩=some (.ret,st')∧st'.m=[]∧st'.tops=[]∧get st'.f 6=some (.ptr 0 6 [] 0)∧get st'.own 6=some [.bool true]:=by
   intro last h43
   rw [hB]
   cases hg:goodA q with
   | true =>
    rw [hg] at h16
    simp only [hg,if_true] at hl h43
    simp only [own4,ownB,caps4,RD.pv,El,rd,show ((0:Nat):Int)=0 from rfl] at *
    generalize cnt q 4=n at *
    generalize Es q.l=LA at *
    generalize shC v l=SS at *
    simp [-isPlace,-moves,Cd.tl,cy4,f6,f7,f8,hl,h16,h18,h43,hlive,hc0,g1,g2,g3,g4,t1,t2,t3,t4,bagName,PV.retag,PV.retag1]
   | false =>
    rw [hg] at h16
    simp only [hg,Bool.false_eq_true,if_false] at hl h43
    simp only [own4,ownB,caps4,RD.pv,El,rd,hc0,show ((0:Nat):Int)=0 from rfl] at *
    generalize Es q.l=LA at *
    generalize shC v l=SS at *
    simp [-isPlace,-moves,Cd.tl,cy4,f6,f7,f8,hl,h16,h18,h43,hlive,hc0,g1,g2,g3,g4,t1,t2,t3,t4,bagName,PV.retag,PV.retag1]
  rcases rest4 (ver:=v) hs' hk' with h | ⟨last,h⟩
  ·exact fin _ h
  ·exact fin _ h
 have hbody:cy4.body=.seq (Cd.hd cy4.body) (.seq (Cd.hd (Cd.tl cy4.body)) (.seq (Cd.hd (Cd.tl (Cd.tl cy4.body))) (.seq (Cd.hd (Cd.tl (Cd.tl (Cd.tl cy4.body)))) (.seq (Cd.hd (Cd.tl (Cd.tl (Cd.tl (Cd.tl cy4.body))))) B)))):=by rw [hB]; rfl
 have ok1:=fun q h on=>(@setf_ok q h on).2.2
 have last:∀ (q:RD) (v:Nat) (l:List Row) (c':Int),Sim l c' q→skel q=skel rAll→∀ a0 a1 a2 a3 a4:Cd,∀ st,(∃ F,Cd.run (app E) (.seq a0 (.seq a1 (.seq a2 (.seq a3 a4)))) st=some (.normal,⟨F,[],ownB q v l c',[],[]⟩)∧get F 6=some (.ptr 0 6 [] 0)∧get F 7=some (.ptr 0 23000 [] 0)∧get F 8=some (.ptr 0 8 [] 0)) →
   ∃ st',Cd.run (app E) (.seq a0 (.seq a1 (.seq a2 (.seq a3 (.seq a4 B))))) st=some (.ret,st')∧st'.m=[]∧st'.tops=[]∧get st'.f 6=some (.ptr 0 6 [] 0)∧get st'.own 6=some [.bool true]:=by
  rintro q v l c' hs' hk' a0 a1 a2 a3 a4 st ⟨F,hF,f6,f7,f8⟩
  obtain ⟨st',y1,y2⟩:=rest q v l c' hs' hk' F f6 f7 f8
  refine ⟨st',?_,y2⟩
  rw [run_assoc5,hF]
  exact y1
 have fin:∀ st:Option (Ex × St),(∃ st',st=some (.ret,st')∧st'.m=[]∧st'.tops=[]∧get st'.f 6=some (.ptr 0 6 [] 0)∧get st'.own 6=some [.bool true])→(match st with
   | some (.normal,st)=>retEv st false cy4.res
   | some (.ret,st)=>retEv st false cy4.res
   | _=>none)=some (.bool true,emptyBag,[]):=by
  rintro _ ⟨⟨f',t',o',d',m'⟩,rfl,h1,h2,h3,h4⟩
  simp only at h1 h2 h3 h4
  subst h1 h2
  simp [cy4,h3,h4]
 rw [app_fn E rfl hy4 rfl]
 refine fin _ ?_
 rw [hbody]
 cases sl with
 | false =>
  obtain ⟨m2,e14,v2,l2,c2,rfl,hs2⟩:=app64g (ownB_da r ver rows c) hs flag
  rw [ownB_set] at e14
  have e15:=appx17 r hs.rok flag
  have g2:=fun a=>es_deps (setfA r flag).l a
  refine last (setfA r flag) v2 l2 c2 hs2 (ok1 r hk flag) _ _ _ _ _ _ ?_
  clear hbody rest last fin
  generalize setC r 5118 0 (onN flag)=e at *
  generalize setfA r flag=q at *
  simp only [ownB,RD.pv,El,rd] at *
  generalize Cs L=CL at *
  generalize Es r.l=LA at *
  generalize Es q.l=LB at *
  generalize shC ver rows=SS at *
  generalize shC v2 l2=SS2 at *
  simp [-isPlace,-moves,Cd.hd,Cd.tl,cy4,h11,e14,e15,k1,k2,k3,r1,r2,r3,r4,s1,s2,s3,s4,g2,bagName,PV.retag,PV.retag1]
 | true =>
  obtain ⟨m1,e12,v1,l1,c1,rfl,hs1⟩:=appx125 (ownB_da r ver rows c) hs hk
  rw [ownB_set] at e12
  obtain ⟨e0,e13⟩:=appy13 hs hk
  have hk1:=seal_skelA hs hk
  obtain ⟨m2,e14,v2,l2,c2,rfl,hs2⟩:=app64g (ownB_da (sealA r) v1 l1 c1) hs1 flag
  rw [ownB_set] at e14
  have e15:=appx17 (sealA r) hs1.rok flag
  have g2:=fun a=>es_deps (setfA (sealA r) flag).l a
  have g3:=fun a=>es_deps (sealA r).l a
  refine last (setfA (sealA r) flag) v2 l2 c2 hs2 (ok1 (sealA r) hk1 flag) _ _ _ _ _ _ ?_
  clear hbody rest last fin
  generalize setC (sealA r) 5118 0 (onN flag)=e at *
  generalize setfA (sealA r) flag=q at *
  generalize sealA r=r1' at *
  generalize (if fitsAll r 4=true then (0:Int) else 14)=e9 at *
  simp only [ownB,RD.pv,El,rd] at *
  generalize Cs L=CL at *
  generalize Es r.l=LA at *
  generalize Es q.l=LB at *
  generalize Es r1'.l=LC at *
  generalize shC ver rows=SS at *
  generalize shC v1 l1=SS1 at *
  generalize shC v2 l2=SS2 at *
  simp [-isPlace,-moves,Cd.hd,Cd.tl,cy4,h11,e12,e13,e14,e15,k1,k2,k3,r1,r2,r3,r4,s1,s2,s3,s4,g2,g3,bagName,PV.retag,PV.retag1]
theorem lawy4 {x0 x1 x2:PV} (h0:CT.val false [.lst true 240 chanT] x0) (h1:CT.val false [.bool] x1) (h2:CT.val false [.bool] x2):app E false (.fn 4 []) [x0,x1,x2] []=some (.bool true,emptyBag,[]):=by
 simp only [CT.val,CT.hass] at h0 h1 h2
 obtain ⟨_,_,hx,h,rfl⟩:=h0
 simp only [List.cons.injEq,and_true] at hx
 subst hx
 obtain ⟨nl,xs,rfl,_,hn,hx⟩:=CT.has_lst.1 h
 obtain ⟨l,rfl⟩:=chans_of hx
 obtain ⟨_,_,hx1,h1,rfl⟩:=h1
 simp only [List.cons.injEq,and_true] at hx1
 subst hx1
 obtain ⟨_,_,hx2,h2,rfl⟩:=h2
 simp only [List.cons.injEq,and_true] at hx2
 subst hx2
 simp only [CT.has] at h1 h2
 obtain ⟨b1,rfl⟩:=h1
 obtain ⟨b2,rfl⟩:=h2
 exact appy4 nl l b1 b2
end Go.Proofs.YtmffcpiffkclgaaGreat.ZJM.DC
