/- Laid: both dictionaries with a node's own entries and the safety section. -/
import Derived.Test.YtmffcpiffkclgaaZYM1
set_option linter.unusedSimpArgs false
set_option linter.unusedVariables false
set_option maxRecDepth 10000
namespace Go.Proofs.Ytmffcpiffkclgaa.ZJM.DC
open Go.Proofs.Ytmffcpiffkclgaa.ZJM Go.RowKit
def r0 : RD := ⟨true,[],0⟩
def allE : List Ent := app8E ++ laid
def rAll : RD := ⟨false,allE,0⟩
theorem fold_all : allE.foldl addE r0 = rAll := by kernel_rfl
theorem run_all : runE (app8E.foldl addE r0) laid = (rAll,0) := by kernel_rfl
theorem allE_len : allE.length = 78 := by kernel_rfl
theorem app8E_len : app8E.length = 8 := by kernel_rfl
theorem allE_okb : (allE.all fun e => e.b.all (fun x => decide (0 ≤ x) && decide (x < 256)) && decide (e.b.length ≤ 64)) = true := by kernel_rfl
theorem allE_ok {e : Ent} (h : e ∈ allE) : OkB e.b ∧ e.b.length ≤ 64 := by
 have := List.all_eq_true.1 allE_okb e h
 simp only [Bool.and_eq_true,List.all_eq_true,decide_eq_true_eq] at this
 exact ⟨fun x hx => this.1 x hx,this.2⟩
theorem fold_len (A : List Ent) (r : RD) : (A.foldl addE r).l.length ≤ r.l.length + A.length := by
 induction A generalizing r with
 | nil => simp
 | cons e A ih =>
  have h1 := ih (addE r e)
  have h2 := addR_len r e.i e.s e.k e.a e.l e.h e.b
  simp only [List.foldl_cons,List.length_cons]
  unfold addE at h1 ⊢
  omega
theorem fold_succ (A : List Ent) (t : Nat) (ht : t < A.length) (r : RD) : (A.take (t + 1)).foldl addE r = addE ((A.take t).foldl addE r) A[t] := by
 rw [take_succ' A t ht,List.foldl_append]; rfl
section
variable (m : Mem)
def own84' (L : Nat) (r : RD) (ver : Nat) (rows : List Row) (c : Int) : Lvl := [(1,[.lst none true 7 [],.int .i64 0]),(3,[El r.nl r.l,.int .i64 r.c]),(7000,[.ptr L 7001 [] 0,.int .i64 c]),(7001,[shC ver rows])]
theorem own84_da (r : RD) (ver : Nat) (rows : List Row) (c : Int) : DA (own84' m.length r ver rows c :: m) m.length 7000 7001 ver rows c := ⟨by simp [own84'],by simp [own84'],by decide⟩
theorem own84_set (r : RD) (ver : Nat) (rows : List Row) (c : Int) (v : Nat) (l' : List Row) (c' : Int) : dset (own84' m.length r ver rows c :: m) m.length 7000 7001 v l' c' = own84' m.length r v l' c' :: m := by simp [dset,wr,own84']
variable (LL : List Ent) (hL : LL.length ≤ 500) (hok : ∀ e ∈ LL,OkB e.b ∧ e.b.length ≤ 64) (h8 : 8 ≤ LL.length)
def S84 (t : Nat) (r : RD) (ver : Nat) (rows : List Row) (c : Int) : St := ⟨[(1,.ptr m.length 1 [] 0),(2,.ptr m.length 7000 [] 0),(3,.ptr m.length 3 [] 0),(4,El false LL),(5,.int .i64 t)],[(9,0,0),(1000000,0,0)],own84' m.length r ver rows c,[],m⟩
include hL in
set_option maxHeartbeats 2000000 in
theorem round84 (t : Nat) (ht : t < LL.length) (e : Ent) (hgE : (Es LL)[t]? = some e.enc) (ok1 : OkB e.b) (ok2 : e.b.length ≤ 64) (r : RD) (hr : r.l.length ≤ 512) (ver : Nat) (rows : List Row) (c : Int) (rd0 : RD) (hs : Sim rows c rd0) :
  ∃ v l' c',Sim l' c' (if t < 8 then addE rd0 e else rd0) ∧ Goes (maskSt [1,2,3,4,5] [1,3,7000,7001] [9,1000000] []) (S84 m LL (t + 1) (addE r e) v l' c') (Cd.run (app E) c84.body.inner.body (S84 m LL t r ver rows c)) := by
 have hti : (t : Int) < LL.length := by omega
 have hw := wrap_succ t (by omega)
 have h12 : app E false (.fn 47 []) [r.pv,ky e.i e.s,sp e.k e.a e.l e.h,Bl false e.b] [] = some (.tup [(addE r e).pv,.int .i64 (codeE r e)],emptyBag,[]) := app12 r hr e.i e.s e.k e.a e.l e.h false e.b ok1
 have hsb := strBytes_strOf ok1
 have hsz := strOf_size e.b
 have hmx := maxB64 ok2
 have hgg : (Es LL)[t]'(by rw [encs_len]; exact ht) = e.enc := (List.getElem?_eq_some_iff.1 hgE).2
 have h115' := fun own : Lvl => app115 (own :: m)
 have hl8 : (Es app8E).length = 8 := by rw [encs_len]; exact app8E_len
 have hr8 := fun a b ρ => es_rens app8E a b ρ
 by_cases h8 : t < 8
 ·obtain ⟨m',e1,v,l',c',rfl,hs'⟩ := do_add (own84_da m (addE r e) ver rows c) hs e.i e.s e.k e.a e.l e.h false e.b ok1 (by simp)
  rw [own84_set] at e1
  refine ⟨v,l',c',by rw [if_pos h8]; exact hs',?_⟩
  have h8i : (t : Int) < 8 := by omega
  generalize addRC rd0 e.i e.s e.k e.a e.l e.h e.b = w1 at *
  generalize addE r e = r2 at *
  generalize codeE r e = w2 at *
  generalize Es app8E = L8 at *
  simp only [RD.pv,own84'] at h12 e1
  simp [c84,Cd.inner,Cd.body,S84,own84',hti,ht,hgE,hgg,Ent.enc,Ent.cs,h12,hsb,hsz,hmx,hw,h115',hl8,hr8,h8i,e1,bagName,PV.retag,PV.retag1]
 ·refine ⟨ver,rows,c,by rw [if_neg h8]; exact hs,?_⟩
  have h8i : ¬ (t : Int) < 8 := by omega
  generalize addE r e = r2 at *
  generalize codeE r e = w2 at *
  generalize Es app8E = L8 at *
  simp only [RD.pv] at h12
  simp [c84,Cd.inner,Cd.body,S84,own84',hti,ht,hgE,hgg,Ent.enc,Ent.cs,h12,hsb,hsz,hmx,hw,h115',hl8,hr8,h8i,bagName,PV.retag,PV.retag1]
include hL hok h8 in
theorem loop84 {st : St} (h0 : maskSt [1,2,3,4,5] [1,3,7000,7001] [9,1000000] [] st = some (S84 m LL 0 r0 0 [] 0)) :
  ∃ e st',loopW (maskSt [1,2,3,4,5] [1,3,7000,7001] [9,1000000] []) (Cd.run (app E) c84.body.inner.body) st = some (e,st') ∧ e ≠ .normal ∧
   (e = .exit 0 ∧ get st'.f 1 = some (.ptr m.length 1 [] 0) ∧ get st'.f 2 = some (.ptr m.length 7000 [] 0) ∧ get st'.f 3 = some (.ptr m.length 3 [] 0) ∧ st'.m = m ∧ st'.dead = [] ∧ ∃ ver rows c,Sim rows c ((LL.take 8).foldl addE r0) ∧ st'.own = own84' m.length (LL.foldl addE r0) ver rows c) := by
 refine loop_inv (fun t S => ∃ ver rows c,Sim rows c ((LL.take (min t 8)).foldl addE r0) ∧ S = S84 m LL t ((LL.take t).foldl addE r0) ver rows c) LL.length _ h0 ⟨0,[],0,sim_new,rfl⟩ ?_ ?_
 ·rintro t S ht ⟨ver,rows,c,hs,rfl⟩
  obtain ⟨ok1,ok2⟩ := hok _ (List.getElem_mem ht)
  have hlen := fold_len (LL.take t) r0
  rw [List.length_take] at hlen
  have hr0 : r0.l.length = 0 := rfl
  have hgE : (Es LL)[t]? = some LL[t].enc := by rw [List.getElem?_eq_getElem (by rw [encs_len]; exact ht),es_getE]
  obtain ⟨v,l',c',hs',hG⟩ := round84 m LL hL t ht LL[t] hgE ok1 ok2 ((LL.take t).foldl addE r0) (by omega) ver rows c _ hs
  rw [← fold_succ LL t ht] at hG
  obtain ⟨st2,q1,q2⟩ := hG.get
  refine .inl ⟨st2,_,q1,q2,v,l',c',?_,rfl⟩
  by_cases h8' : t < 8
  ·rw [if_pos h8',show min t 8 = t by omega,← fold_succ LL t ht] at hs'
   rw [show min (t + 1) 8 = t + 1 by omega]
   exact hs'
  ·rw [if_neg h8',show min t 8 = 8 by omega] at hs'
   rw [show min (t + 1) 8 = 8 by omega]
   exact hs'
 ·rintro S ⟨ver,rows,c,hs,rfl⟩
  rw [List.take_length]
  rw [show min LL.length 8 = 8 by omega] at hs
  generalize LL.foldl addE r0 = R at *
  simp [c84,Cd.inner,Cd.body,S84,EndsL]
  exact ⟨ver,rows,c,hs,rfl⟩
end
theorem app84 (m : Mem) : ∃ ver rows c,Sim rows c rAll ∧ app E false (.fn 11 []) [] m = some (.tup [.ptr m.length 0 [] 0,rAll.pv],⟨[(0,[.ptr m.length 1 [] 0,.int .i64 c]),(1,[shC ver rows])],[]⟩,m) := by
 have h11 := app11 ([(1,[.lst none true 7 [],.int .i64 0])] :: m)
 have h115' := fun own : Lvl => app115 (own :: m)
 obtain ⟨e,⟨f',tops',own',dead',m'⟩,q1,q2,rfl,g1,g2,g3,gm,gd,ver,rows,c,hs,go⟩ := @loop84 m allE (by rw [allE_len]; decide) (fun e he => allE_ok he) (by rw [allE_len]; decide) ⟨[(5,.int .i64 0),(4,.lst (some 8000) false 7 (Es allE)),(9,.lst (some 8000) false 7 (Es allE)),(8,El false laid),(7,.lst (some 8000) false 7 (Es app8E)),(3,.ptr m.length 3 [] 0),(2,.ptr m.length 7000 [] 0),(6,.ptr m.length 7000 [] 0),(1,.ptr m.length 1 [] 0),(0,.nilp)],[(8000,78,94)],[(3,[.lst none true 7 [],.int .i64 0]),(7000,[.ptr m.length 7001 [] 0,.int .i64 0]),(7001,[shC 0 []]),(1,[.lst none true 7 [],.int .i64 0])],[],m⟩ (by simp [S84,own84',r0])
 simp only at g1 g2 g3 gm gd go
 subst gm; subst gd; subst go
 have htk : allE.take 8 = app8E := by rw [allE,← app8E_len]; simp
 rw [htk] at hs
 obtain ⟨m2,e1,v2,l2,c2,rfl,hs2⟩ := app16 (own84_da m' (allE.foldl addE r0) ver rows c) hs
 rw [own84_set] at e1
 rw [run_all] at e1 hs2
 rw [fold_all] at e1 q1
 refine ⟨v2,l2,c2,hs2,?_⟩
 rw [app_fn E rfl h84 rfl]
 have hcat : Es allE = Es app8E ++ Es laid := by rw [allE]; exact encs_append _ _
 have hl8 : (Es app8E).length = 8 := by rw [encs_len]; exact app8E_len
 have hl70 : (Es laid).length = 70 := by rw [encs_len]; exact laid_len
 have hbb : 78 * 64 ≤ maxBytes := by unfold maxBytes; omega
 have h14 := app14
 have s1 := fun lv => shC_names lv v2 l2
 have s2 := fun a b ρ => shC_ren a b ρ v2 l2
 have s3 := fun a ks ts => shC_okn a ks ts v2 l2
 have s4 := shC_rec v2 l2
 have t1 : ∀ a b p o,isRec (.ptr a b p o) = false := fun _ _ _ _ => rfl
 have t2 : ∀ k n,isRec (.int k n) = false := fun _ _ => rfl
 have hsh : shC 0 [] = .lst none true 6 [] := rfl
 rw [hsh] at q1 h11
 simp only [c84,Cd.inner,Cd.body,own84'] at q1
 simp only [own84',List.length_cons] at e1
 rw [hcat] at q1
 have hok1 := fun a b c => es_okns app8E a b c
 have hr8 := fun a b ρ => es_rens app8E a b ρ
 have hok2 := fun a b c => es_okns laid a b c
 have hdp1 := fun a => es_deps app8E a
 have hdp2 := fun a => es_deps laid a
 have hnm1 := fun a => es_names app8E a
 have hnm2 := fun a => es_names laid a
 have hrn2 := fun a b ρ => es_rens laid a b ρ
 simp only [El,RD.pv,rd] at *
 have hrl : rAll.l = allE := rfl
 rw [hrl,hcat] at e1 q1
 rw [hrl,hcat]
 generalize Es app8E = L8 at *
 generalize Es laid = L70 at *
 generalize shC v2 l2 = SS at *
 simp [c84,h11,h115',h14,hl8,hl70,hbb,q1,g1,g2,g3,e1,bagName,PV.retag,PV.retag1,hr8,hdp1,hdp2,hnm1,hnm2,hrn2,hok1,hok2,s1,s2,s3,s4,t1,t2,frzV,frzR,bagEv,bagOf,bagChk,renB,obsB,topsB,nameIn,noTagB,nodupB,tagsOf,tagOf]
end Go.Proofs.Ytmffcpiffkclgaa.ZJM.DC
set_option linter.unusedSimpArgs false
set_option linter.unusedVariables false
set_option maxRecDepth 10000
namespace Go.Proofs.Ytmffcpiffkclgaa.ZJM.DC
open Go.Proofs.Ytmffcpiffkclgaa.ZJM Go.RowKit
structure Byt where
 (nl : Bool) (b : List Int)
def Byt.enc (x : Byt) : PV := Bl x.nl x.b
def Byt.ok (x : Byt) : Prop := OkB x.b ∧ (x.nl = true → x.b = [])
abbrev Ys (l : List Byt) : List PV := encs Byt.enc l
theorem byt_data (x : Byt) : x.enc.data = true := by simp [Byt.enc,PV.data,bs_data]
theorem ys_data (l : List Byt) : PV.datas (Ys l) = true := encs_data fun x _ => byt_data x
theorem ys_okns (l : List Byt) (a b c) : PV.okns a b c (Ys l) = true := PV.datas_okns _ _ _ _ (ys_data l)
theorem ys_deps (l : List Byt) (a) : PV.deps a (Ys l) = true := PV.datas_deps _ _ (ys_data l)
theorem ys_names (l : List Byt) (a) : PV.namess a (Ys l) = [] := PV.datas_namess _ _ (ys_data l)
theorem ys_rens (l : List Byt) (a b ρ) : PV.rens a b ρ (Ys l) = Ys l := PV.datas_rens _ _ _ _ (ys_data l)
attribute [simp] ys_okns ys_deps ys_names ys_rens
def skE (e : Ent) : Int × Int × Int × Int × Int × Int := (e.i,e.s,e.k,e.a,e.l,e.h)
def skel (r : RD) : List (Int × Int × Int × Int × Int × Int) := r.l.map skE
theorem skel_hold (r : RD) (n : Nat) (b : List Int) : skel (holdR r n b) = skel r := by
 simp only [skel,holdR,upE]
 apply List.ext_getElem
 ·simp
 ·intro t h1 h2
  simp only [List.getElem_map,List.getElem_modify]
  split <;> rfl
theorem skel_holdAt (r : RD) (i s : Int) (b : List Int) : skel (holdAt r i s b) = skel r := by
 unfold holdAt; split
 ·rfl
 ·exact skel_hold _ _ _
section
variable (m : Mem) (nl : Bool) (Y : List Byt) (hY : ∀ y ∈ Y,y.ok)
end
end Go.Proofs.Ytmffcpiffkclgaa.ZJM.DC
set_option linter.unusedSimpArgs false
set_option linter.unusedVariables false
set_option maxRecDepth 4000
namespace Go.Proofs.Ytmffcpiffkclgaa.ZJM.DC
open Go.Proofs.Ytmffcpiffkclgaa.ZJM Go.RowKit
def slotB (r : RD) (x : Slot) : List Int := match findIx r.l x.i x.s with
 | none => []
 | some j => match r.l[j]? with
  | none => []
  | some y => y.b
theorem Sim.slotB {l : List Row} {c : Int} {r : RD} (h : Sim l c r) (x : Slot) : (rawB (getW l (knum x.i x.s))).2 = slotB r x := by
 rcases h.at x.i x.s with ⟨h1,h2⟩ | ⟨y,j,hj,h1,h2,hre,e1,e2,hok⟩
 ·rw [h1]; simp [DC.slotB,h2,rawB]
 ·rw [h1]
  simp only [DC.slotB,h2,List.getElem?_eq_getElem hj,rawB,hre.2.2.2.2.2]
theorem Sim.slot_ok {l : List Row} {c : Int} {r : RD} (h : Sim l c r) (x : Slot) (ho : oneA r x = true) : OkB (DC.slotB r x) ∧ ((DC.slotB r x).length : Int) * 8 = x.n ∧ ∃ j,∃ hj : j < r.l.length,findIx r.l x.i x.s = some j ∧ DC.slotB r x = r.l[j].b := by
 rcases h.at x.i x.s with ⟨h1,h2⟩ | ⟨y,j,hj,h1,h2,hre,e1,e2,hok⟩
 ·simp [oneA,h2] at ho
 ·simp only [oneA,h2,List.getElem?_eq_getElem hj,Bool.and_eq_true,decide_eq_true_eq,beq_iff_eq] at ho
  have e : DC.slotB r x = r.l[j].b := by simp only [DC.slotB,h2,List.getElem?_eq_getElem hj]
  rw [e,← hre.2.2.2.2.2]
  obtain ⟨⟨hm,hz⟩,hn⟩ := ho
  rw [← hre.2.1] at hz hn
  have hl := (fits_get hz hok.2.2.2.1).2.2.1
  refine ⟨hok.1,by omega,j,hj,h2,hre.2.2.2.2.2⟩
theorem bs_cells (b : List Int) : (Bs b).flatMap PV.cells = Bs b := by
 induction b with
 | nil => rfl
 | cons x b ih => simp only [encs_cons,List.flatMap_cons,ih,cells_int]; rfl
section
variable {m : Mem} {lv a a' ver : Nat} {l : List Row} {c : Int} (hd : DA m lv a a' ver l c) {r : RD} (hs : Sim l c r) (nl : Bool) (L : List Slot)
end
end Go.Proofs.Ytmffcpiffkclgaa.ZJM.DC
set_option linter.unusedSimpArgs false
set_option linter.unusedVariables false
set_option maxRecDepth 4000
namespace Go.Proofs.Ytmffcpiffkclgaa.ZJM.DC
open Go.Proofs.Ytmffcpiffkclgaa.ZJM Go.RowKit
section
variable {m : Mem} {lv a a' ver : Nat} {l : List Row} {c : Int} (hd : DA m lv a a' ver l c) {r : RD} (hs : Sim l c r) (nl : Bool) (L : List Slot)
end
end Go.Proofs.Ytmffcpiffkclgaa.ZJM.DC
set_option linter.unusedSimpArgs false
set_option linter.unusedVariables false
set_option maxRecDepth 4000
namespace Go.Proofs.Ytmffcpiffkclgaa.ZJM.DC
open Go.Proofs.Ytmffcpiffkclgaa.ZJM Go.RowKit
section
variable (r : RD) (hr : r.ok) (nl : Bool) (L : List Slot)
end
end Go.Proofs.Ytmffcpiffkclgaa.ZJM.DC
set_option linter.unusedSimpArgs false
set_option linter.unusedVariables false
set_option maxRecDepth 10000
namespace Go.Proofs.Ytmffcpiffkclgaa.ZJM.DC
open Go.Proofs.Ytmffcpiffkclgaa.ZJM Go.RowKit
end Go.Proofs.Ytmffcpiffkclgaa.ZJM.DC
