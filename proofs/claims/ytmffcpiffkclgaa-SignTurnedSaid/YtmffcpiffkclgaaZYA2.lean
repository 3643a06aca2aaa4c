/- The safety section's entries: what is added, one behind the other. -/
import Derived.Test.YtmffcpiffkclgaaZYP1
set_option linter.unusedSimpArgs false
set_option linter.unusedVariables false
set_option maxRecDepth 4000
namespace Go.Proofs.Ytmffcpiffkclgaa.ZJM.DC
open Go.Proofs.Ytmffcpiffkclgaa.ZJM Go.RowKit
def addE (r : RD) (e : Ent) : RD := addR r e.i e.s e.k e.a e.l e.h e.b
def codeE (r : RD) (e : Ent) : Int := addRC r e.i e.s e.k e.a e.l e.h e.b
def runE : RD → List Ent → RD × Int
 | r,[] => (r,0)
 | r,e :: es => if codeE r e = 0 then runE (addE r e) es else (r,codeE r e)
theorem runE_ok {r : RD} {e : Ent} {A : List Ent} (h : codeE r e = 0) : runE r (e :: A) = runE (addE r e) A := by rw [runE,if_pos h]
theorem runE_no {r : RD} {e : Ent} {A : List Ent} (h : codeE r e ≠ 0) : runE r (e :: A) = (r,codeE r e) := by rw [runE,if_neg h]
theorem addE_no {r : RD} {e : Ent} (h : codeE r e ≠ 0) : addE r e = r := by
 unfold addE addR
 exact if_neg h
theorem runE_append (r : RD) (A B : List Ent) : runE r (A ++ B) = if (runE r A).2 = 0 then runE (runE r A).1 B else runE r A := by
 induction A generalizing r with
 | nil => rfl
 | cons e A ih =>
  by_cases h : codeE r e = 0
  ·have h1 : runE r (e :: A ++ B) = runE (addE r e) (A ++ B) := runE_ok h
   rw [h1,ih,runE_ok h]
  ·have h1 : runE r (e :: A ++ B) = (r,codeE r e) := runE_no h
   rw [h1,runE_no h,if_neg h]
theorem runE_snoc (r : RD) (A : List Ent) (e : Ent) (h : (runE r A).2 = 0) : runE r (A ++ [e]) = if codeE (runE r A).1 e = 0 then (addE (runE r A).1 e,0) else ((runE r A).1,codeE (runE r A).1 e) := by
 rw [runE_append,if_pos h]
 simp only [runE]
structure Row5 where
 (s k l h : Int) (f : Bool)
def Row5.enc (x : Row5) : PV := .agg [.int .i64 x.s,.int .i64 x.k,.int .i64 x.l,.int .i64 x.h,.bool x.f]
def Row5.ent (i : Int) (x : Row5) : Ent := ⟨i,x.s,x.k,if x.f = true then 4 else 3,x.l,x.h,kb (ksz x.k).toNat x.l⟩
abbrev Ls (l : List Row5) : List PV := encs Row5.enc l
theorem ls_data (l : List Row5) : PV.datas (Ls l) = true := encs_data fun x _ => rfl
theorem ls_okns (l : List Row5) (a b c) : PV.okns a b c (Ls l) = true := PV.datas_okns _ _ _ _ (ls_data l)
theorem ls_deps (l : List Row5) (a) : PV.deps a (Ls l) = true := PV.datas_deps _ _ (ls_data l)
theorem ls_getE (l : List Row5) (i : Nat) (h : i < (Ls l).length) : (Ls l)[i] = (l[i]'(by simpa [encs] using h)).enc := encs_getE l i h
attribute [simp] ls_okns ls_deps
section
variable {m : Mem} {lv a a' ver : Nat} {l : List Row} {c : Int} (hd : DA m lv a a' ver l c) {r : RD} (hs : Sim l c r)
include hd hs
theorem app107 (i : Int) (x : Row5) (hw : wfits x.k x.l = true) : ∃ m',app E false (.fn 166 []) [.ptr lv a [] 0,.int .i64 i,x.enc] m = some (.int .i64 (codeE r (x.ent i)),emptyBag,m') ∧ Does m lv a a' ver l c (addE r (x.ent i)) m' := by
 have h102 := app102 x.k x.l
 rw [if_pos hw] at h102
 obtain ⟨m1,e1,e2⟩ := do_add (hd.cons [(7,[.int .i64 x.k,.int .i64 (if x.f = true then 4 else 3),.int .i64 x.l,.int .i64 x.h]),(5,[.int .i64 x.s,.int .i64 x.k,.int .i64 x.l,.int .i64 x.h,.bool x.f])]) hs i x.s x.k (if x.f = true then 4 else 3) x.l x.h false (kb (ksz x.k).toNat x.l) (kb_ok _ _) (by simp)
 obtain ⟨m2,rfl,e3⟩ := e2.cons hd
 refine ⟨m2,?_,e3⟩
 rw [app_fn E rfl h107 rfl]
 show _ = some (PV.int .i64 (addRC r i x.s x.k (if x.f = true then 4 else 3) x.l x.h (kb (ksz x.k).toNat x.l)),emptyBag,m2)
 generalize addRC r i x.s x.k (if x.f = true then 4 else 3) x.l x.h (kb (ksz x.k).toNat x.l) = cc at *
 cases hf : x.f with
 | true =>
  rw [hf] at e1
  simp only [if_true] at e1
  simp [c107,Row5.enc,hf,h102,e1]
 | false =>
  rw [hf] at e1
  simp only [Bool.false_eq_true,if_false] at e1
  simp [c107,Row5.enc,hf,h102,e1]
end
section
variable {m : Mem} {lv a a' ver : Nat} {l : List Row} {c : Int} (hd : DA m lv a a' ver l c) {r : RD} (hs : Sim l c r) (nl : Bool) (i : Int) (L : List Row5) (hL : ∀ x ∈ L,wfits x.k x.l = true) (hLl : L.length ≤ 512)
def S66 (t : Nat) (m' : Mem) : St := ⟨[(0,.ptr lv a [] 0),(1,.int .i64 i),(10,.lst none nl 5 (Ls L)),(11,.int .i64 L.length),(12,.int .i64 t)],[],[],[],m'⟩
include hd hs hL hLl
theorem loop66 {st : St} (h0 : maskSt [0,1,10,11,12] [] [] [] st = some (S66 (lv := lv) (a := a) nl i L 0 m)) :
  ∃ e st',loopW (maskSt [0,1,10,11,12] [] [] []) (Cd.run (app E) c66.body.inner.body) st = some (e,st') ∧ e ≠ .normal ∧
   ((e = .exit 0 ∧ (runE r (L.map (Row5.ent i))).2 = 0 ∧ st'.own = [] ∧ Does m lv a a' ver l c (runE r (L.map (Row5.ent i))).1 st'.m) ∨ (e = .ret ∧ (∃ own',get st'.f 6 = some (.int .i64 (runE r (L.map (Row5.ent i))).2) ∧ st'.own = own') ∧ Does m lv a a' ver l c (runE r (L.map (Row5.ent i))).1 st'.m)) := by
 refine loop_inv (fun t S => (runE r ((L.take t).map (Row5.ent i))).2 = 0 ∧ ∃ m',Does m lv a a' ver l c (runE r ((L.take t).map (Row5.ent i))).1 m' ∧ S = S66 (lv := lv) (a := a) nl i L t m') L.length _ h0 ⟨rfl,m,does_none hd hs,rfl⟩ ?_ ?_
 ·rintro t S ht ⟨hz,m',hD,rfl⟩
  have hti : (t : Int) < L.length := by omega
  have hwp := wrap_succ t (by omega)
  obtain ⟨v',l',c',hd',hs',hlen,hm'⟩ := hD.da hd
  have hlt := hd'.lv_lt
  have hlv : lv ≠ m'.length := by omega
  obtain ⟨m1,e1,e2⟩ := app107 (hd'.cons [(8,[.int .i64 L[t].s,.int .i64 L[t].k,.int .i64 L[t].l,.int .i64 L[t].h,.bool L[t].f])]) hs' i L[t] (hL _ (List.getElem_mem ht))
  obtain ⟨m2,rfl,e3⟩ := e2.cons hd'
  have hlen2 : m2.length = m'.length := by obtain ⟨_,_,_,_,_,q,_⟩ := e3.da hd'; exact q
  have hlv2 : lv ≠ m2.length := by omega
  have hstep := runE_snoc r ((L.take t).map (Row5.ent i)) (L[t].ent i) hz
  rw [← List.map_singleton (f := Row5.ent i),← List.map_append,← take_succ' L t ht] at hstep
  simp only [Row5.enc] at e1
  by_cases hc : codeE (runE r ((L.take t).map (Row5.ent i))).1 (L[t].ent i) = 0
  ·rw [if_pos hc] at hstep
   rw [hc] at e1
   have hG : Goes (maskSt [0,1,10,11,12] [] [] []) (S66 (lv := lv) (a := a) nl i L (t + 1) m2) (Cd.run (app E) c66.body.inner.body (S66 (lv := lv) (a := a) nl i L t m')) := by
    simp [c66,Cd.inner,Cd.body,S66,hti,ht,ls_getE,Row5.enc,e1,hwp,hlv,hlv2]
   obtain ⟨st2,q1,q2⟩ := hG.get
   refine .inl ⟨st2,_,q1,q2,by rw [hstep],m2,?_,rfl⟩
   rw [hstep]
   exact Does.trans hd (r1 := r) (c1 := c') hm' e3
  ·rw [if_neg hc] at hstep
   have hc' : (codeE (runE r ((L.take t).map (Row5.ent i))).1 (L[t].ent i) != 0) = true := by simpa using hc
   refine .inr ?_
   have hfull : runE r (L.map (Row5.ent i)) = runE r ((L.take (t + 1)).map (Row5.ent i)) := by
    conv => lhs; rw [← List.take_append_drop (t + 1) L,List.map_append,runE_append,hstep]
    simp only
    rw [if_neg hc,hstep]
   rw [addE_no hc] at e3
   have e4 : Does m lv a a' ver l c (runE r ((L.take t).map (Row5.ent i))).1 m2 := Does.trans hd (r1 := r) (c1 := c') hm' e3
   rw [hfull,hstep]
   generalize codeE (runE r ((L.take t).map (Row5.ent i))).1 (L[t].ent i) = cc at *
   simp [c66,Cd.inner,Cd.body,S66,hti,ht,ls_getE,Row5.enc,e1,hc',EndsL,hlv,hlv2]
   simpa using e4
 ·rintro S ⟨hz,m',hD,rfl⟩
  rw [List.take_length] at hz hD
  simp [c66,Cd.inner,Cd.body,S66,EndsL]
  exact ⟨hz,hD⟩
theorem app66 : ∃ m',app E false (.fn 129 []) [.ptr lv a [] 0,.int .i64 i,.lst none nl 5 (Ls L)] m = some (.int .i64 (runE r (L.map (Row5.ent i))).2,emptyBag,m') ∧ Does m lv a a' ver l c (runE r (L.map (Row5.ent i))).1 m' := by
 have hlt := hd.lv_lt
 have hlv : lv ≠ m.length := by omega
 obtain ⟨e,⟨f',tops',own',dead',m'⟩,q1,q2,q3⟩ := @loop66 m lv a a' ver l c hd r hs nl i L hL hLl ⟨[(12,.int .i64 0),(11,.int .i64 L.length),(10,.lst none nl 5 (Ls L)),(6,.int .i64 0),(0,.ptr lv a [] 0),(1,.int .i64 i),(2,.lst none nl 5 (Ls L))],[],[],[],m⟩ (by simp [S66,hlv])
 simp only [c66,Cd.inner,Cd.body] at q1
 rcases q3 with ⟨rfl,hz,ho,hD⟩ | ⟨rfl,⟨own2,hg,ho⟩,hD⟩
 ·simp only at ho hD
  subst ho
  refine ⟨m',?_,hD⟩
  rw [app_fn E rfl h66 rfl]
  rw [hz]
  simp [c66,q1]
 ·simp only at hg hD
  refine ⟨m',?_,hD⟩
  rw [app_fn E rfl h66 rfl]
  generalize (runE r (L.map (Row5.ent i))).2 = w at *
  simp [c66,q1,hg]
end
end Go.Proofs.Ytmffcpiffkclgaa.ZJM.DC
set_option linter.unusedSimpArgs false
set_option linter.unusedVariables false
set_option maxRecDepth 10000
namespace Go.Proofs.Ytmffcpiffkclgaa.ZJM.DC
open Go.Proofs.Ytmffcpiffkclgaa.ZJM Go.RowKit
def _root_.Go.Proofs.Ytmffcpiffkclgaa.ZJM.Cd.loops : Cd → List Cd
 | .seq a b => a.loops ++ b.loops
 | .block _ a => a.loops
 | .cond _ a b => a.loops ++ b.loops
 | .loop f k t d a => .loop f k t d a :: a.loops
 | _ => []
def _root_.Go.Proofs.Ytmffcpiffkclgaa.ZJM.Cd.nth (c : Cd) (n : Nat) : Cd := (c.loops[n]?.getD .skip).body
def rowsT : List Row5 := [⟨0,2,6,6,true⟩,⟨1,2,0,2,false⟩,⟨2,3,1,65535,false⟩,⟨3,3,1,65535,false⟩,⟨4,2,254,254,true⟩,⟨5,4,257,383,false⟩,⟨6,4,258,384,false⟩]
def many8 : List Row5 := [⟨1,4,0,4294967295,false⟩,⟨2,4,0,4294967295,false⟩,⟨3,4,0,4294967295,false⟩,⟨4,4,0,4294967295,false⟩,⟨5,4,0,4294967295,false⟩,⟨6,4,0,4294967295,false⟩,⟨7,4,0,4294967295,false⟩,⟨8,4,0,4294967295,false⟩]
def rowsM : List Row5 := ⟨0,2,0,8,false⟩ :: many8
def rowsF : List Row5 := [⟨0,2,0,255,false⟩]
def many4 : List Row5 := [⟨1,3,0,65535,false⟩,⟨2,3,0,65535,false⟩,⟨3,3,0,65535,false⟩,⟨4,3,0,65535,false⟩]
def rowsS : List Row5 := ⟨0,2,4,4,true⟩ :: many4
def tabs (n : Nat) : List Ent := (List.range n).flatMap fun (c : Nat) => rowsT.map (Row5.ent (4865 + (c : Int)))
def maps (n : Nat) : List Ent := (List.range n).flatMap fun (c : Nat) => rowsM.map (Row5.ent (4993 + (c : Int)))
def laid : List Ent := tabs 4 ++ (maps 4 ++ (rowsF.map (Row5.ent 5118) ++ rowsS.map (Row5.ent 5119)))
theorem tabs_succ (n : Nat) : tabs (n + 1) = tabs n ++ rowsT.map (Row5.ent (4865 + n)) := by simp [tabs,List.range_succ,List.flatMap_append]
theorem maps_succ (n : Nat) : maps (n + 1) = maps n ++ rowsM.map (Row5.ent (4993 + n)) := by simp [maps,List.range_succ,List.flatMap_append]
theorem app67_ap : apply E 20 false (.fn 95 []) [] [] = some (.lst none false 5 (Ls rowsT),emptyBag,[]) := by kernel_rfl
theorem app67 : app E false (.fn 95 []) [] [] = some (.lst none false 5 (Ls rowsT),emptyBag,[]) := app_some.2 ⟨_,app67_ap⟩
theorem app68a_ap : apply E 30 false (.fn 130 []) [.int .i64 1,.int .i64 8,.int .i64 4] [] = some (.lst none false 5 (Ls many8),emptyBag,[]) := by kernel_rfl
theorem app68a : app E false (.fn 130 []) [.int .i64 1,.int .i64 8,.int .i64 4] [] = some (.lst none false 5 (Ls many8),emptyBag,[]) := app_some.2 ⟨_,app68a_ap⟩
theorem app68b_ap : apply E 30 false (.fn 130 []) [.int .i64 0,.int .i64 1,.int .i64 2] [] = some (.lst none false 5 (Ls rowsF),emptyBag,[]) := by kernel_rfl
theorem app68b : app E false (.fn 130 []) [.int .i64 0,.int .i64 1,.int .i64 2] [] = some (.lst none false 5 (Ls rowsF),emptyBag,[]) := app_some.2 ⟨_,app68b_ap⟩
theorem app68c_ap : apply E 30 false (.fn 130 []) [.int .i64 1,.int .i64 4,.int .i64 3] [] = some (.lst none false 5 (Ls many4),emptyBag,[]) := by kernel_rfl
theorem app68c : app E false (.fn 130 []) [.int .i64 1,.int .i64 4,.int .i64 3] [] = some (.lst none false 5 (Ls many4),emptyBag,[]) := app_some.2 ⟨_,app68c_ap⟩
theorem app14_ap : apply E 60 false (.fn 62 []) [] [] = some (El false laid,emptyBag,[]) := by kernel_rfl
theorem app14 : app E false (.fn 62 []) [] [] = some (El false laid,emptyBag,[]) := app_some.2 ⟨_,app14_ap⟩
end Go.Proofs.Ytmffcpiffkclgaa.ZJM.DC
set_option linter.unusedSimpArgs false
set_option linter.unusedVariables false
set_option maxRecDepth 4000
namespace Go.Proofs.Ytmffcpiffkclgaa.ZJM.DC
open Go.Proofs.Ytmffcpiffkclgaa.ZJM Go.RowKit
theorem runE_bad {r : RD} {A : List Ent} (h : (runE r A).2 ≠ 0) (B : List Ent) : runE r (A ++ B) = runE r A := by rw [runE_append,if_neg h]
theorem runE_good {r : RD} {A : List Ent} (h : (runE r A).2 = 0) (B : List Ent) : runE r (A ++ B) = runE (runE r A).1 B := by rw [runE_append,if_pos h]
theorem tabs_pre (t : Nat) (ht : t ≤ 4) : ∃ B,laid = tabs t ++ B := by
 have h : ∀ k,t + k ≤ 4 → ∃ B,tabs (t + k) = tabs t ++ B := by
  intro k
  induction k with
  | zero => exact fun _ => ⟨[],by simp⟩
  | succ k ih =>
   intro hk
   obtain ⟨B,hB⟩ := ih (by omega)
   refine ⟨B ++ rowsT.map (Row5.ent (4865 + ((t + k : Nat) : Int))),?_⟩
   rw [show t + (k + 1) = (t + k) + 1 by omega,tabs_succ,hB,List.append_assoc]
 obtain ⟨B,hB⟩ := h (4 - t) (by omega)
 rw [show t + (4 - t) = 4 by omega] at hB
 exact ⟨_,by rw [laid,hB,List.append_assoc]⟩
theorem maps_pre (t : Nat) (ht : t ≤ 4) : ∃ B,laid = (tabs 4 ++ maps t) ++ B := by
 have h : ∀ k,t + k ≤ 4 → ∃ B,maps (t + k) = maps t ++ B := by
  intro k
  induction k with
  | zero => exact fun _ => ⟨[],by simp⟩
  | succ k ih =>
   intro hk
   obtain ⟨B,hB⟩ := ih (by omega)
   refine ⟨B ++ rowsM.map (Row5.ent (4993 + ((t + k : Nat) : Int))),?_⟩
   rw [show t + (k + 1) = (t + k) + 1 by omega,maps_succ,hB,List.append_assoc]
 obtain ⟨B,hB⟩ := h (4 - t) (by omega)
 rw [show t + (4 - t) = 4 by omega] at hB
 exact ⟨B ++ (rowsF.map (Row5.ent 5118) ++ rowsS.map (Row5.ent 5119)),by rw [laid,hB]; simp only [List.append_assoc]⟩
theorem fitsT : ∀ x ∈ rowsT,wfits x.k x.l = true := by decide
theorem fitsM : ∀ x ∈ rowsM,wfits x.k x.l = true := by decide
theorem fitsF : ∀ x ∈ rowsF,wfits x.k x.l = true := by decide
theorem fitsS : ∀ x ∈ rowsS,wfits x.k x.l = true := by decide
section
variable {m : Mem} {lv a a' ver : Nat} {l : List Row} {c : Int} (hd : DA m lv a a' ver l c) {r : RD}
def S16 (lv a k : Nat) (t : Nat) (m' : Mem) : St := ⟨[(0,.ptr lv a [] 0),(k,.int .i64 t)],[],[],[],m'⟩
include hd
theorem loop16a (hs : Sim l c r) {st : St} (h0 : maskSt [0,12] [] [] [] st = some (S16 lv a 12 0 m)) :
  ∃ e st',loopW (maskSt [0,12] [] [] []) (Cd.run (app E) (c16.body.nth 0)) st = some (e,st') ∧ e ≠ .normal ∧
   ((e = .exit 0 ∧ (runE r (tabs 4)).2 = 0 ∧ st'.own = [] ∧ st'.tops = [] ∧ st'.dead = [] ∧ get st'.f 0 = some (.ptr lv a [] 0) ∧ Does m lv a a' ver l c (runE r (tabs 4)).1 st'.m) ∨ (e = .ret ∧ get st'.f 2 = some (.int .i64 (runE r laid).2) ∧ Does m lv a a' ver l c (runE r laid).1 st'.m)) := by
 refine loop_inv (fun t S => (runE r (tabs t)).2 = 0 ∧ ∃ m',Does m lv a a' ver l c (runE r (tabs t)).1 m' ∧ S = S16 lv a 12 t m') 4 _ h0 ⟨rfl,m,does_none hd hs,rfl⟩ ?_ ?_
 ·rintro t S ht ⟨hz,m',hD,rfl⟩
  have hti : (t : Int) < 4 := by omega
  have hwp := wrap_succ t (by omega)
  have hw2 : IntKind.i64.wrap (4865 + (t : Int)) = 4865 + (t : Int) := wrap_id _ (by omega) (by omega)
  obtain ⟨v',l',c',hd',hs',hlen,hm'⟩ := hD.da hd
  have hlt := hd'.lv_lt
  have hlv : lv ≠ m'.length := by omega
  obtain ⟨m1,e1,e2⟩ := app66 (hd'.cons []) hs' false (4865 + (t : Int)) rowsT fitsT (by decide)
  obtain ⟨m2,rfl,e3⟩ := e2.cons hd'
  have hlen2 : m2.length = m'.length := by obtain ⟨_,_,_,_,_,q,_⟩ := e3.da hd'; exact q
  have hlv2 : lv ≠ m2.length := by omega
  have hstep : runE r (tabs (t + 1)) = runE (runE r (tabs t)).1 (rowsT.map (Row5.ent (4865 + (t : Int)))) := by rw [tabs_succ,runE_good hz]
  rw [← hstep] at e1 e3
  have e4 := Does.trans hd (r1 := r) (c1 := c') hm' e3
  by_cases hc : (runE r (tabs (t + 1))).2 = 0
  ·rw [hc] at e1
   have hG : Goes (maskSt [0,12] [] [] []) (S16 lv a 12 (t + 1) m2) (Cd.run (app E) (c16.body.nth 0) (S16 lv a 12 t m')) := by
    simp [c16,Cd.nth,Cd.loops,Cd.body,S16,hti,hw2,app67,e1,hwp,hlv,hlv2]
   obtain ⟨st2,q1,q2⟩ := hG.get
   exact .inl ⟨st2,_,q1,q2,hc,m2,e4,rfl⟩
  ·have hc' : ((runE r (tabs (t + 1))).2 != 0) = true := by simpa using hc
   obtain ⟨B,hB⟩ := tabs_pre (t + 1) (by omega)
   have hfull : runE r laid = runE r (tabs (t + 1)) := by rw [hB,runE_bad hc]
   refine .inr ?_
   rw [hfull]
   generalize runE r (tabs (t + 1)) = w at *
   obtain ⟨w1,w2⟩ := w
   simp only at e1 e4 hc'
   simp [c16,Cd.nth,Cd.loops,Cd.body,S16,hti,hw2,app67,e1,hc',EndsL]
   exact e4
 ·rintro S ⟨hz,m',hD,rfl⟩
  simp [c16,Cd.nth,Cd.loops,Cd.body,S16,EndsL]
  exact ⟨hz,hD⟩
theorem loop16b (hz0 : (runE r (tabs 4)).2 = 0) {m0 : Mem} (hD0 : Does m lv a a' ver l c (runE r (tabs 4)).1 m0) {st : St} (h0 : maskSt [0,24] [] [] [] st = some (S16 lv a 24 0 m0)) :
  ∃ e st',loopW (maskSt [0,24] [] [] []) (Cd.run (app E) (c16.body.nth 1)) st = some (e,st') ∧ e ≠ .normal ∧
   ((e = .exit 2 ∧ (runE r (tabs 4 ++ maps 4)).2 = 0 ∧ st'.own = [] ∧ st'.tops = [] ∧ st'.dead = [] ∧ get st'.f 0 = some (.ptr lv a [] 0) ∧ Does m lv a a' ver l c (runE r (tabs 4 ++ maps 4)).1 st'.m) ∨ (e = .ret ∧ get st'.f 2 = some (.int .i64 (runE r laid).2) ∧ Does m lv a a' ver l c (runE r laid).1 st'.m)) := by
 have hb0 : tabs 4 ++ maps 0 = tabs 4 := by simp [maps]
 refine loop_inv (fun t S => (runE r (tabs 4 ++ maps t)).2 = 0 ∧ ∃ m',Does m lv a a' ver l c (runE r (tabs 4 ++ maps t)).1 m' ∧ S = S16 lv a 24 t m') 4 _ h0 ⟨by rw [hb0]; exact hz0,m0,by rw [hb0]; exact hD0,rfl⟩ ?_ ?_
 ·rintro t S ht ⟨hz,m',hD,rfl⟩
  have hti : (t : Int) < 4 := by omega
  have hwp := wrap_succ t (by omega)
  have hw2 : IntKind.i64.wrap (4993 + (t : Int)) = 4993 + (t : Int) := wrap_id _ (by omega) (by omega)
  obtain ⟨v',l',c',hd',hs',hlen,hm'⟩ := hD.da hd
  have hlt := hd'.lv_lt
  have hlv : lv ≠ m'.length := by omega
  obtain ⟨m1,e1,e2⟩ := app66 (hd'.cons []) hs' false (4993 + (t : Int)) rowsM fitsM (by decide)
  obtain ⟨m2,rfl,e3⟩ := e2.cons hd'
  have hlen2 : m2.length = m'.length := by obtain ⟨_,_,_,_,_,q,_⟩ := e3.da hd'; exact q
  have hlv2 : lv ≠ m2.length := by omega
  have hstep : runE r (tabs 4 ++ maps (t + 1)) = runE (runE r (tabs 4 ++ maps t)).1 (rowsM.map (Row5.ent (4993 + (t : Int)))) := by rw [maps_succ,← List.append_assoc,runE_good hz]
  rw [← hstep] at e1 e3
  have e4 := Does.trans hd (r1 := r) (c1 := c') hm' e3
  have hms : 360 ≤ maxBytes := by unfold maxBytes; omega
  have hls : Ls rowsM = .agg [.int .i64 0,.int .i64 2,.int .i64 0,.int .i64 8,.bool false] :: Ls many8 := rfl
  have hl8 : (Ls many8).length = 8 := rfl
  rw [hls] at e1
  have h68 := app68a
  have hok8 := ls_okns many8
  generalize Ls many8 = L8 at *
  by_cases hc : (runE r (tabs 4 ++ maps (t + 1))).2 = 0
  ·rw [hc] at e1
   have hG : Goes (maskSt [0,24] [] [] []) (S16 lv a 24 (t + 1) m2) (Cd.run (app E) (c16.body.nth 1) (S16 lv a 24 t m')) := by
    simp [c16,Cd.nth,Cd.loops,Cd.body,S16,hti,hw2,h68,e1,hwp,hlv,hlv2,hl8,hms,hok8]
   obtain ⟨st2,q1,q2⟩ := hG.get
   exact .inl ⟨st2,_,q1,q2,hc,m2,e4,rfl⟩
  ·have hc' : ((runE r (tabs 4 ++ maps (t + 1))).2 != 0) = true := by simpa using hc
   obtain ⟨B,hB⟩ := maps_pre (t + 1) (by omega)
   have hfull : runE r laid = runE r (tabs 4 ++ maps (t + 1)) := by rw [hB,runE_bad hc]
   refine .inr ?_
   rw [hfull]
   generalize runE r (tabs 4 ++ maps (t + 1)) = w at *
   obtain ⟨w1,w2⟩ := w
   simp only at e1 e4 hc'
   simp [c16,Cd.nth,Cd.loops,Cd.body,S16,hti,hw2,h68,e1,hc',EndsL,hl8,hms,hok8]
   exact e4
 ·rintro S ⟨hz,m',hD,rfl⟩
  simp [c16,Cd.nth,Cd.loops,Cd.body,S16,EndsL]
  exact ⟨hz,hD⟩
theorem app16 (hs : Sim l c r) : ∃ m',app E false (.fn 63 []) [.ptr lv a [] 0] m = some (.int .i64 (runE r laid).2,emptyBag,m') ∧ Does m lv a a' ver l c (runE r laid).1 m' := by
 have hlt := hd.lv_lt
 have hlv : lv ≠ m.length := by omega
 obtain ⟨e,⟨f1,tops1,own1,dead1,m1⟩,q1,q2,q3⟩ := loop16a hd hs (st := ⟨[(12,.int .i64 0),(11,.bool false),(10,.ptr lv a [] 0),(2,.int .i64 0),(0,.ptr lv a [] 0)],[],[],[],m⟩) (by simp [S16,hlv])
 simp only [c16,Cd.nth,Cd.loops,Cd.body,List.nil_append,List.append_nil,List.cons_append,List.append_assoc,List.getElem?_cons_succ,List.getElem?_cons_zero,Option.getD_some] at q1
 rcases q3 with ⟨rfl,hz,ho,ht,hde,hg,hD⟩ | ⟨rfl,hg,hD⟩
 case inr =>
  simp only at hg hD
  refine ⟨m1,?_,hD⟩
  rw [app_fn E rfl h16 rfl]
  generalize (runE r laid).2 = w at *
  simp [c16,q1,hg]
 case inl =>
 simp only at ho ht hde hg hD
 subst ho; subst ht; subst hde
 have hm1 : lv ≠ m1.length := by obtain ⟨_,_,_,h1,_,_,_⟩ := hD.da hd; have := h1.lv_lt; omega
 obtain ⟨e,⟨f2,tops2,own2,dead2,m2⟩,p1,p2,p3⟩ := loop16b hd hz hD (st := ⟨(24,.int .i64 0) :: f1,[],[],[],m1⟩) (by simp [S16,hg,hm1])
 simp only [c16,Cd.nth,Cd.loops,Cd.body,List.nil_append,List.append_nil,List.cons_append,List.append_assoc,List.getElem?_cons_succ,List.getElem?_cons_zero,Option.getD_some] at p1
 rcases p3 with ⟨rfl,hz2,ho,ht,hde,hg2,hD2⟩ | ⟨rfl,hg2,hD2⟩
 case inr =>
  simp only at hg2 hD2
  refine ⟨m2,?_,hD2⟩
  rw [app_fn E rfl h16 rfl]
  generalize (runE r laid).2 = w at *
  simp [c16,q1,p1,hg2]
 case inl =>
 simp only at ho ht hde hg2 hD2
 subst ho; subst ht; subst hde
 obtain ⟨v3,l3,c3,hd3,hs3,hlen3,hm3⟩ := hD2.da hd
 obtain ⟨m4,e1,e2⟩ := app66 (hd3.cons []) hs3 false 5118 rowsF fitsF (by decide)
 obtain ⟨m5,rfl,e3⟩ := e2.cons hd3
 have hF : runE r (tabs 4 ++ maps 4 ++ rowsF.map (Row5.ent 5118)) = runE (runE r (tabs 4 ++ maps 4)).1 (rowsF.map (Row5.ent 5118)) := runE_good hz2 _
 have hlaid : laid = (tabs 4 ++ maps 4 ++ rowsF.map (Row5.ent 5118)) ++ rowsS.map (Row5.ent 5119) := by rw [laid]; simp only [List.append_assoc]
 rw [← hF] at e1 e3
 have e4 := Does.trans hd (r1 := r) (c1 := c3) hm3 e3
 by_cases hc : (runE r (tabs 4 ++ maps 4 ++ rowsF.map (Row5.ent 5118))).2 = 0
 case neg =>
  have hc' : ((runE r (tabs 4 ++ maps 4 ++ rowsF.map (Row5.ent 5118))).2 != 0) = true := by simpa using hc
  have hfull : runE r laid = runE r (tabs 4 ++ maps 4 ++ rowsF.map (Row5.ent 5118)) := by rw [hlaid,runE_bad hc]
  rw [hfull]
  refine ⟨m5,?_,e4⟩
  rw [app_fn E rfl h16 rfl]
  generalize runE r (tabs 4 ++ maps 4 ++ rowsF.map (Row5.ent 5118)) = w at *
  obtain ⟨w1,w2⟩ := w
  simp only at e1 hc'
  simp [c16,q1,p1,hg2,app68b,e1,hc']
 case pos =>
  obtain ⟨v6,l6,c6,hd6,hs6,hlen6,hm6⟩ := e4.da hd
  obtain ⟨m7,g1,g2⟩ := app66 (hd6.cons []) hs6 false 5119 rowsS fitsS (by decide)
  obtain ⟨m8,rfl,g3⟩ := g2.cons hd6
  have hS : runE r laid = runE (runE r (tabs 4 ++ maps 4 ++ rowsF.map (Row5.ent 5118))).1 (rowsS.map (Row5.ent 5119)) := by rw [hlaid]; exact runE_good hc _
  rw [← hS] at g1 g3
  refine ⟨m8,?_,Does.trans hd (r1 := r) (c1 := c6) hm6 g3⟩
  have hms : 200 ≤ maxBytes := by unfold maxBytes; omega
  have hls : Ls rowsS = .agg [.int .i64 0,.int .i64 2,.int .i64 4,.int .i64 4,.bool true] :: Ls many4 := rfl
  have hl4 : (Ls many4).length = 4 := rfl
  rw [hls] at g1
  have h68 := app68c
  have hok4 := ls_okns many4
  rw [hc] at e1
  rw [app_fn E rfl h16 rfl]
  generalize Ls many4 = L4 at *
  generalize (runE r laid).2 = w at *
  simp [c16,q1,p1,hg2,app68b,e1,h68,g1,hl4,hms,hok4]
end
end Go.Proofs.Ytmffcpiffkclgaa.ZJM.DC
