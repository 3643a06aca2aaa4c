/- The document's dictionary: entries in no order; where one stands; why there is none. -/
import Derived.Test.YtmffcpiffkclgaaZYK1
set_option linter.unusedSimpArgs false
set_option linter.unusedVariables false
set_option maxRecDepth 4000
namespace Go.Proofs.Ytmffcpiffkclgaa.ZJM.DC
open Go.Proofs.Ytmffcpiffkclgaa.ZJM Go.RowKit
structure Ent where
 (i s k a l h : Int) (b : List Int)
def Ent.cs (x : Ent) : List PV := [.int .i64 x.i,.int .i64 x.s,.int .i64 x.k,.int .i64 x.a,.int .i64 x.l,.int .i64 x.h,.str (strOf x.b)]
def Ent.enc (x : Ent) : PV := .agg x.cs
abbrev Es (l : List Ent) : List PV := encs Ent.enc l
theorem es_data (l : List Ent) : PV.datas (Es l) = true := encs_data fun x _ => rfl
theorem es_okns (l : List Ent) (a b c) : PV.okns a b c (Es l) = true := PV.datas_okns _ _ _ _ (es_data l)
theorem es_deps (l : List Ent) (a) : PV.deps a (Es l) = true := PV.datas_deps _ _ (es_data l)
theorem es_names (l : List Ent) (a) : PV.namess a (Es l) = [] := PV.datas_namess _ _ (es_data l)
theorem es_rens (l : List Ent) (a b ρ) : PV.rens a b ρ (Es l) = Es l := PV.datas_rens _ _ _ _ (es_data l)
theorem es_getE (l : List Ent) (i : Nat) (h : i < (Es l).length) : (Es l)[i] = (l[i]'(by simpa [encs] using h)).enc := encs_getE l i h
attribute [simp] es_okns es_deps es_names es_rens
abbrev El (nl : Bool) (l : List Ent) : PV := .lst none nl 7 (Es l)
abbrev rd (nl : Bool) (l : List Ent) (c : Int) : PV := .agg [El nl l,.int .i64 c]
def Ent.is (i s : Int) (x : Ent) : Bool := x.i == i && x.s == s
def findIx (l : List Ent) (i s : Int) : Option Nat := l.findIdx? (Ent.is i s)
def atA (l : List Ent) (i s : Int) : Int := match findIx l i s with | some n => n | none => -1
theorem findIx_some {l : List Ent} {i s : Int} {n : Nat} (h : findIx l i s = some n) : ∃ hn : n < l.length,l[n].i = i ∧ l[n].s = s := by
 unfold findIx at h
 rw [List.findIdx?_eq_some_iff_getElem] at h
 obtain ⟨h1,h2,_⟩ := h
 simp only [Ent.is,Bool.and_eq_true,beq_iff_eq] at h2
 exact ⟨h1,h2⟩
theorem findIx_none {l : List Ent} {i s : Int} (h : findIx l i s = none) : ∀ x ∈ l,¬ (x.i = i ∧ x.s = s) := by
 unfold findIx at h
 rw [List.findIdx?_eq_none_iff] at h
 intro x hx hh
 have := h x hx
 simp [Ent.is,hh.1,hh.2] at this
section
variable (nl : Bool) (l : List Ent) (c i s : Int)
def S33 (j : Nat) : St := ⟨[(2,.ptr 0 2 [] 0),(3,.ptr 0 3 [] 0),(5,.int .i64 j)],[],[(2,[El nl l,.int .i64 c]),(3,[.int .i64 i,.int .i64 s])],[],[]⟩
theorem loop33 (hl : l.length ≤ 512) {st : St} (h0 : maskSt [2,3,5] [2,3] [] [] st = some (S33 nl l c i s 0)) :
  ∃ j,j ≤ l.length ∧ (∀ t,t < j → ¬ ∃ h : t < l.length,l[t].is i s = true) ∧ (j < l.length → ∃ h : j < l.length,l[j].is i s = true) ∧
   loopW (maskSt [2,3,5] [2,3] [] []) (Cd.run (app E) c33.body.inner.body) st = c33.body.inner.body.run (app E) (S33 nl l c i s j) := by
 refine loop_eq_until (S33 nl l c i s) l.length (fun j => ∃ h : j < l.length,l[j].is i s = true) (fun j hj hn => ?_) (fun j hj hs => ?_) ?_ h0
 ·have hj' : (j : Int) < l.length := by omega
  have hw := wrap_succ j (by omega)
  have hq : (l[j].i == i && l[j].s == s) = false := by
   cases hh : l[j].is i s with
   | true => exact absurd ⟨hj,hh⟩ hn
   | false => exact hh
  unfold S33
  simp [c33,Cd.inner,Cd.body,hj',hj,hw,es_getE,Ent.enc,Ent.cs,hq]
 ·obtain ⟨_,hs⟩ := hs
  have hj' : (j : Int) < l.length := by omega
  have hq : (l[j].i == i && l[j].s == s) = true := hs
  unfold S33
  simp [c33,Cd.inner,Cd.body,hj',hj,es_getE,Ent.enc,Ent.cs,hq]
 ·simp [c33,Cd.inner,Cd.body,S33]
theorem app33 (hl : l.length ≤ 512) : app E false (.fn 67 []) [rd nl l c,ky i s] [] = some (.int .i64 (atA l i s),emptyBag,[]) := by
 rw [app_fn E rfl h33 rfl]
 obtain ⟨j,h1,h2,h3,h4⟩ := @loop33 nl l c i s hl ⟨[(5,.int .i64 0),(4,.int .i64 0),(3,.ptr 0 3 [] 0),(2,.ptr 0 2 [] 0),(0,rd nl l c),(1,ky i s)],[],[(3,[.int .i64 i,.int .i64 s]),(2,[El nl l,.int .i64 c])],[],[]⟩ (by simp [S33])
 simp only [c33,Cd.inner,Cd.body] at h4
 simp [c33]
 rw [h4]
 by_cases hj : j < l.length
 ·obtain ⟨_,hs⟩ := h3 hj
  have hj' : (j : Int) < l.length := by omega
  have hq : (l[j].i == i && l[j].s == s) = true := hs
  have hat : atA l i s = j := by
   have : findIx l i s = some j := by
    unfold findIx
    rw [List.findIdx?_eq_some_iff_getElem]
    exact ⟨hj,hs,fun t ht => by
     have := h2 t ht
     cases hh : l[t].is i s with
     | true => exact absurd ⟨by omega,hh⟩ this
     | false => simp⟩
   simp [atA,this]
  simp [S33,hj',hj,es_getE,Ent.enc,Ent.cs,hq,hat]
 ·have hj2 : j = l.length := by omega
  subst hj2
  have hat : atA l i s = -1 := by
   have : findIx l i s = none := by
    unfold findIx
    rw [List.findIdx?_eq_none_iff]
    intro x hx
    obtain ⟨t,ht,rfl⟩ := List.mem_iff_getElem.1 hx
    cases hh : l[t].is i s with
    | true => exact absurd ⟨ht,hh⟩ (h2 t ht)
    | false => rfl
   simp [atA,this]
  simp [S33,hat]
def missA (l : List Ent) (i : Int) : Int := if l.any (fun x => x.i == i) = true then 101253137 else 100794368
end
end Go.Proofs.Ytmffcpiffkclgaa.ZJM.DC
set_option linter.unusedSimpArgs false
set_option linter.unusedVariables false
set_option maxRecDepth 4000
namespace Go.Proofs.Ytmffcpiffkclgaa.ZJM.DC
open Go.Proofs.Ytmffcpiffkclgaa.ZJM Go.RowKit
abbrev Ec (l : List Ent) : List PV := flats Ent.cs l
theorem ec_data (l : List Ent) : PV.datas (Ec l) = true := flats_data (fun _ => rfl) l
theorem ec_okns (l : List Ent) (a b c) : PV.okns a b c (Ec l) = true := PV.datas_okns _ _ _ _ (ec_data l)
theorem ec_deps (l : List Ent) (a) : PV.deps a (Ec l) = true := PV.datas_deps _ _ (ec_data l)
theorem ec_names (l : List Ent) (a) : PV.namess a (Ec l) = [] := PV.datas_namess _ _ (ec_data l)
theorem ec_rens (l : List Ent) (a b ρ) : PV.rens a b ρ (Ec l) = Ec l := PV.datas_rens _ _ _ _ (ec_data l)
attribute [simp] ec_okns ec_deps ec_names ec_rens
structure RD where
 (nl : Bool) (l : List Ent) (c : Int)
abbrev RD.pv (r : RD) : PV := rd r.nl r.l r.c
def okE (x : Ent) : Prop := OkB x.b ∧ okK x.i x.s = true ∧ mayA x.k x.a x.l x.h = true ∧ fitsA x.k x.a x.l x.h x.b = 0
def RD.ok (r : RD) : Prop := r.l.length ≤ 512 ∧ ∀ x ∈ r.l,okE x
def upE (l : List Ent) (n : Nat) (b : List Int) : List Ent := l.modify n fun x => { x with b := b }
def bump (c : Int) (same : Bool) : Int := if same = true then c else IntKind.i64.wrap (c + 1)
def bAt (l : List Ent) (n : Nat) : List Int := (l[n]?.map Ent.b).getD []
def holdR (r : RD) (n : Nat) (b : List Int) : RD := ⟨false,upE r.l n b,bump r.c (decide (bAt r.l n = b))⟩
end Go.Proofs.Ytmffcpiffkclgaa.ZJM.DC
set_option linter.unusedSimpArgs false
set_option linter.unusedVariables false
set_option maxRecDepth 4000
namespace Go.Proofs.Ytmffcpiffkclgaa.ZJM.DC
open Go.Proofs.Ytmffcpiffkclgaa.ZJM Go.RowKit
theorem u8_id (x : Int) (hx : 0 ≤ x ∧ x < 256) : ((UInt8.ofNat x.toNat).toNat : Int) = x := by
 rw [UInt8.toNat_ofNat']; omega
theorem strBytes_strOf {b : List Int} (hb : OkB b) : strBytes (strOf b) = Bs b := by
 unfold strBytes strOf
 rw [toList_mk,List.map_map]
 refine List.map_congr_left fun x hx => ?_
 simp only [Function.comp_apply,u8_id x (hb x hx)]
theorem strOf_size (b : List Int) : (strOf b).size = b.length := by simp [strOf,ByteArray.size]
theorem fits_len {k a l h : Int} {b : List Int} (hf : fitsA k a l h b = 0) : b.length ≤ 64 := by
 by_cases hz : 0 < ksz k
 ·have := (fits_get hz hf).2.2.1
  have := ksz_le k
  omega
 ·by_cases hm : mayA k a l h = true
  ·obtain ⟨rfl,h1,h2,h3⟩ := may_text hm hz
   rw [fitsA,if_pos hm,if_neg hz] at hf
   unfold lenA at hf
   by_cases d1 : (b.length : Int) < l
   ·rw [if_pos d1] at hf; simp at hf
   ·rw [if_neg d1] at hf
    by_cases d2 : (b.length : Int) > h
    ·rw [if_pos d2] at hf; simp at hf
    ·omega
  ·rw [fitsA,if_neg hm] at hf; simp at hf
def firstB (k a l h : Int) (b : List Int) : List Int := if b = [] ∧ fitsA k a l h b ≠ 0 then firstA k l h else b
def addC (ok : Bool) (k a l h : Int) (b : List Int) (has : Bool) (n : Nat) : Int :=
 if ok = true ∧ mayA k a l h = true then (if fitsA k a l h (firstB k a l h b) = 0 then (if has = true then 8 else if n = 512 then 6 else 0) else 14) else 2
def hasA (l : List Ent) (i s : Int) : Bool := decide (0 ≤ atA l i s)
def addRC (r : RD) (i s k a l h : Int) (b : List Int) : Int := addC (okK i s) k a l h b (hasA r.l i s) r.l.length
def addR (r : RD) (i s k a l h : Int) (b : List Int) : RD := if addRC r i s k a l h b = 0 then ⟨false,r.l ++ [⟨i,s,k,a,l,h,firstB k a l h b⟩],r.c⟩ else r
theorem zs_ok (n : Nat) : OkB (zs n) := by
 intro x hx
 simp only [zs,List.mem_replicate] at hx
 omega
theorem firstA_ok (k l h : Int) : OkB (firstA k l h) := by
 unfold firstA
 split
 ·exact kb_ok _ _
 ·exact zs_ok _
theorem firstB_ok {k a l h : Int} {b : List Int} (hb : OkB b) : OkB (firstB k a l h b) := by
 unfold firstB
 split
 ·exact firstA_ok _ _ _
 ·exact hb
theorem bl_nil {b : List Int} (h : b = []) : ((b.length : Int) == 0) = true := by subst h; rfl
theorem bl_cons {b : List Int} (h : b ≠ []) : ((b.length : Int) == 0) = false := by
 cases b with
 | nil => exact absurd rfl h
 | cons x r => simp; omega
theorem app12 (r : RD) (hr : r.l.length ≤ 512) (i s k a l h : Int) (nb : Bool) (b : List Int) (hb : OkB b) :
  app E false (.fn 47 []) [r.pv,ky i s,sp k a l h,Bl nb b] [] = some (.tup [(addR r i s k a l h b).pv,.int .i64 (addRC r i s k a l h b)],emptyBag,[]) := by
 rw [app_fn E rfl h12 rfl]
 obtain ⟨nl,L,c⟩ := r
 have hat := app33 nl L c i s hr
 simp only [RD.pv,addR,addRC] at *
 by_cases d1 : okK i s = true
 case neg => simp [c12,app44,d1,addC]
 case pos =>
  by_cases d2 : mayA k a l h = true
  case neg => simp [c12,app44,app53,d1,d2,addC]
  case pos =>
   have key : ∀ (nb' : Bool) (b' : List Int),OkB b' → firstB k a l h b = b' → app E false (.fn 66 []) [sp k a l h,Bl nb' b'] [] = some (.int .i64 (fitsA k a l h b'),emptyBag,[]) := fun nb' b' h1 _ => app27 k a l h nb' b' h1
   have hbb : L.length * 64 ≤ maxBytes := by unfold maxBytes; omega
   have hbc : (L.length + 1) * 64 ≤ maxBytes := by unfold maxBytes; omega
   by_cases d3 : b = [] ∧ fitsA k a l h b ≠ 0
   ·have e1 : firstB k a l h b = firstA k l h := by rw [firstB,if_pos d3]
    obtain ⟨rfl,d4⟩ := d3
    have d4' : (fitsA k a l h [] != 0) = true := by simpa using d4
    have k0 := app27 k a l h nb [] hb
    have k1 := app27 k a l h false (firstA k l h) (firstA_ok k l h)
    have k2 := app54 k a l h d2
    have k0' : app E false (.fn 66 []) [sp k a l h,.lst none nb 1 []] [] = some (.int .i64 (fitsA k a l h []),emptyBag,[]) := k0
    by_cases d5 : fitsA k a l h (firstA k l h) = 0
    ·by_cases d6 : hasA L i s = true
     case pos =>
      have d6' : 0 ≤ atA L i s := by simpa [hasA] using d6
      simp [c12,app44,app53,d1,d2,addC,k0',k1,k2,d4,d4',d5,e1,hat,d6,d6']
     case neg =>
      have d6' : ¬ 0 ≤ atA L i s := by simpa [hasA] using d6
      by_cases d7 : L.length = 512
      ·have d7' : ((L.length : Int) == 512) = true := by simp; omega
       simp [c12,app44,app53,d1,d2,addC,k0',k1,k2,d4,d4',d5,e1,hat,d6,d6',d7,d7']
      ·have d7' : ((L.length : Int) == 512) = false := by simp; omega
       simp [c12,app44,app53,d1,d2,addC,k0',k1,k2,d4,d4',d5,e1,hat,d6,d6',d7,d7',hbb,hbc,bytesP_bs,Ent.enc,Ent.cs]
    ·have d5' : (fitsA k a l h (firstA k l h) != 0) = true := by simpa using d5
     simp [c12,app44,app53,d1,d2,addC,k0',k1,k2,d4,d4',d5,d5',e1]
   ·have e1 : firstB k a l h b = b := by rw [firstB,if_neg d3]
    have k1 := app27 k a l h nb b hb
    have key2 : (b ≠ []) ∨ (b = [] ∧ fitsA k a l h b = 0) := by
     by_cases q : b = []
     ·exact .inr ⟨q,by
       by_cases q2 : fitsA k a l h b = 0
       ·exact q2
       ·exact absurd ⟨q,q2⟩ d3⟩
     ·exact .inl q
    have f1 : ((b.length : Int) == 0) = false ∨ ((b.length : Int) == 0) = true ∧ (fitsA k a l h b != 0) = false := by
     rcases key2 with q | ⟨q,q2⟩
     ·exact .inl (bl_cons q)
     ·exact .inr ⟨bl_nil q,by simpa using q2⟩
    by_cases d5 : fitsA k a l h b = 0
    ·have d5' : (fitsA k a l h b != 0) = false := by simpa using d5
     by_cases d6 : hasA L i s = true
     case pos =>
      have d6' : 0 ≤ atA L i s := by simpa [hasA] using d6
      rcases f1 with f1 | ⟨f1,f2⟩ <;> simp [c12,app44,app53,d1,d2,addC,k1,d5,d5',e1,hat,d6,d6', *]
     case neg =>
      have d6' : ¬ 0 ≤ atA L i s := by simpa [hasA] using d6
      by_cases d7 : L.length = 512
      ·have d7' : ((L.length : Int) == 512) = true := by simp; omega
       rcases f1 with f1 | ⟨f1,f2⟩ <;> simp [c12,app44,app53,d1,d2,addC,k1,d5,d5',e1,hat,d6,d6',d7,d7', *]
      ·have d7' : ((L.length : Int) == 512) = false := by simp; omega
       rcases f1 with f1 | ⟨f1,f2⟩ <;> simp [c12,app44,app53,d1,d2,addC,k1,d5,d5',e1,hat,d6,d6',d7,d7',hbb,hbc,bytesP_bs,Ent.enc,Ent.cs, *]
    ·have d5' : (fitsA k a l h b != 0) = true := by simpa using d5
     have f1 : ((b.length : Int) == 0) = false := by
      rcases f1 with f1 | ⟨_,f2⟩
      ·exact f1
      ·rw [d5'] at f2; cases f2
     simp [c12,app44,app53,d1,d2,addC,k1,d5,d5',e1,f1]
end Go.Proofs.Ytmffcpiffkclgaa.ZJM.DC
set_option linter.unusedSimpArgs false
set_option linter.unusedVariables false
set_option maxRecDepth 4000
namespace Go.Proofs.Ytmffcpiffkclgaa.ZJM.DC
open Go.Proofs.Ytmffcpiffkclgaa.ZJM Go.RowKit
theorem atA_none {l : List Ent} {i s : Int} (h : findIx l i s = none) : atA l i s = -1 := by simp [atA,h]
theorem atA_some {l : List Ent} {i s : Int} {n : Nat} (h : findIx l i s = some n) : atA l i s = n := by simp [atA,h]
theorem maxB64 {n : Nat} (h : n ≤ 64) : n ≤ maxBytes := by unfold maxBytes; omega
def readR (r : RD) (i s : Int) : List Int × Int := match findIx r.l i s with
 | none => ([],missA r.l i)
 | some n => match r.l[n]? with
  | none => ([],0)
  | some x => if readsA x.a = 0 then (x.b,0) else ([],readsA x.a)
def writeC (r : RD) (i s : Int) (b : List Int) : Int := match findIx r.l i s with
 | none => missA r.l i
 | some n => match r.l[n]? with
  | none => 0
  | some x => if writesA x.a = 0 then fitsA x.k x.a x.l x.h b else writesA x.a
def holdAt (r : RD) (i s : Int) (b : List Int) : RD := match findIx r.l i s with
 | none => r
 | some n => holdR r n b
def writeR (r : RD) (i s : Int) (b : List Int) : RD := if writeC r i s b = 0 then holdAt r i s b else r
def putC (r : RD) (i s : Int) (b : List Int) : Int := match findIx r.l i s with
 | none => 7
 | some n => match r.l[n]? with
  | none => 0
  | some x => if x.a = 4 then 12 else if fitsA x.k x.a x.l x.h b = 0 then 0 else 14
def putR (r : RD) (i s : Int) (b : List Int) : RD := if putC r i s b = 0 then holdAt r i s b else r
def numR (r : RD) (i s : Int) : Int × Bool := match findIx r.l i s with
 | none => (0,false)
 | some n => match r.l[n]? with
  | none => (0,false)
  | some x => numA x.k x.a x.l x.h x.b
def setC (r : RD) (i s n : Int) : Int := match findIx r.l i s with
 | none => 7
 | some j => match r.l[j]? with
  | none => 0
  | some x => if x.a = 4 then 12 else if x.k = 8 then 2 else if n < x.l ∨ x.h < n then 14 else 0
def setB (r : RD) (i s n : Int) : List Int := match findIx r.l i s with
 | none => []
 | some j => match r.l[j]? with
  | none => []
  | some x => kb (ksz x.k).toNat n
def setR (r : RD) (i s n : Int) : RD := if setC r i s n = 0 then holdAt r i s (setB r i s n) else r
theorem may_num {k a l h : Int} (hm : mayA k a l h = true) (h8 : k ≠ 8) : 0 < ksz k := by
 by_cases hz : 0 < ksz k
 ·exact hz
 ·exact absurd (may_text hm hz).1 h8
end Go.Proofs.Ytmffcpiffkclgaa.ZJM.DC
set_option linter.unusedSimpArgs false
set_option linter.unusedVariables false
set_option maxRecDepth 4000
namespace Go.Proofs.Ytmffcpiffkclgaa.ZJM.DC
open Go.Proofs.Ytmffcpiffkclgaa.ZJM Go.RowKit
def lessE (x y : Ent) : Bool := decide (x.i < y.i) || (x.i == y.i && decide (x.s < y.s))
def insE (x : Ent) : List Ent → List Ent
 | [] => [x]
 | y :: r => if lessE y x = true then y :: insE x r else x :: y :: r
def sortE (l : List Ent) : List Ent := l.foldl (fun acc x => insE x acc) []
theorem insE_len (x : Ent) (o : List Ent) : (insE x o).length = o.length + 1 := by
 induction o with
 | nil => rfl
 | cons y r ih => simp only [insE]; split <;> simp [ih]
theorem sortE_len (l : List Ent) : (sortE l).length = l.length := by
 suffices h : ∀ (l acc : List Ent),(l.foldl (fun acc x => insE x acc) acc).length = acc.length + l.length by simpa [sortE] using h l []
 intro l
 induction l with
 | nil => intro acc; simp
 | cons x r ih => intro acc; simp only [List.foldl_cons,ih,insE_len,List.length_cons]; omega
section
variable (nl : Bool) (l : List Ent) (c : Int)
end
end Go.Proofs.Ytmffcpiffkclgaa.ZJM.DC
