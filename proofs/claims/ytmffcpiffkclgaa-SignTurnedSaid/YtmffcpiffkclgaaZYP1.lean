/- One deed with both dictionaries. -/
import Derived.Test.YtmffcpiffkclgaaZYS1
set_option linter.unusedSimpArgs false
set_option linter.unusedVariables false
set_option maxRecDepth 4000
namespace Go.Proofs.Ytmffcpiffkclgaa.ZJM.DC
open Go.Proofs.Ytmffcpiffkclgaa.ZJM Go.RowKit
structure Deed where
 (o i s k a l h : Int) (nb : Bool) (b : List Int) (n : Int)
def Deed.cs (x : Deed) : List PV := [.int .i64 x.o,.int .i64 x.i,.int .i64 x.s,.int .i64 x.k,.int .i64 x.a,.int .i64 x.l,.int .i64 x.h,Bl x.nb x.b,.int .i64 x.n]
def Deed.enc (x : Deed) : PV := .agg x.cs
def Deed.ok (x : Deed) : Prop := OkB x.b ∧ (x.nb = true → x.b = [])
theorem deed_datas (x : Deed) : PV.datas x.cs = true := by simp [Deed.cs,PV.datas,PV.data,bs_data]
theorem deed_data (x : Deed) : x.enc.data = true := by simp only [Deed.enc,PV.data]; exact deed_datas x
abbrev Ds (l : List Deed) : List PV := encs Deed.enc l
theorem ds_data (l : List Deed) : PV.datas (Ds l) = true := encs_data fun x _ => deed_data x
theorem ds_okns (l : List Deed) (a b c) : PV.okns a b c (Ds l) = true := PV.datas_okns _ _ _ _ (ds_data l)
theorem ds_deps (l : List Deed) (a) : PV.deps a (Ds l) = true := PV.datas_deps _ _ (ds_data l)
theorem ds_names (l : List Deed) (a) : PV.namess a (Ds l) = [] := PV.datas_namess _ _ (ds_data l)
theorem ds_rens (l : List Deed) (a b ρ) : PV.rens a b ρ (Ds l) = Ds l := PV.datas_rens _ _ _ _ (ds_data l)
attribute [simp] ds_okns ds_deps ds_names ds_rens
def Does (m : Mem) (lv a a' ver : Nat) (l : List Row) (c : Int) (r' : RD) (m' : Mem) : Prop := ∃ ver' l' c',m' = dset m lv a a' ver' l' c' ∧ Sim l' c' r'
section
variable {m : Mem} {lv a a' ver : Nat} {l : List Row} {c : Int} (hd : DA m lv a a' ver l c) {r : RD} (hs : Sim l c r)
include hd hs
theorem does_none : Does m lv a a' ver l c r m := ⟨ver,l,c,(dset_same hd).symm,hs⟩
theorem do_add (i s k a1 l1 h1 : Int) (nb : Bool) (b : List Int) (hb : OkB b) (hn : nb = true → b = []) :
  ∃ m',app E false (.fn 46 []) [.ptr lv a [] 0,ky i s,sp k a1 l1 h1,Bl nb b] m = some (.int .i64 (addRC r i s k a1 l1 h1 b),emptyBag,m') ∧ Does m lv a a' ver l c (addR r i s k a1 l1 h1 b) m' := by
 obtain ⟨ver',h⟩ := app13 hd hs.dok i s k a1 l1 h1 nb b hb hn
 have hc := hs.addC i s k a1 l1 h1 b
 rw [hc] at h
 by_cases hz : addRC r i s k a1 l1 h1 b = 0
 ·rw [if_pos hz] at h
  exact ⟨_,h,ver',_,_,rfl,hs.add i s k a1 l1 h1 nb b hb hn (by rw [hc]; exact hz)⟩
 ·rw [if_neg hz] at h
  refine ⟨_,h,?_⟩
  rw [addR,if_neg hz]
  exact does_none hd hs
theorem do_set (i s n : Int) :
  ∃ m',app E false (.fn 69 []) [.ptr lv a [] 0,ky i s,.int .i64 n] m = some (.int .i64 (setC r i s n),emptyBag,m') ∧ Does m lv a a' ver l c (setR r i s n) m' := by
 obtain ⟨ver',h⟩ := app48 hd hs.dok i s n
 have hc := hs.setC i s n
 rw [hc] at h
 by_cases hz : setC r i s n = 0
 ·rw [if_pos hz] at h
  exact ⟨_,h,ver',_,_,rfl,hs.set i s n (by rw [hc]; exact hz)⟩
 ·rw [if_neg hz] at h
  refine ⟨_,h,?_⟩
  rw [setR,if_neg hz]
  exact does_none hd hs
end
theorem Does.cons {m : Mem} {lv a a' ver : Nat} {l : List Row} {c : Int} (hd : DA m lv a a' ver l c) {r' : RD} {m' : Mem} {own : Lvl} (h : Does (own :: m) lv a a' ver l c r' m') : ∃ m2,m' = own :: m2 ∧ Does m lv a a' ver l c r' m2 := by
 obtain ⟨v,l',c',e1,e2⟩ := h
 rw [dset_cons hd] at e1
 exact ⟨_,e1,v,l',c',rfl,e2⟩
theorem Does.da {m : Mem} {lv a a' ver : Nat} {l : List Row} {c : Int} (hd : DA m lv a a' ver l c) {r' : RD} {m' : Mem} (h : Does m lv a a' ver l c r' m') : ∃ ver' l' c',DA m' lv a a' ver' l' c' ∧ Sim l' c' r' ∧ m'.length = m.length ∧ m' = dset m lv a a' ver' l' c' := by
 obtain ⟨v,l',c',rfl,e2⟩ := h
 exact ⟨v,l',c',dset_da hd v l' c',e2,dset_len hd v l' c',rfl⟩
theorem Does.trans {m : Mem} {lv a a' ver : Nat} {l : List Row} {c : Int} (hd : DA m lv a a' ver l c) {m1 m2 : Mem} {r1 r2 : RD} {ver1 : Nat} {l1 : List Row} {c1 : Int} (h1 : m1 = dset m lv a a' ver1 l1 c1) (h2 : Does m1 lv a a' ver1 l1 c1 r2 m2) : Does m lv a a' ver l c r2 m2 := by
 obtain ⟨v,l',c',e1,e2⟩ := h2
 refine ⟨v,l',c',?_,e2⟩
 rw [e1,h1,dset_dset hd]
section
variable {m : Mem} {lv a a' ver : Nat} {l : List Row} {c : Int} (hd : DA m lv a a' ver l c) {r : RD} (hs : Sim l c r) (x : Deed) (hx : x.ok)
include hd hs hx
end
end Go.Proofs.Ytmffcpiffkclgaa.ZJM.DC
set_option linter.unusedSimpArgs false
set_option linter.unusedVariables false
set_option maxRecDepth 4000
namespace Go.Proofs.Ytmffcpiffkclgaa.ZJM.DC
open Go.Proofs.Ytmffcpiffkclgaa.ZJM Go.RowKit
section
variable {m : Mem} {lv a a' ver : Nat} {l : List Row} {c : Int} (hd : DA m lv a a' ver l c) {r : RD} (hs : Sim l c r)
include hd hs
end
end Go.Proofs.Ytmffcpiffkclgaa.ZJM.DC
