/- One deed with both dictionaries. -/
import Derived.Test.YtnagbdodcjlbjaaZDS1
set_option linter.unusedSimpArgs false
set_option linter.unusedVariables false
set_option maxRecDepth 4000
namespace Go.Proofs.Ytnagbdodcjlbjaa.ZJM.DC
open Go.Proofs.Ytnagbdodcjlbjaa.ZJM Go.RowKit

structure Deed where
  (o i s k a l h : Int) (nb : Bool) (b : List Int) (n : Int)
def Deed.cs (x : Deed) : List PV := [.int .i64 x.o, .int .i64 x.i, .int .i64 x.s, .int .i64 x.k, .int .i64 x.a, .int .i64 x.l, .int .i64 x.h, Bl x.nb x.b, .int .i64 x.n]
def Deed.enc (x : Deed) : PV := .agg x.cs
def Deed.ok (x : Deed) : Prop := OkB x.b ∧ (x.nb = true → x.b = [])
theorem deed_datas (x : Deed) : PV.datas x.cs = true := by simp [Deed.cs, PV.datas, PV.data, bs_data]
theorem deed_data (x : Deed) : x.enc.data = true := by simp only [Deed.enc, PV.data]; exact deed_datas x
abbrev Ds (l : List Deed) : List PV := encs Deed.enc l
theorem ds_data (l : List Deed) : PV.datas (Ds l) = true := encs_data fun x _ => deed_data x
theorem ds_okns (l : List Deed) (a b c) : PV.okns a b c (Ds l) = true := PV.datas_okns _ _ _ _ (ds_data l)
theorem ds_deps (l : List Deed) (a) : PV.deps a (Ds l) = true := PV.datas_deps _ _ (ds_data l)
theorem ds_names (l : List Deed) (a) : PV.namess a (Ds l) = [] := PV.datas_namess _ _ (ds_data l)
theorem ds_rens (l : List Deed) (a b ρ) : PV.rens a b ρ (Ds l) = Ds l := PV.datas_rens _ _ _ _ (ds_data l)
theorem ds_getE (l : List Deed) (i : Nat) (h : i < (Ds l).length) : (Ds l)[i] = (l[i]'(by simpa [encs] using h)).enc := encs_getE l i h
attribute [simp] ds_okns ds_deps ds_names ds_rens

/-- What a method of the dictionary does, in short. -/
def Does (m : Mem) (lv a a' ver : Nat) (l : List Row) (c : Int) (r' : RD) (m' : Mem) : Prop := ∃ ver' l' c', m' = dset m lv a a' ver' l' c' ∧ Sim l' c' r'
section
variable {m : Mem} {lv a a' ver : Nat} {l : List Row} {c : Int} (hd : DA m lv a a' ver l c) {r : RD} (hs : Sim l c r)
include hd hs
theorem does_none : Does m lv a a' ver l c r m := ⟨ver, l, c, (dset_same hd).symm, hs⟩
theorem do_add (i s k a1 l1 h1 : Int) (nb : Bool) (b : List Int) (hb : OkB b) (hn : nb = true → b = []) :
    ∃ m', app E false (.fn 13 []) [.ptr lv a [] 0, ky i s, sp k a1 l1 h1, Bl nb b] m = some (.int .i64 (addRC r i s k a1 l1 h1 b), emptyBag, m') ∧ Does m lv a a' ver l c (addR r i s k a1 l1 h1 b) m' := by
  obtain ⟨ver', h⟩ := app13 hd hs.dok i s k a1 l1 h1 nb b hb hn
  have hc := hs.addC i s k a1 l1 h1 b
  rw [hc] at h
  by_cases hz : addRC r i s k a1 l1 h1 b = 0
  · rw [if_pos hz] at h
    exact ⟨_, h, ver', _, _, rfl, hs.add i s k a1 l1 h1 nb b hb hn (by rw [hc]; exact hz)⟩
  · rw [if_neg hz] at h
    refine ⟨_, h, ?_⟩
    rw [addR, if_neg hz]
    exact does_none hd hs
theorem do_put (i s : Int) (nb : Bool) (b : List Int) (hb : OkB b) (hn : nb = true → b = []) :
    ∃ m', app E false (.fn 47 []) [.ptr lv a [] 0, ky i s, Bl nb b] m = some (.int .i64 (putC r i s b), emptyBag, m') ∧ Does m lv a a' ver l c (putR r i s b) m' := by
  obtain ⟨ver', h⟩ := app47 hd hs.dok i s nb b hb hn
  have hc := hs.putC i s b
  rw [hc] at h
  by_cases hz : putC r i s b = 0
  · rw [if_pos hz] at h
    exact ⟨_, h, ver', _, _, rfl, hs.put i s nb b hb hn (by rw [hc]; exact hz)⟩
  · rw [if_neg hz] at h
    refine ⟨_, h, ?_⟩
    rw [putR, if_neg hz]
    exact does_none hd hs
theorem do_write (i s : Int) (nb : Bool) (b : List Int) (hb : OkB b) (hn : nb = true → b = []) :
    ∃ m', app E false (.fn 25 []) [.ptr lv a [] 0, ky i s, Bl nb b] m = some (.int .i64 (writeC r i s b), emptyBag, m') ∧ Does m lv a a' ver l c (writeR r i s b) m' := by
  obtain ⟨ver', h⟩ := app25 hd hs.dok i s nb b hb hn
  have hc := hs.writeC i s b
  rw [hc] at h
  by_cases hz : writeC r i s b = 0
  · rw [if_pos hz] at h
    exact ⟨_, h, ver', _, _, rfl, hs.write i s nb b hb hn (by rw [hc]; exact hz)⟩
  · rw [if_neg hz] at h
    refine ⟨_, h, ?_⟩
    rw [writeR, if_neg hz]
    exact does_none hd hs
theorem do_set (i s n : Int) :
    ∃ m', app E false (.fn 48 []) [.ptr lv a [] 0, ky i s, .int .i64 n] m = some (.int .i64 (setC r i s n), emptyBag, m') ∧ Does m lv a a' ver l c (setR r i s n) m' := by
  obtain ⟨ver', h⟩ := app48 hd hs.dok i s n
  have hc := hs.setC i s n
  rw [hc] at h
  by_cases hz : setC r i s n = 0
  · rw [if_pos hz] at h
    exact ⟨_, h, ver', _, _, rfl, hs.set i s n (by rw [hc]; exact hz)⟩
  · rw [if_neg hz] at h
    refine ⟨_, h, ?_⟩
    rw [setR, if_neg hz]
    exact does_none hd hs
end
theorem Does.cons {m : Mem} {lv a a' ver : Nat} {l : List Row} {c : Int} (hd : DA m lv a a' ver l c) {r' : RD} {m' : Mem} {own : Lvl} (h : Does (own :: m) lv a a' ver l c r' m') : ∃ m2, m' = own :: m2 ∧ Does m lv a a' ver l c r' m2 := by
  obtain ⟨v, l', c', e1, e2⟩ := h
  rw [dset_cons hd] at e1
  exact ⟨_, e1, v, l', c', rfl, e2⟩
theorem Does.da {m : Mem} {lv a a' ver : Nat} {l : List Row} {c : Int} (hd : DA m lv a a' ver l c) {r' : RD} {m' : Mem} (h : Does m lv a a' ver l c r' m') : ∃ ver' l' c', DA m' lv a a' ver' l' c' ∧ Sim l' c' r' ∧ m'.length = m.length ∧ m' = dset m lv a a' ver' l' c' := by
  obtain ⟨v, l', c', rfl, e2⟩ := h
  exact ⟨v, l', c', dset_da hd v l' c', e2, dset_len hd v l' c', rfl⟩
theorem Does.trans {m : Mem} {lv a a' ver : Nat} {l : List Row} {c : Int} (hd : DA m lv a a' ver l c) {m1 m2 : Mem} {r1 r2 : RD} {ver1 : Nat} {l1 : List Row} {c1 : Int} (h1 : m1 = dset m lv a a' ver1 l1 c1) (h2 : Does m1 lv a a' ver1 l1 c1 r2 m2) : Does m lv a a' ver l c r2 m2 := by
  obtain ⟨v, l', c', e1, e2⟩ := h2
  refine ⟨v, l', c', ?_, e2⟩
  rw [e1, h1, dset_dset hd]
/-- What is done. -/
def deedR (r : RD) (x : Deed) : RD :=
  if x.o = 0 then addR r x.i x.s x.k x.a x.l x.h x.b else if x.o = 1 then writeR r x.i x.s x.b else if x.o = 2 then putR r x.i x.s x.b else if x.o = 3 then setR r x.i x.s x.n else r
section
variable {m : Mem} {lv a a' ver : Nat} {l : List Row} {c : Int} (hd : DA m lv a a' ver l c) {r : RD} (hs : Sim l c r) (x : Deed) (hx : x.ok)
include hd hs hx
theorem app49 (h4 : x.o ≠ 4) : ∃ m', app E false (.fn 49 []) [.ptr lv a [] 0, r.pv, x.enc] m = some (.tup [.ptr lv a [] 0, (deedR r x).pv, .bool true], emptyBag, m') ∧ Does m lv a a' ver l c (deedR r x) m' := by
  have hlt := hd.lv_lt
  have hlv : lv ≠ m.length := by omega
  have h4' : (x.o == 4) = false := by simpa using h4
  obtain ⟨hx1, hx2⟩ := hx
  rw [app_fn E rfl h49 rfl]
  unfold deedR
  by_cases c0 : x.o = 0
  · obtain ⟨m', e1, e2⟩ := do_add (hd.cons [(7, [.lst none true 7 [], .int .i64 0]), (5, x.cs), (4, [El (addR r x.i x.s x.k x.a x.l x.h x.b).nl (addR r x.i x.s x.k x.a x.l x.h x.b).l, .int .i64 (addR r x.i x.s x.k x.a x.l x.h x.b).c])]) hs x.i x.s x.k x.a x.l x.h x.nb x.b hx1 hx2
    obtain ⟨m2, rfl, e3⟩ := e2.cons hd
    refine ⟨m2, ?_, by rw [if_pos c0]; exact e3⟩
    have hr := app12 r hs.rok.1 x.i x.s x.k x.a x.l x.h x.nb x.b hx1
    obtain ⟨_, _, _, _, _, hl2, _⟩ := e3.da hd
    rw [if_pos c0]
    generalize addR r x.i x.s x.k x.a x.l x.h x.b = r' at *
    simp only [RD.pv, Deed.cs] at *
    rw [c0] at e1
    simp [c49, Deed.enc, Deed.cs, c0, hr, e1, hl2, hlv]
  by_cases c1 : x.o = 1
  · obtain ⟨m', e1, e2⟩ := do_write (hd.cons [(7, [.lst none true 7 [], .int .i64 0]), (5, x.cs), (4, [El (writeR r x.i x.s x.b).nl (writeR r x.i x.s x.b).l, .int .i64 (writeR r x.i x.s x.b).c])]) hs x.i x.s x.nb x.b hx1 hx2
    obtain ⟨m2, rfl, e3⟩ := e2.cons hd
    refine ⟨m2, ?_, by rw [if_neg c0, if_pos c1]; exact e3⟩
    have hr := app93 r hs.rok x.i x.s x.nb x.b hx1
    obtain ⟨_, _, _, _, _, hl2, _⟩ := e3.da hd
    rw [if_neg c0, if_pos c1]
    generalize writeR r x.i x.s x.b = r' at *
    simp only [RD.pv, Deed.cs] at *
    rw [c1] at e1
    simp [c49, Deed.enc, Deed.cs, c1, hr, e1, hl2, hlv]
  by_cases c2 : x.o = 2
  · obtain ⟨m', e1, e2⟩ := do_put (hd.cons [(7, [.lst none true 7 [], .int .i64 0]), (5, x.cs), (4, [El (putR r x.i x.s x.b).nl (putR r x.i x.s x.b).l, .int .i64 (putR r x.i x.s x.b).c])]) hs x.i x.s x.nb x.b hx1 hx2
    obtain ⟨m2, rfl, e3⟩ := e2.cons hd
    refine ⟨m2, ?_, by rw [if_neg c0, if_neg c1, if_pos c2]; exact e3⟩
    have hr := app85 r hs.rok x.i x.s x.nb x.b hx1
    obtain ⟨_, _, _, _, _, hl2, _⟩ := e3.da hd
    rw [if_neg c0, if_neg c1, if_pos c2]
    generalize putR r x.i x.s x.b = r' at *
    simp only [RD.pv, Deed.cs] at *
    rw [c2] at e1
    simp [c49, Deed.enc, Deed.cs, c2, hr, e1, hl2, hlv]
  by_cases c3 : x.o = 3
  · obtain ⟨m', e1, e2⟩ := do_set (hd.cons [(7, [.lst none true 7 [], .int .i64 0]), (5, x.cs), (4, [El (setR r x.i x.s x.n).nl (setR r x.i x.s x.n).l, .int .i64 (setR r x.i x.s x.n).c])]) hs x.i x.s x.n
    obtain ⟨m2, rfl, e3⟩ := e2.cons hd
    refine ⟨m2, ?_, by rw [if_neg c0, if_neg c1, if_neg c2, if_pos c3]; exact e3⟩
    have hr := app94 r hs.rok x.i x.s x.n
    obtain ⟨_, _, _, _, _, hl2, _⟩ := e3.da hd
    rw [if_neg c0, if_neg c1, if_neg c2, if_pos c3]
    generalize setR r x.i x.s x.n = r' at *
    simp only [RD.pv, Deed.cs] at *
    rw [c3] at e1
    simp [c49, Deed.enc, Deed.cs, c3, hr, e1, hl2, hlv]
  · refine ⟨m, ?_, by rw [if_neg c0, if_neg c1, if_neg c2, if_neg c3]; exact does_none hd hs⟩
    have c0' : (x.o == 0) = false := by simpa using c0
    have c1' : (x.o == 1) = false := by simpa using c1
    have c2' : (x.o == 2) = false := by simpa using c2
    have c3' : (x.o == 3) = false := by simpa using c3
    rw [if_neg c0, if_neg c1, if_neg c2, if_neg c3]
    simp [c49, Deed.enc, Deed.cs, c0', c1', c2', c3', h4', hlv]
theorem app49_fork (h4 : x.o = 4) : ∃ m' ver' l' c', app E false (.fn 49 []) [.ptr lv a [] 0, r.pv, x.enc] m = some (.tup [.ptr m.length 0 [] 0, r.pv, .bool true], ⟨[(0, [.ptr m.length 1 [] 0, .int .i64 c]), (1, [shC 0 l])], []⟩, m') ∧ m' = dset m lv a a' ver' l' c' := by
  have hlt := hd.lv_lt
  have hlv : lv ≠ m.length := by omega
  obtain ⟨hx1, hx2⟩ := hx
  have hf := app23 (hd.cons [(7, [.lst none true 7 [], .int .i64 0]), (5, x.cs), (4, [El r.nl r.l, .int .i64 r.c])]) hs.dok
  obtain ⟨m1, e1, e2⟩ := do_put (hd.cons [(93000, [.ptr m.length 93001 [] 0, .int .i64 c]), (93001, [shC 0 l]), (7, [.lst none true 7 [], .int .i64 0]), (5, x.cs), (4, [El r.nl r.l, .int .i64 r.c])]) hs x.i x.s x.nb x.b hx1 hx2
  obtain ⟨m2, rfl, e3⟩ := e2.cons hd
  obtain ⟨v2, l2, c2, hd2, hs2, hlen2, hm2⟩ := e3.da hd
  obtain ⟨m3, f1, f2⟩ := do_set (hd2.cons [(93000, [.ptr m.length 93001 [] 0, .int .i64 c]), (93001, [shC 0 l]), (7, [.lst none true 7 [], .int .i64 0]), (5, x.cs), (4, [El r.nl r.l, .int .i64 r.c])]) hs2 x.i x.s x.n
  obtain ⟨m4, rfl, f3⟩ := f2.cons hd2
  obtain ⟨v4, l4, c4, hd4, hs4, hlen4, hm4⟩ := f3.da hd2
  refine ⟨m4, v4, l4, c4, ?_, by rw [hm4, hm2, dset_dset hd]⟩
  rw [app_fn E rfl h49 rfl]
  have s1 := fun lv => shC_names lv 0 l
  have s2 := fun a b ρ => shC_ren a b ρ 0 l
  have s3 := fun a ks ts => shC_okn a ks ts 0 l
  have s4 := shC_rec 0 l
  have r1 : ∀ a b p o, isRec (.ptr a b p o) = false := fun _ _ _ _ => rfl
  have r2 : ∀ k n, isRec (.int k n) = false := fun _ _ => rfl
  generalize shC 0 l = S at *
  simp only [RD.pv, Deed.cs] at *
  rw [h4] at hf e1 f1
  simp [c49, Deed.enc, Deed.cs, h4, hf, e1, f1, hlen2, hlen4, hlv, s1, s2, s3, s4, r1, r2, bagName, frzV, frzR, bagEv, bagOf, bagChk, renB, obsB, topsB, nameIn, noTagB, nodupB, tagsOf, tagOf, PV.retag, PV.retag1]
end
end Go.Proofs.Ytnagbdodcjlbjaa.ZJM.DC

set_option linter.unusedSimpArgs false
set_option linter.unusedVariables false
set_option maxRecDepth 4000
namespace Go.Proofs.Ytnagbdodcjlbjaa.ZJM.DC
open Go.Proofs.Ytnagbdodcjlbjaa.ZJM Go.RowKit

def rd50 : Rd := (c50.rds[0]?).getD ⟨[], [], .skip, .skip⟩
def own50 (lv a : Nat) (r : RD) (S : List Ent) (q : Nat) (n : Int) : Lvl := [(500000000, [.lrec q]), (17000, [.ptr lv a [] 0]), (6, [.int .i64 n]), (5, [El false S]), (4, [.bool false]), (3, [El r.nl r.l, .int .i64 r.c]), (2, [.ptr lv a [] 0])]
section
variable {m : Mem} {lv a a' ver : Nat} {l : List Row} {c : Int} (hd : DA m lv a a' ver l c) {r : RD} (hs : Sim l c r)
include hd hs
theorem rnd50 (o1 o2 o3 o4 : Lvl) (t : Nat) (ht : t < l.length) :
    app E false (.rnd 50 0 [2, 4, 5, 6] [.ptr m.length 2 [] 0, .ptr m.length 4 [] 0, .ptr m.length 5 [] 0, .ptr m.length 6 [] 0] m.length 500000000) [ky (l[t].n / 256) (l[t].n % 256)] (o1 :: o2 :: o3 :: o4 :: own50 lv a r (sortE r.l) 0 t :: m) = some (.bool true, emptyBag, o1 :: o2 :: o3 :: o4 :: own50 lv a r (sortE r.l) 0 (t + 1 : Nat) :: m) := by
  have hlt := hd.lv_lt
  have hSl : l.length = (sortE r.l).length := f2_len hs.f2
  have htS : t < (sortE r.l).length := by omega
  have hre := f2_get hs.f2 t ht htS
  have hm : (sortE r.l)[t] ∈ r.l := sortE_mem.1 (List.getElem_mem htS)
  have hke := (hs.rok.2 _ hm).2.1
  have hok := hs.dok.all _ (List.getElem_mem ht)
  have hbo := (hs.rok.2 _ hm).1
  have hl5 := hs.dok.len
  have hget : getW l (knum (sortE r.l)[t].i (sortE r.l)[t].s) = some l[t] := by
    have hn : l[t].n = knum (sortE r.l)[t].i (sortE r.l)[t].s := by rw [knum, if_pos hke]; exact hre.1
    rw [← hn]
    unfold getW
    rw [List.find?_eq_some_iff_getElem]
    refine ⟨by simp, t, ht, rfl, fun j hj => ?_⟩
    have := hs.dok.ris j t hj ht
    simp; omega
  have hi : l[t].n / 256 = (sortE r.l)[t].i ∧ l[t].n % 256 = (sortE r.l)[t].s := by
    rw [hre.1]
    simp only [okK, Bool.and_eq_true, decide_eq_true_eq] at hke
    omega
  rw [hi.1, hi.2]
  have z0 : lv ≠ m.length := by omega
  have z1 : ¬ m.length = m.length + 1 + 1 := by omega
  have z2 : ¬ m.length = m.length + 1 + 1 + 1 := by omega
  have z3 : ¬ m.length = m.length + 1 + 1 + 1 + 1 := by omega
  have z4 : ¬ m.length = m.length + 1 + 1 + 1 + 1 + 1 := by omega
  have hlast : ∀ (own : Lvl), DA (own :: o1 :: o2 :: o3 :: o4 :: own50 lv a r (sortE r.l) 1 t :: m) lv a a' ver l c := fun own => (((((hd.cons _).cons _).cons _).cons _).cons _).cons _
  have hraw : ∀ own : Lvl, app E false (.fn 26 []) [.ptr lv a [] 0, ky (sortE r.l)[t].i (sortE r.l)[t].s] (own :: o1 :: o2 :: o3 :: o4 :: own50 lv a r (sortE r.l) 1 t :: m) = _ := fun own => app26 (.inr ⟨lv, a, rfl⟩) (finds (hlast own) hs.dok _ _) (okO_get hs.dok _)
  have hspec : ∀ own : Lvl, app E false (.fn 95 []) [.ptr lv a [] 0, ky (sortE r.l)[t].i (sortE r.l)[t].s] (own :: o1 :: o2 :: o3 :: o4 :: own50 lv a r (sortE r.l) 1 t :: m) = _ := fun own => app95 (.inr ⟨lv, a, rfl⟩) (finds (hlast own) hs.dok _ _)
  rw [hget] at hraw hspec
  simp only [rawB, specP, Option.isSome_some] at hraw hspec
  obtain ⟨r0, r1, r2, r3, r4, r5⟩ := hre
  rw [r1, r2, r3, r4] at hspec
  rw [r5] at hraw
  have hti : (t : Int) < (sortE r.l).length := by omega
  have htn : ¬ ((sortE r.l).length : Int) ≤ t := by omega
  have hw := wrap_succ t (by omega)
  generalize l[t].nl = nlb at *
  generalize hS : sortE r.l = S at *
  have hgE : (Es S)[t]? = some S[t].enc := by rw [List.getElem?_eq_getElem (by rw [encs_len]; exact htS), es_getE]
  generalize hy : S[t] = y at *
  simp only [own50] at hraw hspec
  have bb : ((strOf y.b).toList == (strOf y.b).toList) = true := by simp
  rw [app_rnd E h50 (rd := rd50) rfl (by simp [rd50, c50, own50, z1, z2, z3, z4])]
  simp [rd50, c50, own50, z0, z1, z2, z3, z4, hraw, hspec, hti, htn, htS, hgE, hy, es_getE, Ent.enc, Ent.cs, bytesP_bs, hw, bb]
theorem app50 : app E false (.fn 50 []) [.ptr lv a [] 0, r.pv] m = some (.bool true, emptyBag, m) := by
  have hlt := hd.lv_lt
  have hlv : lv ≠ m.length := by omega
  have h34' := app34 r.nl r.l r.c hs.rok.1
  have h46' := app46 ([(6, [.int .i64 0]), (5, [El false (sortE r.l)]), (4, [.bool false]), (3, [El r.nl r.l, .int .i64 r.c]), (2, [.ptr lv a [] 0])] :: m) lv a (by simp; omega)
  obtain ⟨⟨q, n⟩, h1, h2⟩ := @app88 (Nat × Int) (fun p => own50 lv a r (sortE r.l) p.1 p.2 :: m) (m.length + 1) (fun p => rfl) l hs.dok 50 0 [2, 4, 5, 6] [.ptr m.length 2 [] 0, .ptr m.length 4 [] 0, .ptr m.length 5 [] 0, .ptr m.length 6 [] 0] m.length 500000000 (by omega)
    (fun i p => p = (0, (i : Int))) (fun p => False) (fun i hi p o1 o2 o3 o4 hp => by
      subst hp
      exact ⟨true, (0, ((i + 1 : Nat) : Int)), rnd50 hd hs o1 o2 o3 o4 i hi, by rw [if_pos rfl]⟩) (0, 0) rfl m.length 17000 lv a a' ver c (by simp [own50]) (hd.cons _)
  have e := h1.resolve_right id
  simp only [Prod.mk.injEq] at e
  obtain ⟨rfl, rfl⟩ := e
  simp only [own50] at h2
  have h45' : ∀ own : Lvl, app E false (.fn 45 []) [.ptr lv a [] 0] (own :: m) = _ := fun own => app45 (hd.cons own)
  have h24' : ∀ own : Lvl, app E false (.fn 24 []) [.ptr lv a [] 0] (own :: m) = _ := fun own => app24 (hd.cons own)
  have hSl : l.length = (sortE r.l).length := f2_len hs.f2
  have hch := hs.ch
  rw [app_fn E rfl h50 rfl]
  have z : lv ≠ m.length + 1 := by omega
  have hq : ((l.length : Int) == ((sortE r.l).length : Nat)) = true := by rw [hSl]; simp
  have hq2 : (c == r.c) = true := by simp [hch]
  generalize sortE r.l = S at *
  simp only [RD.pv] at *
  simp [c50, h34', h46', h2, h45', h24', hlv, z, hq, hq2, bagName, PV.retag, PV.retag1, hSl, hch]
end
end Go.Proofs.Ytnagbdodcjlbjaa.ZJM.DC
