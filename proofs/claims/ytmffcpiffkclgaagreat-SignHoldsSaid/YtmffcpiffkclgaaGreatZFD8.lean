/- The shelf, gone through: tell, All. -/
import Derived.Test.YtmffcpiffkclgaaGreatZFD5
set_option linter.unusedSimpArgs false
set_option linter.unusedVariables false
set_option maxRecDepth 4000
namespace Go.Proofs.YtmffcpiffkclgaaGreat.ZJM.DC
open Go.Proofs.YtmffcpiffkclgaaGreat.ZJM Go.RowKit
section
variable (f : FuncId) (i : Nat) (fs : List Nat) (cap : List PV) (lv j : Nat)
@[simp] theorem isCell_rnd : PV.isCell (.rnd f i fs cap lv j) = true := rfl
@[simp] theorem isVal_rnd : PV.isVal (.rnd f i fs cap lv j) = true := rfl
@[simp] theorem cells_rnd : PV.cells (.rnd f i fs cap lv j) = [.rnd f i fs cap lv j] := rfl
@[simp] theorem untag1_rnd : PV.untag1 (.rnd f i fs cap lv j) = .rnd f i fs cap lv j := rfl
@[simp] theorem untag_rnd : PV.untag (.rnd f i fs cap lv j) = .rnd f i fs cap lv j := rfl
end
theorem rc_drop (l : List Row) (p : Nat) (hp : p ≤ l.length) : (Rc l).drop (p * 6) = Rc (l.drop p) := by
 have ht : (l.take p).length = p := by simp; omega
 have hL : (Rc (l.take p)).length = p * 6 := by rw [rc_len,ht]
 have e : Rc l = Rc (l.take p) ++ Rc (l.drop p) := by rw [← rc_app,List.take_append_drop]
 have e2 : (Rc (l.take p)).drop (p * 6) = [] := List.drop_of_length_le (by omega)
 rw [e,List.drop_append,hL,e2,Nat.sub_self]
 simp
theorem app110_nil (pr : Bool) (m : Mem) : app E pr (.fn 141 []) [.lst none true 6 []] m = some (.lst none true 6 [],emptyBag,m) := by
 rw [app_fn E rfl h110 rfl]
 cases pr <;> simp [c110]
section
variable (m : Mem) (lv a ver : Nat) (l : List Row)
theorem app110 (hm : mget m lv a [] = some [.vec ver l.length 6 (Rc l)]) (hl : l.length ≤ 512) (p : Nat) (hp : p ≤ l.length) :
  app E false (.fn 141 []) [.slr lv a [(0,ver)] (p * 6) (l.length - p) 6] m = some (.lst none false 6 (Rs (l.drop p)),emptyBag,m) := by
 have hlv : lv ≠ m.length := by have := mget_lt hm; omega
 have hpp : mget m lv a [(0,ver)] = some (Rc l) := by rw [mget_sub hm]; simp [tget]
 have hd := rc_drop l p hp
 have hle : p * 6 + (l.length - p) * 6 ≤ (Rc l).length := by rw [rc_len]; omega
 have hr : (l.drop p).length = l.length - p := by simp
 have hbb : (l.length - p) * 64 ≤ maxBytes := by unfold maxBytes; omega
 rw [app_fn E rfl h110 rfl]
 cases hL : l.drop p with
 | nil =>
  rw [hL] at hr hd
  simp only [List.length_nil] at hr
  rw [← hr] at hle hbb ⊢
  have hle' : p * 6 ≤ (Rc l).length := by omega
  simp [c110,hlv,hpp,hle',hd,flats_nil,chunks]
 | cons x r =>
  rw [hL] at hr hd
  rw [← hr] at hle hbb ⊢
  have hcl := rc_len (x :: r)
  have hc := rc_chunks (x :: r)
  have hcells := rs_cells (x :: r)
  have hca := rc_all (x :: r)
  have ho := fun a b c d => rc_out (x :: r) a b c d
  have ht : (Rc (x :: r)).take ((r.length + 1) * 6) = Rc (x :: r) := List.take_of_length_le (by rw [rc_len]; exact Nat.le_refl _)
  have hRd := rs_data (x :: r)
  simp only [List.length_cons] at *
  have hRe : Rs (x :: r) = x.enc :: Rs r := rfl
  rw [hRe] at hc hcells hRd ⊢
  simp only [List.flatMap_cons] at hcells
  have hRl : (Rs r).length = r.length := encs_len r
  have k1 := fun a b c => PV.datas_okns a b c _ hRd
  simp only [PV.okns,Bool.and_eq_true] at k1
  generalize Rc (x :: r) = C at *
  generalize x.enc = Y at *
  generalize Rs r = R at *
  simp [c110,hlv,hpp,hle,hd,ht,ho,hc,hcl,hcells,hca,hbb,hRl,k1]
end
section
variable {σ : Type} (M : σ → Mem) (N : Nat) (hN : ∀ s,(M s).length = N) (l : List Row) (nl : Bool) (hl : l.length ≤ 512) (f0 : FuncId) (i0 : Nat) (fs0 : List Nat) (cap0 : List PV) (lv0 j0 : Nat) (hlv0 : lv0 < N) (hcap : ∀ n ks ts,N ≤ n → PV.okns n ks ts cap0 = true)
 (J : Nat → σ → Prop) (Stop : σ → Prop)
 (hyld : ∀ (i : Nat) (hi : i < l.length) (s : σ) (o1 : Lvl),J i s → ∃ b s',app E false (.rnd f0 i0 fs0 cap0 lv0 j0) [.int .i64 l[i].n,eny l[i].k l[i].a l[i].l l[i].h l[i].nl l[i].b] (o1 :: M s) = some (.bool b,emptyBag,o1 :: M s') ∧ (if b = true then J (i + 1) s' else Stop s'))
def S114 (i : Nat) (s : σ) : St := ⟨[(1,.rnd f0 i0 fs0 cap0 lv0 j0),(6,.lst none nl 6 (Rs l)),(7,.int .i64 l.length),(8,.int .i64 i)],[],[],[],M s⟩
include hN hlv0 hcap hyld hl in
theorem loop114 (s : σ) (hJ : J 0 s) {st : St} (h0 : maskSt [1,6,7,8] [] [] [] st = some (S114 M l nl f0 i0 fs0 cap0 lv0 j0 0 s)) :
  ∃ e st',loopW (maskSt [1,6,7,8] [] [] []) (Cd.run (app E) c114.body.inner.body) st = some (e,st') ∧ e ≠ .normal ∧
   ((e = .exit 0 ∧ ∃ s',J l.length s' ∧ st'.m = M s' ∧ st'.own = [] ∧ st'.tops = []) ∨ (e = .ret ∧ ∃ s',Stop s' ∧ st'.m = M s')) := by
 refine loop_inv (fun i S => ∃ s,J i s ∧ S = S114 M l nl f0 i0 fs0 cap0 lv0 j0 i s) l.length _ h0 ⟨s,hJ,rfl⟩ ?_ ?_
 ·rintro i S hi ⟨s,hJ,rfl⟩
  have hi' : (i : Int) < l.length := by omega
  have hw := wrap_succ i (by omega)
  obtain ⟨b,s',h1,h2⟩ := hyld i hi s [(5,l[i].cs)] hJ
  simp only [Row.cs] at h1
  have hNs := hN s
  have hNs' := hN s'
  have hne : lv0 ≠ N := by omega
  have hcap' := fun ks ts => hcap N ks ts (Nat.le_refl _)
  cases b with
  | true =>
   have hG : Goes (maskSt [1,6,7,8] [] [] []) (S114 M l nl f0 i0 fs0 cap0 lv0 j0 (i + 1) s') (Cd.run (app E) c114.body.inner.body (S114 M l nl f0 i0 fs0 cap0 lv0 j0 i s)) := by
    simp [c114,Cd.inner,Cd.body,S114,hi',hi,rs_getE,Row.enc,Row.cs,h1,hw,hNs,hNs',hne,hcap']
   obtain ⟨st2,q1,q2⟩ := hG.get
   exact .inl ⟨st2,_,q1,q2,s',by simpa using h2,rfl⟩
  | false =>
   refine .inr ?_
   simp [c114,Cd.inner,Cd.body,S114,hi',hi,rs_getE,Row.enc,Row.cs,h1,hw,hNs,hNs',EndsL]
   exact ⟨s',by simpa using h2,rfl⟩
 ·rintro S ⟨s,hJ,rfl⟩
  simp [c114,Cd.inner,Cd.body,S114,EndsL]
  exact ⟨s,hJ,rfl⟩
include hN hlv0 hcap hyld hl in
theorem app114 (s : σ) (hJ : J 0 s) : ∃ s',(J l.length s' ∨ Stop s') ∧ app E false (.fn 140 []) [.lst none nl 6 (Rs l),.rnd f0 i0 fs0 cap0 lv0 j0] (M s) = some (.tup [],emptyBag,M s') := by
 rw [app_fn E rfl h114 rfl]
 have hNs := hN s
 have hne : lv0 ≠ N := by omega
 have hcap' := fun ks ts => hcap N ks ts (Nat.le_refl _)
 obtain ⟨e,st',h1,h2,h3⟩ := @loop114 σ M N hN l nl hl f0 i0 fs0 cap0 lv0 j0 hlv0 hcap J Stop hyld s hJ ⟨[(8,.int .i64 0),(7,.int .i64 l.length),(6,.lst none nl 6 (Rs l)),(0,.lst none nl 6 (Rs l)),(1,.rnd f0 i0 fs0 cap0 lv0 j0)],[],[],[],M s⟩ (by simp [S114,hNs,hne,hcap'])
 simp only [c114,Cd.inner,Cd.body] at h1
 rcases h3 with ⟨rfl,s',hJ',hm,ho,ht⟩ | ⟨rfl,s',hS,hm⟩
 ·refine ⟨s',.inl hJ',?_⟩
  simp [c114,h1,hm]
 ·refine ⟨s',.inr hS,?_⟩
  simp [c114,h1,hm]
end
end Go.Proofs.YtmffcpiffkclgaaGreat.ZJM.DC
set_option linter.unusedSimpArgs false
set_option linter.unusedVariables false
set_option maxRecDepth 4000
namespace Go.Proofs.YtmffcpiffkclgaaGreat.ZJM.DC
open Go.Proofs.YtmffcpiffkclgaaGreat.ZJM Go.RowKit
section
variable {σ : Type} (M : σ → Mem) (N : Nat) (hN : ∀ s,(M s).length = N) (l : List Row) (hl : l.length ≤ 512) (f0 : FuncId) (i0 : Nat) (fs0 : List Nat) (cap0 : List PV) (lv0 j0 : Nat) (hlv0 : lv0 < N) (hcap : ∀ n ks ts,N ≤ n → PV.okns n ks ts cap0 = true)
 (J : Nat → σ → Prop) (Stop : σ → Prop)
section
variable (hyld : ∀ (i : Nat) (hi : i < l.length) (s : σ) (o1 o2 : Lvl),J i s → ∃ b s',app E false (.rnd f0 i0 fs0 cap0 lv0 j0) [.int .i64 l[i].n,eny l[i].k l[i].a l[i].l l[i].h l[i].nl l[i].b] (o1 :: o2 :: M s) = some (.bool b,emptyBag,o1 :: o2 :: M s') ∧ (if b = true then J (i + 1) s' else Stop s'))
end
end
section
variable {σ : Type} (M : σ → Mem) (N : Nat) (hN : ∀ s,(M s).length = N) (l : List Row) (hk : Dok l) (f0 : FuncId) (i0 : Nat) (fs0 : List Nat) (cap0 : List PV) (lv0 j0 : Nat) (hlv0 : lv0 < N)
 (J : Nat → σ → Prop) (Stop : σ → Prop)
 (hyld : ∀ (i : Nat) (hi : i < l.length) (s : σ) (o1 o2 o3 o4 : Lvl),J i s → ∃ b s',app E false (.rnd f0 i0 fs0 cap0 lv0 j0) [ky (l[i].n / 256) (l[i].n % 256)] (o1 :: o2 :: o3 :: o4 :: M s) = some (.bool b,emptyBag,o1 :: o2 :: o3 :: o4 :: M s') ∧ (if b = true then J (i + 1) s' else Stop s'))
theorem row_n {x : Row} (h : okRow x) : 0 ≤ x.n ∧ x.n < 16777216 := by
 obtain ⟨_,_,_,_,i,s,h1,h2⟩ := h
 simp only [okK,Bool.and_eq_true,decide_eq_true_eq] at h1
 omega
end
end Go.Proofs.YtmffcpiffkclgaaGreat.ZJM.DC
set_option linter.unusedSimpArgs false
set_option linter.unusedVariables false
set_option maxRecDepth 4000
namespace Go.Proofs.YtmffcpiffkclgaaGreat.ZJM.DC
open Go.Proofs.YtmffcpiffkclgaaGreat.ZJM Go.RowKit
def fromW (l : List Row) (k : Int) : List Row := l.dropWhile fun x => decide (x.n < k)
theorem pl_drop {l : List Row} {k : Int} {p : Nat} (hP : Pl l k p) : l.drop p = fromW l k := by
 induction l generalizing p with
 | nil => simp [fromW]
 | cons y r ih =>
  cases p with
  | zero =>
   have h1 := hP.from' 0 (Nat.le_refl _) (by simp)
   simp only [List.getElem_cons_zero] at h1
   have h2 : ¬ y.n < k := by omega
   simp [fromW,List.dropWhile_cons,h2]
  | succ p =>
   have h1 := hP.below 0 (by omega) (by simp)
   simp only [List.getElem_cons_zero] at h1
   have hP' : Pl r k p := ⟨by have := hP.le; simpa using this,fun t h ht => by have := hP.below (t + 1) (by omega) (by simpa using ht); simpa using this,fun t h ht => by have := hP.from' (t + 1) (by omega) (by simpa using ht); simpa using this⟩
   rw [List.drop_succ_cons,ih hP']
   simp [fromW,List.dropWhile_cons,h1]
theorem fromW_mem {l : List Row} {k : Int} {x : Row} (h : x ∈ fromW l k) : x ∈ l := List.dropWhile_sublist _ |>.subset h
theorem fromW_len (l : List Row) (k : Int) : (fromW l k).length ≤ l.length := (List.dropWhile_sublist _).length_le
theorem tw_spec {α : Type} (p : α → Bool) (L : List α) (i : Nat) : ((h : i < (L.takeWhile p).length) → ∃ h' : i < L.length,(L.takeWhile p)[i] = L[i] ∧ p L[i] = true) ∧ (i = (L.takeWhile p).length → (h : i < L.length) → p L[i] = false) := by
 induction L generalizing i with
 | nil => exact ⟨fun h => by simp at h,fun _ h => by simp at h⟩
 | cons x r ih =>
  cases hp : p x with
  | false =>
   refine ⟨fun h => by simp [hp] at h,fun h hh => ?_⟩
   simp [hp] at h
   subst h
   simpa using hp
  | true =>
   cases i with
   | zero => exact ⟨fun h => ⟨by simp,by simp [hp]⟩,fun h => by simp [hp] at h⟩
   | succ i =>
    constructor
    ·intro h
     simp only [List.takeWhile_cons,hp,if_true,List.length_cons] at h
     obtain ⟨h',e1,e2⟩ := (ih i).1 (by omega)
     exact ⟨by simpa using h',by simp [hp,e1],by simpa using e2⟩
    ·intro h hh
     simp only [List.takeWhile_cons,hp,if_true,List.length_cons] at h
     have := (ih i).2 (by omega) (by simpa using hh)
     simpa using this
section
variable {σ : Type} (M : σ → Mem) (N : Nat) (hN : ∀ s,(M s).length = N) (l : List Row) (hl : l.length ≤ 512) (hs : Rising l) (k : Int) (f0 : FuncId) (i0 : Nat) (fs0 : List Nat) (cap0 : List PV) (lv0 j0 : Nat) (hlv0 : lv0 < N) (hcap : ∀ n ks ts,N ≤ n → PV.okns n ks ts cap0 = true)
 (J : Nat → σ → Prop) (Stop : σ → Prop)
 (hyld : ∀ (i : Nat) (hi : i < (fromW l k).length) (s : σ) (o1 o2 : Lvl),J i s → ∃ b s',app E false (.rnd f0 i0 fs0 cap0 lv0 j0) [.int .i64 (fromW l k)[i].n,eny (fromW l k)[i].k (fromW l k)[i].a (fromW l k)[i].l (fromW l k)[i].h (fromW l k)[i].nl (fromW l k)[i].b] (o1 :: o2 :: M s) = some (.bool b,emptyBag,o1 :: o2 :: M s') ∧ (if b = true then J (i + 1) s' else Stop s'))
include hN hlv0 hcap hyld hl hs in
theorem app113 (s : σ) (hJ : J 0 s) (lvb sb lvc sc lv a ver : Nat) (hb : mget (M s) lvb sb [] = some [.ptr lv a [] 0]) (hc : mget (M s) lvc sc [] = some [.int .i64 k]) (hm : mget (M s) lv a [] = some [shC ver l]) :
  ∃ s',(J (fromW l k).length s' ∨ Stop s') ∧ app E false (.fn 139 [.ptr lvb sb [] 0,.ptr lvc sc [] 0]) [.rnd f0 i0 fs0 cap0 lv0 j0] (M s) = some (.tup [],emptyBag,M s') := by
 have hNs := hN s
 have q1 : lvb ≠ (M s).length := by have := mget_lt hb; omega
 have q2 : lv ≠ (M s).length := by have := mget_lt hm; omega
 have q3 : lvc ≠ (M s).length := by have := mget_lt hc; omega
 have hm2 : mget ([] :: M s) lv a [] = some [shC ver l] := by simp [q2,hm]
 rw [hNs] at q1 q2 q3
 obtain ⟨p,hP,hpl⟩ := app104 ([] :: M s) lv a ver l k hm2 hl hs
 have hdr := pl_drop hP
 obtain ⟨s',h1,h2⟩ := @app114 σ (fun s => [] :: M s) (N + 1) (fun s => by simp [hN s]) (fromW l k) (l.isEmpty) (Nat.le_trans (fromW_len _ _) hl) f0 i0 fs0 cap0 lv0 j0 (by omega) (fun n ks ts h => hcap n ks ts (by omega)) J Stop (fun i hi s o1 hJ => hyld i hi s o1 [] hJ) s hJ
 refine ⟨s',h1,?_⟩
 rw [app_fn E rfl h113 rfl]
 cases l with
 | nil =>
  have h3 := app110_nil false ([] :: M s)
  have hp0 : p = 0 := by have := hP.le; simpa using this
  subst hp0
  simp only [shC] at hm
  have hfw : fromW [] k = [] := rfl
  rw [hfw] at h2
  simp only [List.isEmpty_nil,encs_nil] at h2
  simp [c113,hNs,q1,q2,q3,hb,hc,hm,h3,h2,hpl]
 | cons x r =>
  have hm' : mget ([] :: M s) lv a [] = some [.vec ver (x :: r).length 6 (Rc (x :: r))] := by simp [hNs,q2,hm,shC]
  have hple := hP.le
  have h3 := app110 ([] :: M s) lv a ver (x :: r) hm' hl p hple
  rw [hdr] at h3
  simp only [List.length_cons] at h3 hple
  simp only [shC] at hm
  simp only [List.isEmpty_cons] at h2
  have hpi : (p : Int) ≤ (r.length : Int) + 1 := by omega
  simp [c113,hNs,q1,q2,q3,hb,hc,hm,h3,h2,hpl,hpi]
end
theorem app83 (m : Mem) (lv a : Nat) (k : Int) (hlv : lv < m.length) : app E false (.fn 135 []) [.ptr lv a [] 0,.int .i64 k] m = some (.fn 139 [.ptr m.length 0 [] 0,.ptr m.length 1 [] 0],⟨[(0,[.ptr lv a [] 0]),(1,[.int .i64 k])],[]⟩,m) := by
 have h : lv ≠ m.length := by omega
 rw [app_fn E rfl h83 rfl]
 simp [c83,h,frzV,frzR,bagEv,bagOf,bagChk,renB,obsB,topsB,nameIn,isRec,noTagB,nodupB,tagsOf,tagOf,PV.retag,PV.retag1]
theorem app35 (m : Mem) (lv a : Nat) (i : Int) (hlv : lv < m.length) : app E false (.fn 123 []) [.ptr lv a [] 0,.int .i64 i] m = some (.fn 134 [.ptr m.length 0 [] 0,.ptr m.length 1 [] 0],⟨[(0,[.int .i64 i]),(1,[.ptr lv a [] 0])],[]⟩,m) := by
 have h : lv ≠ m.length := by omega
 rw [app_fn E rfl h35 rfl]
 simp [c35,h,frzV,frzR,bagEv,bagOf,bagChk,renB,obsB,topsB,nameIn,isRec,noTagB,nodupB,tagsOf,tagOf,PV.retag,PV.retag1]
def subW (l : List Row) (i : Int) : List Row := if knum i 0 < 0 then [] else (fromW l (knum i 0)).takeWhile fun x => decide (x.n - knum i 0 < 256)
def rd82 : Rd := (c82.rds[0]?).getD ⟨[],[],.skip,.skip⟩
def own82 (lv a' q : Nat) (k : Int) (y : PV) : Lvl := [(500000000,[.lrec q]),(21000,[.ptr lv a' [] 0]),(21001,[.int .i64 k]),(4,[.int .i64 k]),(3,[y])]
section
variable {σ : Type} (M : σ → Mem) (N : Nat) (hN : ∀ s,(M s).length = N) (l : List Row) (hk : Dok l) (ix : Int) (f0 : FuncId) (i0 : Nat) (fs0 : List Nat) (cap0 : List PV) (lv0 j0 : Nat) (hlv0 : lv0 < N)
 (J : Nat → σ → Prop) (Stop : σ → Prop)
 (hyld : ∀ (i : Nat) (hi : i < (subW l ix).length) (s : σ) (o1 o2 o3 o4 : Lvl),J i s → ∃ b s',app E false (.rnd f0 i0 fs0 cap0 lv0 j0) [.int .i64 ((subW l ix)[i].n - knum ix 0)] (o1 :: o2 :: o3 :: o4 :: M s) = some (.bool b,emptyBag,o1 :: o2 :: o3 :: o4 :: M s') ∧ (if b = true then J (i + 1) s' else Stop s'))
include hN hk hlv0 hyld in
theorem app82 (s : σ) (hJ : J 0 s) (lvb sb lvc sc lv a a' ver : Nat) (c : Int) (hb : mget (M s) lvb sb [] = some [.int .i64 ix]) (hc : mget (M s) lvc sc [] = some [.ptr lv a [] 0]) (hd : DA (M s) lv a a' ver l c) :
  ∃ s',(J (subW l ix).length s' ∨ Stop s') ∧ app E false (.fn 134 [.ptr lvb sb [] 0,.ptr lvc sc [] 0]) [.rnd f0 i0 fs0 cap0 lv0 j0] (M s) = some (.tup [],emptyBag,M s') := by
 have hNs := hN s
 have q1 : lvb ≠ (M s).length := by have := mget_lt hb; omega
 have q4 : lvc ≠ (M s).length := by have := mget_lt hc; omega
 have hlt := hd.lv_lt
 have q2 : lv ≠ (M s).length := by omega
 have q3 : lv < N := by omega
 rw [hNs] at q1 q2 q4
 have hd1 := hd.d
 have hne : lv0 ≠ N := by omega
 have h55 := app55 ix 0
 by_cases hneg : knum ix 0 < 0
 ·have hsub : subW l ix = [] := by rw [subW,if_pos hneg]
  refine ⟨s,.inl (by rw [hsub]; exact hJ),?_⟩
  rw [app_fn E rfl h82 rfl]
  simp [c82,hNs,q1,q4,hb,hc,h55,hneg]
 obtain ⟨K,hK⟩ : ∃ K,K = knum ix 0 := ⟨_,rfl⟩
 have hK1 : 0 ≤ K ∧ K < 16777216 := by
  rw [← hK] at hneg
  unfold knum at hK
  by_cases ho : okK ix 0 = true
  ·rw [if_pos ho] at hK
   simp only [okK,Bool.and_eq_true,decide_eq_true_eq] at ho
   omega
  ·rw [if_neg ho] at hK; omega
 have hsub : subW l ix = (fromW l K).takeWhile fun x => decide (x.n - K < 256) := by rw [subW,if_neg hneg,hK]
 rw [← hK] at hyld hneg h55
 obtain ⟨⟨q,s'⟩,h1,h2⟩ := @app113 (Nat × σ) (fun p => own82 lv a' p.1 K (.rnd f0 i0 fs0 cap0 lv0 j0) :: M p.2) (N + 1) (fun p => by simp [hN p.2]) l hk.len hk.ris K 134 0 [3,4] [.ptr N 3 [] 0,.ptr N 4 [] 0] N 500000000 (by omega)
  (fun n ks ts h => by
     have : N ≠ n := by omega
     simp [this]) (fun i p => p.1 = 0 ∧ i ≤ (subW l ix).length ∧ J i p.2) (fun p => p.1 = 2 ∧ (Stop p.2 ∨ J (subW l ix).length p.2)) (fun i hi p o1 o2 hp => by
   obtain ⟨q,s1⟩ := p
   obtain ⟨hq,hile,hJ1⟩ := hp
   simp only at hq hJ1
   subst hq
   have hNs1 := hN s1
   have z2 : ¬ N = N + 1 + 1 := by omega
   have z3 : ¬ N = N + 1 + 1 + 1 := by omega
   have hrn := row_n (hk.all _ (fromW_mem (List.getElem_mem hi)))
   have w1 : IntKind.i64.wrap ((fromW l K)[i].n - K) = (fromW l K)[i].n - K := wrap_id _ (by omega) (by omega)
   obtain ⟨t1,t2⟩ := tw_spec (fun x : Row => decide (x.n - K < 256)) (fromW l K) i
   rw [← hsub] at t1 t2
   by_cases hlt : i < (subW l ix).length
   ·obtain ⟨_,e1,e2⟩ := t1 hlt
    simp only [decide_eq_true_eq] at e2
    have e2' : ¬ 256 ≤ (fromW l K)[i].n - K := by omega
    obtain ⟨b,s2,f1,f2⟩ := hyld i hlt s1 [] o1 o2 (own82 lv a' 1 K (.rnd f0 i0 fs0 cap0 lv0 j0)) hJ1
    rw [e1] at f1
    have hNs2 := hN s2
    simp only [own82] at f1
    cases b with
    | true =>
     refine ⟨true,(0,s2),?_,by rw [if_pos rfl]; exact ⟨rfl,by omega,by simpa using f2⟩⟩
     rw [app_rnd E h82 (rd := rd82) rfl (by simp [rd82,c82,own82,hNs1,optE,z2,z3])]
     simp [rd82,c82,own82,hNs1,hNs2,optE,f1,z2,z3,w1,e2']
    | false =>
     refine ⟨false,(2,s2),?_,by rw [if_neg (by decide)]; exact ⟨rfl,.inl (by simpa using f2)⟩⟩
     rw [app_rnd E h82 (rd := rd82) rfl (by simp [rd82,c82,own82,hNs1,optE,z2,z3])]
     simp [rd82,c82,own82,hNs1,hNs2,optE,f1,z2,z3,w1,e2']
   ·have hie : i = (subW l ix).length := by omega
    have e2 := t2 hie hi
    simp only [decide_eq_false_iff_not] at e2
    have e2' : 256 ≤ (fromW l K)[i].n - K := by omega
    refine ⟨false,(2,s1),?_,by rw [if_neg (by decide)]; exact ⟨rfl,.inr (by rw [← hie]; exact hJ1)⟩⟩
    rw [app_rnd E h82 (rd := rd82) rfl (by simp [rd82,c82,own82,hNs1,optE,z2,z3])]
    simp [rd82,c82,own82,hNs1,optE,z2,z3,w1,e2']) (0,s) ⟨rfl,Nat.zero_le _,hJ⟩ N 21000 N 21001 lv a' ver (by simp [own82,hNs]) (by simp [own82,hNs]) (by
   have := (hd.cons (own82 lv a' 0 K (.rnd f0 i0 fs0 cap0 lv0 j0))).s
   exact this)
 simp only [own82] at h2
 have z1 : lv ≠ N + 1 := by omega
 have h83' := app83 ([(4,[.int .i64 K]),(3,[.rnd f0 i0 fs0 cap0 lv0 j0])] :: M s) lv a' K (by simp; omega)
 rw [app_fn E rfl h82 rfl]
 have hNs' := hN s'
 rcases h1 with ⟨e1,e2,e3⟩ | ⟨e1,e2⟩
 ·simp only at e1 e2 e3
  subst e1
  have hle : (subW l ix).length ≤ (fromW l K).length := by rw [hsub]; exact (List.takeWhile_sublist _).length_le
  have hee : (fromW l K).length = (subW l ix).length := by omega
  refine ⟨s',.inl (by rw [← hee]; exact e3),?_⟩
  simp [c82,hNs,hNs',q1,q2,q4,hb,hc,hd1,h55,hneg,h83',h2,bagName,PV.retag,PV.retag1,hne,z1]
 ·simp only at e1 e2
  subst e1
  refine ⟨s',e2.symm,?_⟩
  simp [c82,hNs,hNs',q1,q2,q4,hb,hc,hd1,h55,hneg,h83',h2,bagName,PV.retag,PV.retag1,hne,z1]
end
end Go.Proofs.YtmffcpiffkclgaaGreat.ZJM.DC
set_option linter.unusedSimpArgs false
set_option linter.unusedVariables false
set_option maxRecDepth 4000
namespace Go.Proofs.YtmffcpiffkclgaaGreat.ZJM.DC
open Go.Proofs.YtmffcpiffkclgaaGreat.ZJM Go.RowKit
def missW (l : List Row) (i : Int) : Int := if subW l i = [] then 100794368 else 101253137
def rd71 : Rd := (c71.rds[0]?).getD ⟨[],[],.skip,.skip⟩
def own71 (dp : PV) (i s : Int) (q : Nat) (v : Int) : Lvl := [(500000000,[.lrec q]),(9000,[.int .i64 i]),(9001,[dp]),(4,[.int .i64 v]),(3,[.int .i64 i,.int .i64 s])]
section
variable {m : Mem} {lv a a' ver : Nat} {l : List Row} {c : Int} (hd : DA m lv a a' ver l c) (hk : Dok l)
include hd hk in
theorem app71 (i s : Int) : app E false (.fn 84 []) [.ptr lv a [] 0,ky i s] m = some (.int .i64 (missW l i),emptyBag,m) := by
 have hlt := hd.lv_lt
 have h35' := app35 ([(4,[.int .i64 0]),(3,[.int .i64 i,.int .i64 s])] :: m) lv a i (by simp; omega)
 obtain ⟨⟨q,v⟩,h1,h2⟩ := @app82 (Nat × Int) (fun p => own71 (.ptr lv a [] 0) i s p.1 p.2 :: m) (m.length + 1) (fun p => rfl) l hk i 84 0 [4] [.ptr m.length 4 [] 0] m.length 500000000 (by omega)
  (fun i p => i = 0 ∧ p = (0,0)) (fun p => p = (2,101253137)) (fun i' hi p o1 o2 o3 o4 hp => by
   obtain ⟨rfl,rfl⟩ := hp
   refine ⟨false,(2,101253137),?_,by rw [if_neg (by decide)]⟩
   have z1 : ¬ m.length = m.length + 1 + 1 := by omega
   have z2 : ¬ m.length = m.length + 1 + 1 + 1 := by omega
   have z3 : ¬ m.length = m.length + 1 + 1 + 1 + 1 := by omega
   have z4 : ¬ m.length = m.length + 1 + 1 + 1 + 1 + 1 := by omega
   rw [app_rnd E h71 (rd := rd71) rfl (by simp [rd71,c71,own71,z1,z2,z3,z4])]
   simp [rd71,c71,own71,z1,z2,z3,z4]) (0,0) ⟨rfl,rfl⟩ m.length 9000 m.length 9001 lv a a' ver c (by simp [own71]) (by simp [own71]) (hd.cons _)
 simp only [own71] at h2
 have z : lv ≠ m.length + 1 := by omega
 rw [app_fn E rfl h71 rfl]
 rcases h1 with ⟨e1,e2⟩ | e2
 ·simp only [Prod.mk.injEq] at e2
  obtain ⟨rfl,rfl⟩ := e2
  have e3 : subW l i = [] := List.length_eq_zero_iff.1 e1
  simp [c71,h35',h2,bagName,PV.retag,PV.retag1,z,missW,e3]
 ·simp only [Prod.mk.injEq] at e2
  obtain ⟨rfl,rfl⟩ := e2
  by_cases e3 : subW l i = []
  ·exfalso
   obtain ⟨⟨q,v⟩,h3,h4⟩ := @app82 (Nat × Int) (fun p => own71 (.ptr lv a [] 0) i s p.1 p.2 :: m) (m.length + 1) (fun p => rfl) l hk i 84 0 [4] [.ptr m.length 4 [] 0] m.length 500000000 (by omega)
    (fun i p => p = (0,0)) (fun p => False) (fun i' hi p o1 o2 o3 o4 hp => by rw [e3] at hi; simp at hi) (0,0) rfl m.length 9000 m.length 9001 lv a a' ver c (by simp [own71]) (by simp [own71]) (hd.cons _)
   have e4 := h3.resolve_right id
   simp only [Prod.mk.injEq] at e4
   obtain ⟨rfl,rfl⟩ := e4
   simp only [own71] at h4
   rw [h4] at h2
   simp at h2
  ·simp [c71,h35',h2,bagName,PV.retag,PV.retag1,z,missW,e3]
end
structure FM (m : Mem) (dp : PV) (i s : Int) (o : Option Row) (mi : Int) : Prop where
 isd : isD dp
 finds : Finds m dp i s o
 miss : ∀ own : Lvl,app E false (.fn 84 []) [dp,ky i s] (own :: m) = some (.int .i64 mi,emptyBag,own :: m)
def readO (o : Option Row) (mi : Int) : Bool × List Int × Int := match o with
 | none => (true,[],mi)
 | some x => if readsA x.a = 0 then (x.nl,x.b,0) else (true,[],readsA x.a)
section
variable {m : Mem} {dp : PV} {i s : Int} {o : Option Row} {mi : Int} (hf : FM m dp i s o mi) (ho : okO o)
end
def writeO (o : Option Row) (mi : Int) (b : List Int) : Int := match o with
 | none => mi
 | some x => if writesA x.a = 0 then fitsA x.k x.a x.l x.h b else writesA x.a
section
variable {m : Mem} {lv a a' ver : Nat} {l : List Row} {c : Int} (hd : DA m lv a a' ver l c) (hk : Dok l)
include hd hk in
theorem app25 (i s : Int) (nb : Bool) (b : List Int) (hb : OkB b) (hn : nb = true → b = []) :
  ∃ ver',app E false (.fn 47 []) [.ptr lv a [] 0,ky i s,Bl nb b] m = some (.int .i64 (writeO (getW l (knum i s)) (missW l i) b),emptyBag,if writeO (getW l (knum i s)) (missW l i) b = 0 then dset m lv a a' ver' (holdW l (knum i s) nb b) (holdC l c (knum i s) b) else m) := by
 have h59' : ∀ own : Lvl,app E false (.fn 83 []) [.ptr lv a [] 0,ky i s] (own :: m) = _ := fun own => app59 (hd.cons own) hk i s
 have h71' : ∀ own : Lvl,app E false (.fn 84 []) [.ptr lv a [] 0,ky i s] (own :: m) = _ := fun own => app71 (hd.cons own) hk i s
 rw [app_fn E rfl h25 rfl]
 cases hg : getW l (knum i s) with
 | none =>
  refine ⟨0,?_⟩
  rw [hg] at h59'
  simp only [optE] at h59'
  have hm : missW l i ≠ 0 := by unfold missW; split <;> decide
  simp [c25,h59',h71',writeO,hm]
 | some x =>
  rw [hg] at h59'
  simp only [optE] at h59'
  have hx := okO_get hk _ _ hg
  have h57 := app57 x.k x.a x.l x.h nb b hb
  by_cases d : writesA x.a = 0
  ·by_cases hf : fitsA x.k x.a x.l x.h b = 0
   ·obtain ⟨ver',h73⟩ := app73 (hd.cons [(7,[.int .i64 x.k,.int .i64 x.a,.int .i64 x.l,.int .i64 x.h,.lst none x.nl 1 (Bs x.b)]),(4,[.int .i64 i,.int .i64 s])]) hk i s x.k x.a x.l x.h x.nl nb x.b b hx.1 hb hn (fits_len hf) (by rw [hg]; rfl)
    rw [dset_cons hd] at h73
    refine ⟨ver',?_⟩
    have hxn := getW_n hg
    simp [c25,h59',writeO,app72,d,h57,hf,h73,holdW,holdC,hg,Row.with,hxn]
   ·refine ⟨0,?_⟩
    have hf' : (fitsA x.k x.a x.l x.h b != 0) = true := by simpa using hf
    simp [c25,h59',writeO,app72,d,h57,hf,hf']
  ·refine ⟨0,?_⟩
   have d' : (writesA x.a != 0) = true := by simpa using d
   simp [c25,h59',writeO,app72,d,d']
end
end Go.Proofs.YtmffcpiffkclgaaGreat.ZJM.DC
set_option linter.unusedSimpArgs false
set_option linter.unusedVariables false
set_option maxRecDepth 4000
namespace Go.Proofs.YtmffcpiffkclgaaGreat.ZJM.DC
open Go.Proofs.YtmffcpiffkclgaaGreat.ZJM Go.RowKit
theorem app52 (m : Mem) : app E false (.fn 98 []) [] m = some (.ptr m.length 0 [] 0,⟨[(0,[shC 0 []])],[]⟩,m) := by
 rw [app_fn E rfl h52 rfl]
 simp [c52,shC,frzV,frzR,bagEv,bagOf,bagChk,renB,obsB,topsB,nameIn,isRec,noTagB,nodupB,tagsOf,tagOf,PV.retag,PV.retag1]
theorem app11 (m : Mem) : app E false (.fn 57 []) [] m = some (.ptr m.length 0 [] 0,⟨[(0,[.ptr m.length 1 [] 0,.int .i64 0]),(1,[shC 0 []])],[]⟩,m) := by
 have h := app52 ([] :: m)
 rw [app_fn E rfl h11 rfl]
 simp [c11,h,shC,bagName,frzV,frzR,bagEv,bagOf,bagChk,renB,obsB,topsB,nameIn,isRec,noTagB,nodupB,tagsOf,tagOf,PV.retag,PV.retag1]
section
variable (m : Mem) (lv a ver : Nat) (l : List Row)
end
theorem shC_names (lv ver : Nat) (l : List Row) : PV.names lv (shC ver l) = [] := by cases l <;> simp [shC]
theorem shC_ren (a b : Nat) (ρ : Nat → Nat) (ver : Nat) (l : List Row) : PV.ren a b ρ (shC ver l) = shC ver l := by cases l <;> simp [shC]
theorem shC_okn (a : Nat) (ks ts : List Nat) (ver : Nat) (l : List Row) : PV.okn a ks ts (shC ver l) = true := by cases l <;> simp [shC]
theorem shC_rec (ver : Nat) (l : List Row) : isRec (shC ver l) = false := by cases l <;> rfl
section
variable {m : Mem} {lv a a' ver : Nat} {l : List Row} {c : Int} (hd : DA m lv a a' ver l c) (hk : Dok l)
end
end Go.Proofs.YtmffcpiffkclgaaGreat.ZJM.DC
