/- Memory: what lies where; what is written. -/
import Derived.Test.YtmffcpiffkclgaaZYR1
set_option linter.unusedSimpArgs false
set_option linter.unusedVariables false
set_option maxRecDepth 4000
namespace Go.Proofs.Ytmffcpiffkclgaa.ZJM.DC
open Go.Proofs.Ytmffcpiffkclgaa.ZJM Go.RowKit
def wr (m : Mem) (lv s : Nat) (x : List PV) : Mem := (mset m lv s [] x).getD m
theorem mget_lt {m : Mem} {lv s : Nat} {p : Path} {cs : List PV} (h : mget m lv s p = some cs) : lv < m.length := by
 induction m with
 | nil => simp at h
 | cons l r ih =>
  simp only [mget] at h
  split at h
  ·rename_i h1; simp only [beq_iff_eq] at h1; simp; omega
  ·have := ih h; simp; omega
theorem mget_path (m : Mem) (lv s : Nat) (p : Path) : mget m lv s p = (match mget m lv s [] with | some cs => tget cs p | none => none) := by
 induction m with
 | nil => simp
 | cons l r ih =>
  simp only [mget]
  split
  ·simp only [lget,tget]
   cases get l s <;> rfl
  ·exact ih
theorem mget_sub {m : Mem} {lv s : Nat} {p : Path} {cs : List PV} (h : mget m lv s [] = some cs) : mget m lv s p = tget cs p := by rw [mget_path,h]
theorem upd_some {α : Type} {l : List (Nat × α)} {t : Nat} {v : α} (h : get l t = some v) (x : α) : ∃ l',upd l t x = some l' ∧ get l' t = some x ∧ ∀ t',t' ≠ t → get l' t' = get l t' := by
 induction l with
 | nil => simp at h
 | cons p r ih =>
  simp only [get,upd] at h ⊢
  by_cases hp : p.1 = t
  ·simp only [hp,beq_self_eq_true,if_true]
   refine ⟨_,rfl,by simp [hp],fun t' ht => ?_⟩
   have : ¬ t = t' := fun hh => ht hh.symm
   simp [hp,this]
  ·have hp' : (p.1 == t) = false := by simpa using hp
   simp only [hp',Bool.false_eq_true,if_false] at h ⊢
   obtain ⟨l',h1,h2,h3⟩ := ih h
   refine ⟨p :: l',by simp [h1],by simp [hp,h2],fun t' ht => ?_⟩
   simp only [get]
   split
   ·rfl
   ·exact h3 t' ht
theorem mset_ok {m : Mem} {lv s : Nat} {cs : List PV} (h : mget m lv s [] = some cs) (x : List PV) : mset m lv s [] x = some (wr m lv s x) ∧ (wr m lv s x).length = m.length ∧ mget (wr m lv s x) lv s [] = some x ∧
  (∀ lv' s' p,lv' ≠ lv ∨ s' ≠ s → mget (wr m lv s x) lv' s' p = mget m lv' s' p) := by
 induction m with
 | nil => simp at h
 | cons l r ih =>
  simp only [mget] at h
  by_cases hl : lv = r.length
  ·subst hl
   simp only [beq_self_eq_true,if_true,lget,tget] at h
   cases hg : get l s with
   | none => rw [hg] at h; cases h
   | some v =>
    obtain ⟨l',h1,h2,h3⟩ := upd_some hg x
    have hm : mset (l :: r) r.length s [] x = some (l' :: r) := by simp [mset,lset,hg,tset,h1]
    have hw : wr (l :: r) r.length s x = l' :: r := by rw [wr,hm]; rfl
    rw [hw]
    refine ⟨hm,rfl,by simp [mget,lget,h2,tget],fun lv' s' p ho => ?_⟩
    simp only [mget]
    by_cases hl' : lv' = r.length
    ·subst hl'
     have : s' ≠ s := ho.resolve_left (fun hh => hh rfl)
     simp [lget,h3 s' this]
    ·have : (lv' == r.length) = false := by simpa using hl'
     simp [this]
  ·have hl2 : (lv == r.length) = false := by simpa using hl
   simp only [hl2,Bool.false_eq_true,if_false] at h
   obtain ⟨h1,h2,h3,h4⟩ := ih h
   have hm : mset (l :: r) lv s [] x = some (l :: wr r lv s x) := by simp [mset,hl2,h1]
   have hw : wr (l :: r) lv s x = l :: wr r lv s x := by rw [wr,hm]; rfl
   rw [hw]
   refine ⟨hm,by simp [h2],by simp [mget,h2,hl2,h3],fun lv' s' p ho => ?_⟩
   simp only [mget,h2]
   by_cases hl' : lv' = r.length
   ·subst hl'; simp
   ·have : (lv' == r.length) = false := by simpa using hl'
    simp [this,h4 lv' s' p ho]
theorem mset_path (m : Mem) (lv s : Nat) (p : Path) (x : List PV) : mset m lv s p x = (match mget m lv s [] with | some cs => (match tset cs p x with | some y => mset m lv s [] y | none => none) | none => none) := by
 induction m with
 | nil => simp
 | cons l r ih =>
  simp only [mget,mset]
  split
  ·simp only [lget,lset,tget]
   cases get l s with
   | none => rfl
   | some cs =>
    simp only [tset]
    cases tset cs p x <;> rfl
  ·rw [ih]
   cases mget r lv s [] with
   | none => rfl
   | some cs => simp only; cases tset cs p x <;> rfl
theorem mset_sub {m : Mem} {lv s : Nat} {p : Path} {cs y : List PV} {x : List PV} (h : mget m lv s [] = some cs) (ht : tset cs p x = some y) : mset m lv s p x = some (wr m lv s y) := by
 rw [mset_path,h]; simp only [ht]; exact (mset_ok h y).1
theorem wr_cons {l : Lvl} {m : Mem} {lv s : Nat} {x : List PV} (h : lv ≠ m.length) : wr (l :: m) lv s x = l :: wr m lv s x := by
 have : (lv == m.length) = false := by simpa using h
 unfold wr
 simp only [mset,this,Bool.false_eq_true,if_false]
 cases mset m lv s [] x <;> rfl
theorem wr_wr {m : Mem} {lv s : Nat} {cs x y : List PV} (h : mget m lv s [] = some cs) : wr (wr m lv s x) lv s y = wr m lv s y := by
 have upd_upd : ∀ (l : Lvl) (t : Nat),(match upd l t x with | some l' => upd l' t y | none => none) = upd l t y := by
  intro l t
  induction l with
  | nil => rfl
  | cons p r ih =>
   simp only [upd]
   by_cases hp : p.1 = t
   ·simp [hp]
   ·have hp' : (p.1 == t) = false := by simpa using hp
    simp only [hp',Bool.false_eq_true,if_false]
    rw [← ih]
    cases hu : upd r t x with
    | none => rfl
    | some r' => simp [hp']
 induction m with
 | nil => simp at h
 | cons l r ih =>
  by_cases hl : lv = r.length
  ·subst hl
   have h' := h
   simp only [mget,beq_self_eq_true,if_true,lget,tget] at h
   cases hg : get l s with
   | none => rw [hg] at h; cases h
   | some v =>
    obtain ⟨l',h1,h2,h3⟩ := upd_some hg x
    have hw : wr (l :: r) r.length s x = l' :: r := by simp [wr,mset,lset,hg,tset,h1]
    rw [hw]
    have := upd_upd l s
    rw [h1] at this
    simp only at this
    simp [wr,mset,lset,hg,h2,tset,this]
    obtain ⟨l2,q1,_⟩ := upd_some hg y
    simp [q1]
  ·have hl2 : (lv == r.length) = false := by simpa using hl
   simp only [mget,hl2,Bool.false_eq_true,if_false] at h
   rw [wr_cons hl,wr_cons (by rw [(mset_ok h x).2.1]; exact hl),wr_cons hl,ih h]
end Go.Proofs.Ytmffcpiffkclgaa.ZJM.DC
set_option linter.unusedSimpArgs false
set_option linter.unusedVariables false
set_option maxRecDepth 4000
namespace Go.Proofs.Ytmffcpiffkclgaa.ZJM.DC
open Go.Proofs.Ytmffcpiffkclgaa.ZJM Go.RowKit
structure Row where
 (n k a l h : Int) (nl : Bool) (b : List Int)
def Row.cs (x : Row) : List PV := [.int .i64 x.n,.int .i64 x.k,.int .i64 x.a,.int .i64 x.l,.int .i64 x.h,Bl x.nl x.b]
def Row.enc (x : Row) : PV := .agg x.cs
abbrev Rc (l : List Row) : List PV := flats Row.cs l
abbrev Rs (l : List Row) : List PV := encs Row.enc l
theorem row_data (x : Row) : PV.datas x.cs = true := by simp [Row.cs,PV.datas,PV.data,bs_data]
theorem rc_len (l : List Row) : (Rc l).length = l.length * 6 := flats_len (n := 6) (fun _ => rfl) l
theorem rc_cell (l : List Row) : (Rc l).all PV.isCell = true := flats_isCell (fun _ => rfl) l
theorem rc_data (l : List Row) : PV.datas (Rc l) = true := flats_data row_data l
theorem rs_data (l : List Row) : PV.datas (Rs l) = true := encs_data fun x _ => by simp only [Row.enc,PV.data]; exact row_data x
theorem rc_okns (l : List Row) (a b c) : PV.okns a b c (Rc l) = true := PV.datas_okns _ _ _ _ (rc_data l)
theorem rc_deps (l : List Row) (a) : PV.deps a (Rc l) = true := PV.datas_deps _ _ (rc_data l)
theorem rc_names (l : List Row) (a) : PV.namess a (Rc l) = [] := PV.datas_namess _ _ (rc_data l)
theorem rc_rens (l : List Row) (a b ρ) : PV.rens a b ρ (Rc l) = Rc l := PV.datas_rens _ _ _ _ (rc_data l)
theorem rs_okns (l : List Row) (a b c) : PV.okns a b c (Rs l) = true := PV.datas_okns _ _ _ _ (rs_data l)
theorem rs_deps (l : List Row) (a) : PV.deps a (Rs l) = true := PV.datas_deps _ _ (rs_data l)
theorem rs_names (l : List Row) (a) : PV.namess a (Rs l) = [] := PV.datas_namess _ _ (rs_data l)
theorem rs_rens (l : List Row) (a b ρ) : PV.rens a b ρ (Rs l) = Rs l := PV.datas_rens _ _ _ _ (rs_data l)
theorem rc_all (l : List Row) : (∀ x ∈ Rc l,x.isCell = true) = True := eq_true (List.all_eq_true.1 (rc_cell l))
attribute [simp] rc_okns rc_deps rc_names rc_rens rs_okns rs_deps rs_names rs_rens
theorem rc_app (A B : List Row) : Rc (A ++ B) = Rc A ++ Rc B := flats_append A B
theorem rc_cons (x : Row) (B : List Row) : Rc (x :: B) = x.cs ++ Rc B := by simp [flats]
theorem rc_mid (A B : List Row) (x : Row) : Rc (A ++ x :: B) = Rc A ++ (x.cs ++ Rc B) := by rw [rc_app,rc_cons]
theorem split_at {α : Type} (l : List α) (i : Nat) (h : i < l.length) : l = l.take i ++ l[i] :: l.drop (i + 1) := by rw [← List.drop_eq_getElem_cons h,List.take_append_drop]
theorem rc_get (l : List Row) (i : Nat) (h : i < l.length) (j : Nat) (hj : j < 6) : (Rc l)[i * 6 + j]? = l[i].cs[j]? := by
 have ht : (l.take i).length = i := by simp; omega
 have e : Rc l = Rc (l.take i) ++ (l[i].cs ++ Rc (l.drop (i + 1))) := by rw [← rc_mid,← split_at l i h]
 rw [e,List.getElem?_append_right (by rw [rc_len,ht]; omega),rc_len,ht,show i * 6 + j - i * 6 = j by omega,List.getElem?_append_left (by show j < 6; exact hj)]
theorem rc_key (l : List Row) (i : Nat) (h : i < l.length) : (Rc l)[i * 6]? = some (.int .i64 l[i].n) := by
 have := rc_get l i h 0 (by omega)
 simpa [Row.cs] using this
theorem rc_part (l : List Row) (i : Nat) (h : i < l.length) : ((Rc l).drop (i * 6 + 1)).take 5 = [.int .i64 l[i].k,.int .i64 l[i].a,.int .i64 l[i].l,.int .i64 l[i].h,Bl l[i].nl l[i].b] := by
 have ht : (l.take i).length = i := by simp; omega
 have e : Rc l = Rc (l.take i) ++ (l[i].cs ++ Rc (l.drop (i + 1))) := by rw [← rc_mid,← split_at l i h]
 rw [e,List.drop_append,rc_len,ht,List.drop_of_length_le (by rw [rc_len,ht]; omega),show i * 6 + 1 - i * 6 = 1 by omega]
 simp [Row.cs]
def shC (ver : Nat) : List Row → PV
 | [] => .lst none true 6 []
 | x :: r => .vec ver (r.length + 1) 6 (Rc (x :: r))
def Rising (l : List Row) : Prop := ∀ i j,(hij : i < j) → (hj : j < l.length) → l[i].n < l[j].n
structure Pl (l : List Row) (k : Int) (p : Nat) : Prop where
 le : p ≤ l.length
 below : ∀ t,(h : t < p) → (ht : t < l.length) → l[t].n < k
 from' : ∀ t,p ≤ t → (ht : t < l.length) → k ≤ l[t].n
def isAt (l : List Row) (k : Int) (p : Nat) : Bool := match l[p]? with | some x => x.n == k | none => false
section
variable (m : Mem) (lv a ver : Nat) (l : List Row) (k : Int)
def S104 (lo hi : Nat) : St := ⟨[(0,.ptr lv a [] 0),(1,.int .i64 k),(6,.int .i64 lo),(7,.int .i64 hi)],[],[],[],m⟩
theorem loop104 (x : Row) (r : List Row) (hm : mget m lv a [] = some [shC ver (x :: r)]) (hl : r.length + 1 ≤ 512) (hs : Rising (x :: r)) {st : St} (h0 : maskSt [0,1,6,7] [] [] [] st = some (S104 m lv a k 0 (r.length + 1))) :
  ∃ e st',loopW (maskSt [0,1,6,7] [] [] []) (Cd.run (app E) c104.body.inner.body) st = some (e,st') ∧ e ≠ .normal ∧ (e = .exit 0 ∧ ∃ p,Pl (x :: r) k p ∧ ∃ u v w,st' = { S104 m lv a k p p with f := (23,u) :: (22,v) :: (21,w) :: (S104 m lv a k p p).f }) := by
 refine loop_inv (fun i S => ∃ lo hi,lo ≤ hi ∧ hi ≤ (x :: r).length ∧ hi + i ≤ lo + (x :: r).length ∧ (∀ t,(h : t < lo) → (ht : t < (x :: r).length) → (x :: r)[t].n < k) ∧ (∀ t,hi ≤ t → (ht : t < (x :: r).length) → k ≤ (x :: r)[t].n) ∧ S = S104 m lv a k lo hi) (x :: r).length _ h0
  ⟨0,(x :: r).length,by omega,by omega,by omega,fun t h _ => by omega,fun t h ht => by omega,rfl⟩ ?_ ?_
 ·rintro i S hi ⟨lo,hi',h1,h2,h3,h4,h5,rfl⟩
  by_cases hlt : lo < hi'
  ·refine .inl ?_
   have hlt' : (lo : Int) < hi' := by omega
   obtain ⟨md,hmd⟩ : ∃ md : Nat,md = (lo + hi') / 2 := ⟨_,rfl⟩
   have hmd1 : lo ≤ md := by omega
   have hmd2 : md < hi' := by omega
   have hmd3 : md < (x :: r).length := by omega
   simp only [List.length_cons] at h2 h3 hmd3
   have w1 : IntKind.i64.wrap ((lo : Int) + hi') = (lo : Int) + hi' := wrap_id _ (by omega) (by omega)
   have w2 : IntKind.i64.wrap (((lo : Int) + hi').tdiv 2) = md := by rw [Int.tdiv_eq_ediv_of_nonneg (by omega),wrap_id _ (by omega) (by omega)]; omega
   have hmd4 : (md : Int) < (r.length : Int) + 1 := by omega
   have w3 := wrap_succ md (by omega)
   have hlv : lv ≠ m.length := by have := mget_lt hm; omega
   have hp : mget m lv a [(0,ver)] = some (Rc (x :: r)) := by rw [mget_sub hm]; simp [tget,shC]
   have hk := rc_key (x :: r) md (by simpa using hmd3)
   by_cases hc : ((x :: r)[md]'(by simpa using hmd3)).n < k
   ·have hG : Goes (maskSt [0,1,6,7] [] [] []) (S104 m lv a k (md + 1) hi') (Cd.run (app E) c104.body.inner.body (S104 m lv a k lo hi')) := by
     simp [c104,Cd.inner,Cd.body,S104,hlt',w1,w2,w3,hlv,hm,hp,shC,hmd3,hmd4,hk,hc]
    obtain ⟨st2,q1,q2⟩ := hG.get
    refine ⟨st2,_,q1,q2,md + 1,hi',by omega,by simp; omega,by simp; omega,fun t ht htl => ?_,h5,rfl⟩
    by_cases he : t = md
    ·subst he; exact hc
    ·have : (x :: r)[t].n < (x :: r)[md].n := hs t md (by omega) (by simpa using hmd3)
     omega
   ·have hG : Goes (maskSt [0,1,6,7] [] [] []) (S104 m lv a k lo md) (Cd.run (app E) c104.body.inner.body (S104 m lv a k lo hi')) := by
     simp [c104,Cd.inner,Cd.body,S104,hlt',w1,w2,w3,hlv,hm,hp,shC,hmd3,hmd4,hk,hc]
    obtain ⟨st2,q1,q2⟩ := hG.get
    refine ⟨st2,_,q1,q2,lo,md,by omega,by simp; omega,by simp; omega,h4,fun t ht htl => ?_,rfl⟩
    by_cases he : t = md
    ·subst he; omega
    ·have : (x :: r)[md].n < (x :: r)[t].n := hs md t (by omega) htl
     omega
  ·refine .inr ?_
   have : lo = hi' := by omega
   subst this
   simp [c104,Cd.inner,Cd.body,S104,EndsL]
   exact ⟨lo,⟨h2,h4,h5⟩,rfl⟩
 ·rintro S ⟨lo,hi',h1,h2,h3,h4,h5,rfl⟩
  have : lo = hi' := by omega
  subst this
  simp [c104,Cd.inner,Cd.body,S104,EndsL]
  exact ⟨lo,⟨h2,h4,h5⟩,rfl⟩
end
end Go.Proofs.Ytmffcpiffkclgaa.ZJM.DC
set_option linter.unusedSimpArgs false
set_option linter.unusedVariables false
set_option maxRecDepth 4000
namespace Go.Proofs.Ytmffcpiffkclgaa.ZJM.DC
open Go.Proofs.Ytmffcpiffkclgaa.ZJM Go.RowKit
section
variable (m : Mem) (lv a ver : Nat) (l : List Row) (k : Int)
theorem app104 (hm : mget m lv a [] = some [shC ver l]) (hl : l.length ≤ 512) (hs : Rising l) :
  ∃ p,Pl l k p ∧ app E false (.fn 153 []) [.ptr lv a [] 0,.int .i64 k] m = some (.tup [.int .i64 p,.bool (isAt l k p)],emptyBag,m) := by
 have hlv : lv ≠ m.length := by have := mget_lt hm; omega
 rw [app_fn E rfl h104 rfl]
 cases l with
 | nil =>
  have h : ∀ st,maskSt [0,1,6,7] [] [] [] st = some (S104 m lv a k 0 0) → loopW (maskSt [0,1,6,7] [] [] []) (Cd.run (app E) c104.body.inner.body) st = c104.body.inner.body.run (app E) (S104 m lv a k 0 0) := fun st h0 => by
   refine loop_eq (fun _ => S104 m lv a k 0 0) 0 (fun i hi => by omega) ?_ h0
   simp [c104,Cd.inner,Cd.body,S104]
  simp only [c104,Cd.inner,Cd.body,S104] at h
  refine ⟨0,⟨Nat.le_refl _,fun t h _ => by omega,fun t _ h => by simp at h⟩,?_⟩
  simp [c104,hlv,hm,shC]
  rw [h _ (by simp [hlv])]
  simp [hlv,hm,shC,isAt]
 | cons x r =>
  have hp : mget m lv a [(0,ver)] = some (Rc (x :: r)) := by rw [mget_sub hm]; simp [tget,shC]
  obtain ⟨e,st',q1,q2,q3,p,hP,u,v,w,q4⟩ := @loop104 m lv a ver k x r hm (by simpa using hl) hs ⟨[(7,.int .i64 (r.length + 1)),(6,.int .i64 0),(20,.int .i64 (r.length + 1)),(19,.slr lv a [(0,ver)] 0 (r.length + 1) 6),(18,.ptr lv a [] 0),(17,.ptr lv a [] 0),(16,.ptr lv a [] 0),(15,.bool false),(14,.bool false),(13,.int .i64 k),(12,.int .i64 k),(11,.bool false),(10,.bool false),(9,.ptr lv a [] 0),(5,.bool false),(4,.int .i64 0),(0,.ptr lv a [] 0),(1,.int .i64 k)],[],[],[],m⟩ (by simp [S104,hlv])
  subst q3; subst q4
  simp only [c104,Cd.inner,Cd.body] at q1
  refine ⟨p,hP,?_⟩
  simp [c104,hlv,hm,shC,q1]
  have hple := hP.le
  simp only [List.length_cons] at hple
  by_cases hlt : p < r.length + 1
  ·have hlt' : (p : Int) < (r.length : Int) + 1 := by omega
   have hk := rc_key (x :: r) p (by simpa using hlt)
   have hi : isAt (x :: r) k p = ((x :: r)[p].n == k) := by simp [isAt,hlt]
   rw [hi]
   simp [S104,hlv,hm,hp,shC,hlt,hlt',hk]
  ·have hlt' : ¬ (p : Int) < (r.length : Int) + 1 := by omega
   have hi : isAt (x :: r) k p = false := by simp [isAt,hlt]
   rw [hi]
   simp [S104,hlv,hm,hp,shC,hlt']
end
def getW (l : List Row) (k : Int) : Option Row := l.find? fun x => x.n == k
theorem pl_get {l : List Row} {k : Int} {p : Nat} (hP : Pl l k p) (hs : Rising l) : (isAt l k p = true → ∃ h : p < l.length,l[p].n = k ∧ getW l k = some l[p]) ∧ (isAt l k p = false → getW l k = none) := by
 constructor
 ·intro hi
  unfold isAt at hi
  cases hp : l[p]? with
  | none => rw [hp] at hi; cases hi
  | some x =>
   rw [hp] at hi
   obtain ⟨h1,h2⟩ := List.getElem?_eq_some_iff.1 hp
   subst h2
   simp only [beq_iff_eq] at hi
   refine ⟨h1,hi,?_⟩
   unfold getW
   rw [List.find?_eq_some_iff_getElem]
   refine ⟨by simpa using hi,p,h1,rfl,fun j hj => ?_⟩
   have := hP.below j hj (by omega)
   simp; omega
 ·intro hi
  unfold getW
  rw [List.find?_eq_none]
  intro x hx
  obtain ⟨t,ht,rfl⟩ := List.mem_iff_getElem.1 hx
  by_cases h1 : t < p
  ·have := hP.below t h1 ht; simp; omega
  ·by_cases h2 : t = p
   ·subst h2
    simp only [isAt,List.getElem?_eq_getElem ht] at hi
    simpa using hi
   ·have h3 := hP.from' p (Nat.le_refl _) (by omega)
    have h4 := hs p t (by omega) ht
    simp; omega
abbrev eny (k a l h : Int) (nl : Bool) (b : List Int) : PV := .agg [.int .i64 k,.int .i64 a,.int .i64 l,.int .i64 h,Bl nl b]
def optE : Option Row → PV
 | none => eny 0 0 0 0 true []
 | some x => eny x.k x.a x.l x.h x.nl x.b
section
variable (m : Mem) (lv a ver : Nat) (l : List Row) (k : Int)
theorem app103 (hm : mget m lv a [] = some [shC ver l]) (hl : l.length ≤ 512) (hs : Rising l) :
  app E false (.fn 152 []) [.ptr lv a [] 0,.int .i64 k] m = some (.tup [optE (getW l k),.bool (getW l k).isSome],emptyBag,m) := by
 have hlv : lv ≠ m.length := by have := mget_lt hm; omega
 obtain ⟨p,hP,h⟩ := app104 ([(4,[.int .i64 0,.int .i64 0,.int .i64 0,.int .i64 0,.lst none true 1 []])] :: m) lv a ver l k (by simp [hlv,hm]) hl hs
 obtain ⟨g1,g2⟩ := pl_get hP hs
 rw [app_fn E rfl h103 rfl]
 cases hi : isAt l k p with
 | false =>
  rw [hi] at h
  rw [g2 hi]
  simp [c103,h,optE]
 | true =>
  rw [hi] at h
  obtain ⟨hlt,hn,hg⟩ := g1 hi
  rw [hg]
  obtain ⟨x,r,rfl⟩ : ∃ x r,l = x :: r := by
   cases l with
   | nil => simp at hlt
   | cons x r => exact ⟨x,r,rfl⟩
  have hp : mget m lv a [(0,ver)] = some (Rc (x :: r)) := by rw [mget_sub hm]; simp [tget,shC]
  have hlt2 : p < r.length + 1 := by simpa using hlt
  have hlt' : (p : Int) < (r.length : Int) + 1 := by omega
  have hpt := rc_part (x :: r) p hlt
  have hle : p * 6 + 1 + 5 ≤ (Rc (x :: r)).length := by rw [rc_len]; simp only [List.length_cons]; omega
  generalize (x :: r)[p] = z at *
  simp [c103,h,hlv,hm,hp,shC,hlt2,hlt',hpt,hle,optE]
theorem app60 (hm : mget m lv a [] = some [shC ver l]) : app E false (.fn 112 []) [.ptr lv a [] 0] m = some (.int .i64 l.length,emptyBag,m) := by
 have hlv : lv ≠ m.length := by have := mget_lt hm; omega
 rw [app_fn E rfl h60 rfl]
 cases l <;> simp [c60,hlv,hm,shC]
end
end Go.Proofs.Ytmffcpiffkclgaa.ZJM.DC
set_option linter.unusedSimpArgs false
set_option linter.unusedVariables false
set_option maxRecDepth 4000
namespace Go.Proofs.Ytmffcpiffkclgaa.ZJM.DC
open Go.Proofs.Ytmffcpiffkclgaa.ZJM Go.RowKit
def okRow (x : Row) : Prop := OkB x.b ∧ (x.nl = true → x.b = []) ∧ mayA x.k x.a x.l x.h = true ∧ fitsA x.k x.a x.l x.h x.b = 0 ∧ ∃ i s,okK i s = true ∧ x.n = i * 256 + s
structure DA (m : Mem) (lv a a' ver : Nat) (l : List Row) (c : Int) : Prop where
 d : mget m lv a [] = some [.ptr lv a' [] 0,.int .i64 c]
 s : mget m lv a' [] = some [shC ver l]
 ne : a ≠ a'
structure Dok (l : List Row) : Prop where
 len : l.length ≤ 512
 ris : Rising l
 all : ∀ x ∈ l,okRow x
theorem DA.lv_lt {m : Mem} {lv a a' ver : Nat} {l : List Row} {c : Int} (h : DA m lv a a' ver l c) : lv < m.length := mget_lt h.d
theorem DA.cons {m : Mem} {lv a a' ver : Nat} {l : List Row} {c : Int} (h : DA m lv a a' ver l c) (own : Lvl) : DA (own :: m) lv a a' ver l c := by
 have h1 := h.lv_lt
 have h2 : lv ≠ m.length := by omega
 exact ⟨by simp [h2,h.d],by simp [h2,h.s],h.ne⟩
def isD (dp : PV) : Prop := dp = .nilp ∨ ∃ lv a,dp = .ptr lv a [] 0
def Finds (m : Mem) (dp : PV) (i s : Int) (o : Option Row) : Prop := ∀ own : Lvl,app E false (.fn 111 []) [dp,ky i s] (own :: m) = some (.tup [optE o,.bool o.isSome],emptyBag,own :: m)
theorem optE_cases (o : Option Row) : ∃ k a l h nl b,optE o = eny k a l h nl b := by
 cases o with
 | none => exact ⟨_,_,_,_,_,_,rfl⟩
 | some x => exact ⟨_,_,_,_,_,_,rfl⟩
section
variable {m : Mem} {lv a a' ver : Nat} {l : List Row} {c : Int} (hd : DA m lv a a' ver l c) (hk : Dok l)
include hd hk in
theorem app59 (i s : Int) : app E false (.fn 111 []) [.ptr lv a [] 0,ky i s] m = some (.tup [optE (getW l (knum i s)),.bool (getW l (knum i s)).isSome],emptyBag,m) := by
 have hlv : lv ≠ m.length := by have := hd.lv_lt; omega
 have h1 := hd.d
 have h := app103 ([(4,[.int .i64 0,.int .i64 0,.int .i64 0,.int .i64 0,.lst none true 1 []]),(3,[.int .i64 i,.int .i64 s])] :: m) lv a' ver l (knum i s) (hd.cons _).s hk.len hk.ris
 have h55 := app55 i s
 rw [app_fn E rfl h59 rfl]
 obtain ⟨k,a1,l1,hh,nl,b,ho⟩ := optE_cases (getW l (knum i s))
 rw [ho] at h
 rw [ho]
 generalize (getW l (knum i s)).isSome = q at *
 simp [c59,hlv,h1,h55,h]
include hd hk in
theorem finds (i s : Int) : Finds m (.ptr lv a [] 0) i s (getW l (knum i s)) := fun own => app59 (hd.cons own) hk i s
end
def okO (o : Option Row) : Prop := ∀ x,o = some x → okRow x
def rawB : Option Row → Bool × List Int
 | none => (true,[])
 | some x => (x.nl,x.b)
def specP : Option Row → PV
 | none => sp 0 0 0 0
 | some x => sp x.k x.a x.l x.h
def numO : Option Row → Int × Bool
 | none => (0,false)
 | some x => numA x.k x.a x.l x.h x.b
theorem okO_get {l : List Row} (hk : Dok l) (n : Int) : okO (getW l n) := fun x hx => hk.all x (List.mem_of_find?_eq_some hx)
section
variable {m : Mem} {dp : PV} {i s : Int} {o : Option Row} (hD : isD dp) (hf : Finds m dp i s o) (ho : okO o)
include hD hf in
theorem app95 : app E false (.fn 92 []) [dp,ky i s] m = some (.tup [specP o,.bool o.isSome],emptyBag,m) := by
 have h := hf [(4,[.int .i64 0,.int .i64 0,.int .i64 0,.int .i64 0]),(3,[.int .i64 i,.int .i64 s])]
 rcases hD with rfl | ⟨lv,a,rfl⟩ <;> rw [app_fn E rfl h95 rfl] <;> cases o <;> simp [c95,h,optE,specP]
include hD hf ho in
theorem app31 : app E false (.fn 76 []) [dp,ky i s] m = some (.tup [.int .i64 (numO o).1,.bool (numO o).2],emptyBag,m) := by
 have h := hf [(3,[.int .i64 i,.int .i64 s])]
 rcases hD with rfl | ⟨lv,a,rfl⟩ <;> rw [app_fn E rfl h31 rfl] <;> cases o with
 | none => simp [c31,h,optE,numO]
 | some x =>
  have hx := ho x rfl
  have h79' := app79 x.k x.a x.l x.h x.nl x.b hx.1
  simp [c31,h,optE,numO,h79']
def ownE : Option Row → Int
 | none => 7
 | some x => if x.a = 4 then 12 else 0
def ownO : Option Row → Option Row
 | none => none
 | some x => if x.a = 4 then none else some x
end
section
variable {m : Mem} {dp : PV} {i s : Int} {o : Option Row} (hf : Finds m dp i s o)
include hf in
theorem app91 {lv a : Nat} (hdp : dp = .ptr lv a [] 0) : app E false (.fn 134 []) [dp,ky i s] m = some (.tup [optE (ownO o),.int .i64 (ownE o)],emptyBag,m) := by
 subst hdp
 have h := hf [(4,[.int .i64 0,.int .i64 0,.int .i64 0,.int .i64 0,.lst none true 1 []]),(3,[.int .i64 i,.int .i64 s])]
 rw [app_fn E rfl h91 rfl]
 cases o with
 | none => simp [c91,h,optE,ownO,ownE]
 | some x =>
  by_cases h4 : x.a = 4
  ·simp [c91,h,optE,ownO,ownE,h4]
  ·have h4' : (x.a == 4) = false := by simpa using h4
   simp [c91,h,optE,ownO,ownE,h4,h4']
end
end Go.Proofs.Ytmffcpiffkclgaa.ZJM.DC
