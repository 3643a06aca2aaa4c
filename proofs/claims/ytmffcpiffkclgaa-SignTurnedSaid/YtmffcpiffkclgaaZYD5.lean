/- The shelf: a key gets a thing. -/
import Derived.Test.YtmffcpiffkclgaaZYD1
set_option linter.unusedSimpArgs false
set_option linter.unusedVariables false
set_option maxRecDepth 4000
namespace Go.Proofs.Ytmffcpiffkclgaa.ZJM.DC
open Go.Proofs.Ytmffcpiffkclgaa.ZJM Go.RowKit
def putW (x : Row) : List Row → List Row
 | [] => [x]
 | y :: r => if y.n < x.n then y :: putW x r else if y.n = x.n then x :: r else x :: y :: r
theorem putW_new {l : List Row} {x : Row} {p : Nat} (hP : Pl l x.n p) (hi : isAt l x.n p = false) : putW x l = l.take p ++ x :: l.drop p := by
 induction l generalizing p with
 | nil => have := hP.le; simp at this; subst this; rfl
 | cons y r ih =>
  cases p with
  | zero =>
   have h1 := hP.from' 0 (Nat.le_refl _) (by simp)
   simp only [List.getElem_cons_zero] at h1
   have h2 : ¬ y.n = x.n := by simpa [isAt] using hi
   have h3 : ¬ y.n < x.n := by omega
   simp [putW,h2,h3]
  | succ p =>
   have h1 := hP.below 0 (by omega) (by simp)
   simp only [List.getElem_cons_zero] at h1
   have hP' : Pl r x.n p := ⟨by have := hP.le; simpa using this,fun t h ht => by have := hP.below (t + 1) (by omega) (by simpa using ht); simpa using this,fun t h ht => by have := hP.from' (t + 1) (by omega) (by simpa using ht); simpa using this⟩
   simp [putW,h1,ih hP' (by simpa [isAt] using hi)]
theorem putW_old {l : List Row} {x : Row} {p : Nat} (hP : Pl l x.n p) (hi : isAt l x.n p = true) : putW x l = l.take p ++ x :: l.drop (p + 1) := by
 induction l generalizing p with
 | nil => simp [isAt] at hi
 | cons y r ih =>
  cases p with
  | zero =>
   have h2 : y.n = x.n := by simpa [isAt] using hi
   simp [putW,h2]
  | succ p =>
   have h1 := hP.below 0 (by omega) (by simp)
   simp only [List.getElem_cons_zero] at h1
   have hP' : Pl r x.n p := ⟨by have := hP.le; simpa using this,fun t h ht => by have := hP.below (t + 1) (by omega) (by simpa using ht); simpa using this,fun t h ht => by have := hP.from' (t + 1) (by omega) (by simpa using ht); simpa using this⟩
   simp [putW,h1,ih hP' (by simpa [isAt] using hi)]
theorem shC_len (ver : Nat) (l : List Row) (h : l ≠ []) : shC ver l = .vec ver l.length 6 (Rc l) := by
 cases l with
 | nil => exact absurd rfl h
 | cons x r => rfl
theorem rc_set (l : List Row) (p : Nat) (hp : p < l.length) (k a l1 h : Int) (nl : Bool) (b : List Int) : (Rc l).take (p * 6 + 1) ++ (PV.int .i64 k :: .int .i64 a :: .int .i64 l1 :: .int .i64 h :: Bl nl b :: (Rc l).drop (p * 6 + 1 + 5)) = Rc (l.take p ++ ⟨l[p].n,k,a,l1,h,nl,b⟩ :: l.drop (p + 1)) := by
 have ht : (l.take p).length = p := by simp; omega
 have e : Rc l = Rc (l.take p) ++ (l[p].cs ++ Rc (l.drop (p + 1))) := by rw [← rc_mid,← split_at l p hp]
 have hL : (Rc (l.take p)).length = p * 6 := by rw [rc_len,ht]
 have e1 : (Rc (l.take p)).take (p * 6 + 1) = Rc (l.take p) := List.take_of_length_le (by omega)
 have e2 : (Rc (l.take p)).drop (p * 6 + 1 + 5) = [] := List.drop_of_length_le (by omega)
 rw [rc_mid,e,List.take_append,List.drop_append,hL,e1,e2,show p * 6 + 1 - p * 6 = 1 by omega,show p * 6 + 1 + 5 - p * 6 = 6 by omega]
 simp [Row.cs]
theorem rc_ins (l : List Row) (p : Nat) (hp : p ≤ l.length) (x : Row) : (Rc l).take (p * 6) ++ (x.cs ++ (Rc l).drop (p * 6)) = Rc (l.take p ++ x :: l.drop p) := by
 have ht : (l.take p).length = p := by simp; omega
 have e : Rc l = Rc (l.take p) ++ Rc (l.drop p) := by rw [← rc_app,List.take_append_drop]
 have hL : (Rc (l.take p)).length = p * 6 := by rw [rc_len,ht]
 have e1 : (Rc (l.take p)).take (p * 6) = Rc (l.take p) := List.take_of_length_le (by omega)
 have e2 : (Rc (l.take p)).drop (p * 6) = [] := List.drop_of_length_le (by omega)
 rw [rc_mid,e,List.take_append,List.drop_append,hL,e1,e2,Nat.sub_self]
 simp
section
variable (m : Mem) (lv a ver : Nat) (l : List Row) (k k1 a1 l1 h1 : Int) (nl : Bool) (b : List Int)
theorem app61 (hm : mget m lv a [] = some [shC ver l]) (hl : l.length < 512 ∨ l.length = 512 ∧ (getW l k).isSome = true) (hs : Rising l) :
  ∃ ver',app E false (.fn 113 []) [.ptr lv a [] 0,.int .i64 k,eny k1 a1 l1 h1 nl b] m = some (.bool (getW l k).isSome,emptyBag,wr m lv a [shC ver' (putW ⟨k,k1,a1,l1,h1,nl,b⟩ l)]) := by
 have hlt0 := mget_lt hm
 have hlv : lv ≠ m.length := by omega
 have hlen : l.length ≤ 512 := by omega
 obtain ⟨p,hP,h⟩ := app104 ([(5,[.int .i64 k1,.int .i64 a1,.int .i64 l1,.int .i64 h1,.lst none nl 1 (Bs b)])] :: m) lv a ver l k (by simp [hlv,hm]) hlen hs
 obtain ⟨g1,g2⟩ := pl_get hP hs
 rw [app_fn E rfl h61 rfl]
 cases hi : isAt l k p with
 | true =>
  obtain ⟨hlt,hn,hg⟩ := g1 hi
  rw [hi] at h
  have hput := putW_old (x := ⟨k,k1,a1,l1,h1,nl,b⟩) hP hi
  refine ⟨ver,?_⟩
  have hset := rc_set l p hlt k1 a1 l1 h1 nl b
  rw [hn,← hput] at hset
  have hne : l ≠ [] := by rintro rfl; simp at hlt
  have hplen : (putW ⟨k,k1,a1,l1,h1,nl,b⟩ l).length = l.length := by rw [hput]; simp; omega
  have hpne : putW ⟨k,k1,a1,l1,h1,nl,b⟩ l ≠ [] := by intro hh; rw [hh] at hplen; simp at hplen; exact hne (List.length_eq_zero_iff.1 hplen.symm)
  have hm' := hm
  rw [shC_len ver l hne] at hm
  have hp : mget m lv a [(0,ver)] = some (Rc l) := by rw [mget_sub hm]; simp [tget]
  rw [shC_len _ _ hpne,hplen]
  have hms : mset m lv a [(0,ver)] (Rc (putW ⟨k,k1,a1,l1,h1,nl,b⟩ l)) = some (wr m lv a [.vec ver l.length 6 (Rc (putW ⟨k,k1,a1,l1,h1,nl,b⟩ l))]) := mset_sub hm (by simp [tset])
  have hlt' : (p : Int) < l.length := by omega
  have hle : p * 6 + 1 + 5 ≤ (Rc l).length := by rw [rc_len]; omega
  have hpl : (((Rc l).drop (p * 6 + 1)).take 5).all (fun c => !isPlace c) = true := by rw [rc_part l p hlt]; rfl
  rw [hg]
  generalize Rc l = C at *
  generalize Rc (putW ⟨k,k1,a1,l1,h1,nl,b⟩ l) = C' at *
  simp only [isPlace] at hpl
  simp [c61,h,hlv,hm,hp,hlt,hlt',hle,hset,hms,hpl]
 | false =>
  have hg := g2 hi
  rw [hi] at h
  have hput := putW_new (x := ⟨k,k1,a1,l1,h1,nl,b⟩) hP hi
  have hple := hP.le
  have hset := rc_ins l p hple ⟨k,k1,a1,l1,h1,nl,b⟩
  rw [← hput] at hset
  have hplen : (putW ⟨k,k1,a1,l1,h1,nl,b⟩ l).length = l.length + 1 := by rw [hput]; simp; omega
  have hpne : putW ⟨k,k1,a1,l1,h1,nl,b⟩ l ≠ [] := by intro hh; rw [hh] at hplen; simp at hplen
  rw [hg]
  cases l with
  | nil =>
   refine ⟨0,?_⟩
   have hp0 : p = 0 := by simpa using hple
   subst hp0
   simp only [shC] at hm
   have hms := (mset_ok hm [shC 0 (putW ⟨k,k1,a1,l1,h1,nl,b⟩ [])]).1
   simp only [putW,shC,flats_one,Row.cs,List.length_nil,Nat.zero_add] at hms ⊢
   simp [c61,h,hlv,hm,app_ins,insF,bagOf,bagChk,renB,obsB,topsB,nameIn,isRec,noTagB,nodupB,tagsOf,tagOf,PV.retag,PV.retag1,bagName,hms]
  | cons y r =>
   refine ⟨ver + 1,?_⟩
   simp only [shC] at hm
   have hlv1 : lv ≠ m.length + 1 := by omega
   obtain ⟨q1,q2,q3,q4⟩ := mset_ok hm [.gone ver 6]
   have q5 : mset (wr m lv a [.gone ver 6]) lv a [] [shC (ver + 1) (putW ⟨k,k1,a1,l1,h1,nl,b⟩ (y :: r))] = some (wr m lv a [shC (ver + 1) (putW ⟨k,k1,a1,l1,h1,nl,b⟩ (y :: r))]) := by
    rw [(mset_ok q3 _).1,wr_wr hm]
   rw [shC_len _ _ hpne,hplen] at q5 ⊢
   have hp : mget m lv a [(0,ver)] = some (Rc (y :: r)) := by rw [mget_sub hm]; simp [tget]
   have hcl := rc_len (y :: r)
   have hcl' := rc_len (putW ⟨k,k1,a1,l1,h1,nl,b⟩ (y :: r))
   rw [hplen] at hcl'
   have hca := rc_all (y :: r)
   have hca' := rc_all (putW ⟨k,k1,a1,l1,h1,nl,b⟩ (y :: r))
   have hdd := rc_data (y :: r)
   have hdd' := rc_data (putW ⟨k,k1,a1,l1,h1,nl,b⟩ (y :: r))
   have hir : (∀ x ∈ Rc (putW ⟨k,k1,a1,l1,h1,nl,b⟩ (y :: r)),isRec x = false) = True := eq_true fun x hx => by
    have := List.all_eq_true.1 (rc_cell _) x hx
    cases x <;> first | rfl | (simp [PV.isCell] at this)
   have hbb : (r.length + 1 + 1) * 64 ≤ maxBytes := by unfold maxBytes; simp only [List.length_cons] at hlen; omega
   simp only [List.length_cons] at *
   have hpi : (p : Int) ≤ (r.length : Int) + 1 := by omega
   simp only [Row.cs,List.cons_append,List.nil_append] at hset
   have k1' := fun a b c => PV.datas_okns a b c _ hdd'
   have k2' := fun a => PV.datas_deps a _ hdd'
   have k3' := fun a => PV.datas_namess a _ hdd'
   have k4' := fun a b c => PV.datas_rens a b c _ hdd'
   generalize wr m lv a [.gone ver 6] = M1 at *
   generalize Rc (y :: r) = C at *
   generalize Rc (putW ⟨k,k1,a1,l1,h1,nl,b⟩ (y :: r)) = C' at *
   simp [c61,h,hlv,hlv1,hm,hp,app_ins,insF,q1,q2,q3,q5,hcl,hcl',hca,hca',hset,hbb,hpi,hir,k1',k2',k3',k4',bagOf,bagChk,renB,obsB,topsB,nameIn,noTagB,nodupB,tagsOf,tagOf,PV.retag,PV.retag1,bagName]
end
end Go.Proofs.Ytmffcpiffkclgaa.ZJM.DC
set_option linter.unusedSimpArgs false
set_option linter.unusedVariables false
set_option maxRecDepth 4000
namespace Go.Proofs.Ytmffcpiffkclgaa.ZJM.DC
open Go.Proofs.Ytmffcpiffkclgaa.ZJM Go.RowKit
theorem wr_same {m : Mem} {lv s : Nat} {cs : List PV} (h : mget m lv s [] = some cs) : wr m lv s cs = m := by
 have upd_same : ∀ (l : Lvl) (v : List PV),get l s = some v → upd l s v = some l := by
  intro l v
  induction l with
  | nil => intro hh; simp at hh
  | cons p r ih =>
   intro hh
   simp only [get,upd] at hh ⊢
   by_cases hp : p.1 = s
   ·simp only [hp,beq_self_eq_true,if_true,Option.some.injEq] at hh ⊢
    rw [← hh,← hp]
   ·have hp' : (p.1 == s) = false := by simpa using hp
    simp only [hp',Bool.false_eq_true,if_false] at hh ⊢
    rw [ih hh]; rfl
 induction m with
 | nil => simp at h
 | cons l r ih =>
  by_cases hl : lv = r.length
  ·subst hl
   simp only [mget,beq_self_eq_true,if_true,lget] at h
   cases hg : get l s with
   | none => rw [hg] at h; cases h
   | some v =>
    rw [hg] at h
    simp only [tget,Option.some.injEq] at h
    subst h
    simp [wr,mset,lset,hg,tset,upd_same l v hg]
  ·rw [wr_cons hl,ih (by simpa [mget,hl] using h)]
theorem upd_comm {a a' : Nat} (hne : a ≠ a') (x y : List PV) : ∀ (L : Lvl),get L a ≠ none → get L a' ≠ none → (match upd L a' y with | some L' => upd L' a x | none => none) = (match upd L a x with | some L' => upd L' a' y | none => none) := by
 intro L
 induction L with
 | nil => intro h; simp at h
 | cons p r ih =>
  intro g1 g2
  simp only [get] at g1 g2
  by_cases e1 : p.1 = a
  ·have e2 : ¬ a = a' := hne
   have e3 : (p.1 == a') = false := by rw [e1]; simpa using e2
   simp only [e3,Bool.false_eq_true,if_false] at g2
   cases hu : upd r a' y with
   | none =>
    cases hgr : get r a' with
    | none => exact absurd hgr g2
    | some v => obtain ⟨l',q,_⟩ := upd_some hgr y; rw [hu] at q; cases q
   | some r' => simp [upd,e1,e2,hu]
  ·by_cases e2 : p.1 = a'
   ·have e3 : ¬ a' = a := fun h => hne h.symm
    have e4 : (p.1 == a) = false := by simpa using e1
    simp only [e4,Bool.false_eq_true,if_false] at g1
    cases hu : upd r a x with
    | none =>
     cases hgr : get r a with
     | none => exact absurd hgr g1
     | some v => obtain ⟨l',q,_⟩ := upd_some hgr x; rw [hu] at q; cases q
    | some r' => simp [upd,e2,e3,hu]
   ·have e4 : (p.1 == a) = false := by simpa using e1
    have e5 : (p.1 == a') = false := by simpa using e2
    simp only [e4,e5,Bool.false_eq_true,if_false] at g1 g2
    have := ih g1 g2
    cases h1 : upd r a x with
    | none =>
     cases hgr : get r a with
     | none => exact absurd hgr g1
     | some v => obtain ⟨l',q,_⟩ := upd_some hgr x; rw [h1] at q; cases q
    | some r1 =>
     cases h2 : upd r a' y with
     | none =>
      cases hgr : get r a' with
      | none => exact absurd hgr g2
      | some v => obtain ⟨l',q,_⟩ := upd_some hgr y; rw [h2] at q; cases q
     | some r2 =>
      rw [h1,h2] at this
      simp only at this
      simp [upd,e1,e2,h1,h2,this]
theorem wr_here {r : Mem} {l : Lvl} {s : Nat} {x : List PV} {l' : Lvl} {v : List PV} (hg : get l s = some v) (hu : upd l s x = some l') : wr (l :: r) r.length s x = l' :: r := by
 simp [wr,mset,lset,hg,tset,hu]
theorem wr_comm {m : Mem} {lv a a' : Nat} {c1 c2 : List PV} (hne : a ≠ a') (h1 : mget m lv a [] = some c1) (h2 : mget m lv a' [] = some c2) (x y : List PV) : wr (wr m lv a' y) lv a x = wr (wr m lv a x) lv a' y := by
 induction m with
 | nil => simp at h1
 | cons l r ih =>
  by_cases hl : lv = r.length
  ·subst hl
   simp only [mget,beq_self_eq_true,if_true,lget] at h1 h2
   cases g1 : get l a with
   | none => rw [g1] at h1; cases h1
   | some v1 =>
    cases g2 : get l a' with
    | none => rw [g2] at h2; cases h2
    | some v2 =>
     obtain ⟨l1,q1,q2,q3⟩ := upd_some g1 x
     obtain ⟨l2,r1,r2,r3⟩ := upd_some g2 y
     have k1 : get l1 a' = some v2 := by rw [q3 a' hne.symm]; exact g2
     have k2 : get l2 a = some v1 := by rw [r3 a hne]; exact g1
     obtain ⟨l3,s1,_⟩ := upd_some k1 y
     obtain ⟨l4,t1,_⟩ := upd_some k2 x
     have := upd_comm hne x y l (by rw [g1]; simp) (by rw [g2]; simp)
     rw [q1,r1] at this
     simp only [s1,t1,Option.some.injEq] at this
     rw [wr_here g2 r1,wr_here g1 q1,wr_here k2 t1,wr_here k1 s1,this]
  ·have hl2 : (lv == r.length) = false := by simpa using hl
   simp only [mget,hl2,Bool.false_eq_true,if_false] at h1 h2
   rw [wr_cons hl,wr_cons hl,wr_cons (by rw [(mset_ok h2 y).2.1]; exact hl),wr_cons (by rw [(mset_ok h1 x).2.1]; exact hl),ih h1 h2]
def dset (m : Mem) (lv a a' ver : Nat) (l : List Row) (c : Int) : Mem := wr (wr m lv a [.ptr lv a' [] 0,.int .i64 c]) lv a' [shC ver l]
section
variable {m : Mem} {lv a a' ver : Nat} {l : List Row} {c : Int} (hd : DA m lv a a' ver l c)
include hd
theorem dset_same : dset m lv a a' ver l c = m := by rw [dset,wr_same hd.d,wr_same hd.s]
theorem dset_mid (ver' : Nat) (l' : List Row) (c' : Int) : mget (wr m lv a [.ptr lv a' [] 0,.int .i64 c']) lv a' [] = some [shC ver l] := by
 rw [(mset_ok hd.d _).2.2.2 lv a' [] (.inr hd.ne.symm)]; exact hd.s
theorem dset_da (ver' : Nat) (l' : List Row) (c' : Int) : DA (dset m lv a a' ver' l' c') lv a a' ver' l' c' := by
 have h1 := mset_ok hd.d [.ptr lv a' [] 0,.int .i64 c']
 have h2 := mset_ok (dset_mid hd ver' l' c') [shC ver' l']
 exact ⟨by rw [dset,h2.2.2.2 lv a [] (.inr hd.ne)]; exact h1.2.2.1,h2.2.2.1,hd.ne⟩
theorem dset_len (ver' : Nat) (l' : List Row) (c' : Int) : (dset m lv a a' ver' l' c').length = m.length := by
 rw [dset,(mset_ok (dset_mid hd ver' l' c') _).2.1,(mset_ok hd.d _).2.1]
theorem dset_cons (own : Lvl) (ver' : Nat) (l' : List Row) (c' : Int) : dset (own :: m) lv a a' ver' l' c' = own :: dset m lv a a' ver' l' c' := by
 have h1 := hd.lv_lt
 have h2 : lv ≠ m.length := by omega
 rw [dset,wr_cons h2,wr_cons (by rw [(mset_ok hd.d _).2.1]; exact h2),dset]
theorem dset_dset (v1 v2 : Nat) (l1 l2 : List Row) (c1 c2 : Int) : dset (dset m lv a a' v1 l1 c1) lv a a' v2 l2 c2 = dset m lv a a' v2 l2 c2 := by
 have g1 := (mset_ok hd.d [.ptr lv a' [] 0,.int .i64 c1]).2.2.1
 have g2 := dset_mid hd v1 l1 c1
 have g3 := dset_mid hd v2 l2 c2
 simp only [dset]
 rw [wr_comm hd.ne g1 g2,wr_wr hd.d,wr_wr g3]
end
theorem putW_mem {x y : Row} {l : List Row} (h : y ∈ putW x l) : y = x ∨ y ∈ l := by
 induction l with
 | nil => simp [putW] at h; exact .inl h
 | cons z r ih =>
  simp only [putW] at h
  split at h
  ·rcases List.mem_cons.1 h with rfl | h
   ·exact .inr (by simp)
   ·rcases ih h with h | h
    ·exact .inl h
    ·exact .inr (by simp [h])
  ·split at h
   ·rcases List.mem_cons.1 h with rfl | h
    ·exact .inl rfl
    ·exact .inr (by simp [h])
   ·rcases List.mem_cons.1 h with rfl | h
    ·exact .inl rfl
    ·exact .inr h
def Ris : List Row → Prop
 | [] => True
 | x :: r => (∀ y ∈ r,x.n < y.n) ∧ Ris r
theorem ris_iff {l : List Row} : Rising l ↔ Ris l := by
 induction l with
 | nil => exact ⟨fun _ => trivial,fun _ i j _ hj => by simp at hj⟩
 | cons x r ih =>
  constructor
  ·intro h
   refine ⟨fun y hy => ?_,ih.1 fun i j hij hj => ?_⟩
   ·obtain ⟨t,ht,rfl⟩ := List.mem_iff_getElem.1 hy
    have := h 0 (t + 1) (by omega) (by simpa using ht)
    simpa using this
   ·have := h (i + 1) (j + 1) (by omega) (by simpa using hj)
    simpa using this
  ·rintro ⟨h1,h2⟩ i j hij hj
   cases j with
   | zero => omega
   | succ j =>
    cases i with
    | zero => simpa using h1 _ (List.getElem_mem (by simpa using hj))
    | succ i =>
     have := ih.2 h2 i j (by omega) (by simpa using hj)
     simpa using this
theorem ris_put {x : Row} {l : List Row} (h : Ris l) : Ris (putW x l) := by
 induction l with
 | nil => exact ⟨fun y hy => by simp at hy,trivial⟩
 | cons z r ih =>
  obtain ⟨h1,h2⟩ := h
  simp only [putW]
  split
  ·rename_i hz
   refine ⟨fun y hy => ?_,ih h2⟩
   rcases putW_mem hy with rfl | hy
   ·exact hz
   ·exact h1 y hy
  ·split
   ·rename_i hz
    exact ⟨fun y hy => by rw [← hz]; exact h1 y hy,h2⟩
   ·exact ⟨fun y hy => by
     rcases List.mem_cons.1 hy with rfl | hy
     ·omega
     ·have := h1 y hy; omega,h1,h2⟩
theorem getW_cons (z : Row) (r : List Row) (n : Int) : getW (z :: r) n = if z.n = n then some z else getW r n := by
 unfold getW
 rw [List.find?_cons]
 by_cases h : z.n = n
 ·simp [h]
 ·have : (z.n == n) = false := by simpa using h
  simp [h,this]
theorem getW_below {z : Row} {r : List Row} {n : Int} (h : ∀ y ∈ r,z.n < y.n) (hn : n ≤ z.n) : getW r n = none := by
 unfold getW
 rw [List.find?_eq_none]
 intro y hy
 have := h y hy
 simp; omega
theorem putW_len {x : Row} {l : List Row} (h : Ris l) : (putW x l).length = if (getW l x.n).isSome = true then l.length else l.length + 1 := by
 induction l with
 | nil => rfl
 | cons z r ih =>
  obtain ⟨h1,h2⟩ := h
  have ih := ih h2
  rw [getW_cons]
  simp only [putW]
  by_cases hz : z.n < x.n
  ·have e : ¬ z.n = x.n := by omega
   rw [if_pos hz,if_neg e,List.length_cons,ih]
   by_cases hq : (getW r x.n).isSome = true
   ·rw [if_pos hq,if_pos hq]; rfl
   ·rw [if_neg hq,if_neg hq]; rfl
  ·rw [if_neg hz]
   by_cases hz2 : z.n = x.n
   ·rw [if_pos hz2,if_pos hz2]; rfl
   ·rw [if_neg hz2,if_neg hz2,getW_below h1 (by omega)]; rfl
theorem dok_put {l : List Row} (hk : Dok l) {x : Row} (hx : okRow x) (hl : l.length < 512 ∨ (getW l x.n).isSome = true) : Dok (putW x l) := by
 refine ⟨?_,ris_iff.2 (ris_put (ris_iff.1 hk.ris)),fun y hy => ?_⟩
 ·have := putW_len (x := x) (ris_iff.1 hk.ris)
  have h2 := hk.len
  rw [this]
  split
  ·exact h2
  ·rcases hl with hl | hl
   ·omega
   ·contradiction
 ·rcases putW_mem hy with rfl | hy
  ·exact hx
  ·exact hk.all y hy
end Go.Proofs.Ytmffcpiffkclgaa.ZJM.DC
set_option linter.unusedSimpArgs false
set_option linter.unusedVariables false
set_option maxRecDepth 4000
namespace Go.Proofs.Ytmffcpiffkclgaa.ZJM.DC
open Go.Proofs.Ytmffcpiffkclgaa.ZJM Go.RowKit
theorem mset_mk {m : Mem} {lv s : Nat} {cs : List PV} (h : mget m lv s [] = some cs) (x : List PV) : mset m lv s [] x = some (wr m lv s x) := (mset_ok h x).1
section
variable {m : Mem} {lv a a' ver : Nat} {l : List Row} {c : Int} (hd : DA m lv a a' ver l c) (hk : Dok l)
include hd hk in
theorem app73 (i s k a1 l1 h1 : Int) (nl nb : Bool) (b0 b : List Int) (h0 : OkB b0) (hb : OkB b) (hn : nb = true → b = []) (hbl : b.length ≤ 64) (hl : (getW l (knum i s)).isSome = true) :
  ∃ ver',app E false (.fn 136 []) [.ptr lv a [] 0,ky i s,eny k a1 l1 h1 nl b0,Bl nb b] m = some (.tup [],emptyBag,dset m lv a a' ver' (putW ⟨knum i s,k,a1,l1,h1,nb,b⟩ l) (bump c (decide (b0 = b)))) := by
 have hlt := hd.lv_lt
 have hlv : lv ≠ m.length := by omega
 have hd1 := hd.d
 have h55 := app55 i s
 have h62' := app62 nb b hn (maxB64 hbl)
 have h111' := app111 nl nb b0 b h0 hb
 have hlen := hk.len
 have hl' : l.length < 512 ∨ l.length = 512 ∧ (getW l (knum i s)).isSome = true := by
  rcases Nat.lt_or_ge l.length 512 with q | q
  ·exact .inl q
  ·exact .inr ⟨by omega,hl⟩
 rw [app_fn E rfl h73 rfl]
 by_cases he : b0 = b
 ·subst he
  obtain ⟨ver',h⟩ := app61 ([(6,[.int .i64 k,.int .i64 a1,.int .i64 l1,.int .i64 h1,.lst none nl 1 (Bs b0)]),(5,[.int .i64 i,.int .i64 s])] :: m) lv a' ver l (knum i s) k a1 l1 h1 nb b0 (hd.cons _).s hl' hk.ris
  refine ⟨ver',?_⟩
  rw [wr_cons hlv] at h
  have hds : dset m lv a a' ver' (putW ⟨knum i s,k,a1,l1,h1,nb,b0⟩ l) c = wr m lv a' [shC ver' (putW ⟨knum i s,k,a1,l1,h1,nb,b0⟩ l)] := by rw [dset,wr_same hd.d]
  simp only [bump,decide_true,if_true]
  rw [hds]
  simp [c73,hlv,hd1,h55,h62',h111',h]
 ·have hm1 := mset_mk hd.d [.ptr lv a' [] 0,.int .i64 (IntKind.i64.wrap (c + 1))]
  have hd2 : DA (wr m lv a [.ptr lv a' [] 0,.int .i64 (IntKind.i64.wrap (c + 1))]) lv a a' ver l (IntKind.i64.wrap (c + 1)) := ⟨(mset_ok hd.d _).2.2.1,by rw [(mset_ok hd.d _).2.2.2 lv a' [] (.inr hd.ne.symm)]; exact hd.s,hd.ne⟩
  have hml := (mset_ok hd.d [.ptr lv a' [] 0,.int .i64 (IntKind.i64.wrap (c + 1))]).2.1
  have hlv2 : lv < m.length + 1 := by omega
  have hdd := hd2.d
  obtain ⟨ver',h⟩ := app61 ([(6,[.int .i64 k,.int .i64 a1,.int .i64 l1,.int .i64 h1,.lst none nl 1 (Bs b0)]),(5,[.int .i64 i,.int .i64 s])] :: wr m lv a [.ptr lv a' [] 0,.int .i64 (IntKind.i64.wrap (c + 1))]) lv a' ver l (knum i s) k a1 l1 h1 nb b (hd2.cons _).s hl' hk.ris
  refine ⟨ver',?_⟩
  rw [wr_cons (by rw [hml]; exact hlv)] at h
  simp only [bump,he,decide_false,Bool.false_eq_true,if_false,dset]
  generalize wr m lv a [.ptr lv a' [] 0,.int .i64 (IntKind.i64.wrap (c + 1))] = M1 at *
  simp [c73,hlv,hd1,hml,hdd,h55,h62',h111',h,he,hm1]
def Row.with (x : Row) (nl : Bool) (b : List Int) : Row := ⟨x.n,x.k,x.a,x.l,x.h,nl,b⟩
def holdW (l : List Row) (n : Int) (nl : Bool) (b : List Int) : List Row := match getW l n with
 | none => l
 | some x => putW (x.with nl b) l
def holdC (l : List Row) (c n : Int) (b : List Int) : Int := match getW l n with
 | none => c
 | some x => bump c (decide (x.b = b))
theorem getW_n {l : List Row} {n : Int} {x : Row} (h : getW l n = some x) : x.n = n := by
 have := List.find?_some h
 simpa using this
def putWC : Option Row → List Int → Int
 | none,_ => 7
 | some x,b => if x.a = 4 then 12 else if fitsA x.k x.a x.l x.h b = 0 then 0 else 14
def setWC : Option Row → Int → Int
 | none,_ => 7
 | some x,n => if x.a = 4 then 12 else (bytesA x.k x.a x.l x.h n).2.2
def setWB : Option Row → Int → List Int
 | none,_ => []
 | some x,n => kb (ksz x.k).toNat n
theorem bytesA_ok {k a l h n : Int} (hm : mayA k a l h = true) (hz : (bytesA k a l h n).2.2 = 0) : bytesA k a l h n = (false,kb (ksz k).toNat n,0) ∧ 0 < ksz k ∧ l ≤ n ∧ n ≤ h := by
 unfold bytesA at hz ⊢
 by_cases h1 : 0 < ksz k
 ·rw [if_pos ⟨hm,h1⟩] at hz ⊢
  by_cases h2 : n < l ∨ h < n
  ·rw [if_pos h2] at hz; simp at hz
  ·rw [if_neg h2]; exact ⟨rfl,h1,by omega,by omega⟩
 ·rw [if_neg (fun hh => h1 hh.2)] at hz; simp at hz
include hd hk in
theorem app48 (i s n : Int) :
  ∃ ver',app E false (.fn 69 []) [.ptr lv a [] 0,ky i s,.int .i64 n] m = some (.int .i64 (setWC (getW l (knum i s)) n),emptyBag,if setWC (getW l (knum i s)) n = 0 then dset m lv a a' ver' (holdW l (knum i s) false (setWB (getW l (knum i s)) n)) (holdC l c (knum i s) (setWB (getW l (knum i s)) n)) else m) := by
 have h91' : ∀ own : Lvl,app E false (.fn 134 []) [.ptr lv a [] 0,ky i s] (own :: m) = _ := fun own => app91 (finds (hd.cons own) hk i s) rfl
 rw [app_fn E rfl h48 rfl]
 cases hg : getW l (knum i s) with
 | none =>
  refine ⟨0,?_⟩
  rw [hg] at h91'
  simp only [optE,ownO,ownE] at h91'
  simp [c48,h91',setWC]
 | some x =>
  rw [hg] at h91'
  have hx := okO_get hk _ _ hg
  by_cases h4 : x.a = 4
  ·refine ⟨0,?_⟩
   simp only [optE,ownO,ownE,h4,if_true] at h91'
   simp [c48,h91',setWC,h4]
  ·simp only [optE,ownO,ownE,h4,if_false] at h91'
   have h92' := app92 x.k x.a x.l x.h n
   by_cases hf : (bytesA x.k x.a x.l x.h n).2.2 = 0
   ·obtain ⟨e1,e2,e3,e4⟩ := bytesA_ok hx.2.2.1 hf
    have hkl : (kb (ksz x.k).toNat n).length ≤ 64 := by rw [kb_len]; have := ksz_le x.k; omega
    obtain ⟨ver',h73⟩ := app73 (hd.cons [(7,[.int .i64 x.k,.int .i64 x.a,.int .i64 x.l,.int .i64 x.h,.lst none x.nl 1 (Bs x.b)]),(4,[.int .i64 i,.int .i64 s])]) hk i s x.k x.a x.l x.h x.nl false x.b (kb (ksz x.k).toNat n) hx.1 (kb_ok _ _) (by simp) hkl (by rw [hg]; rfl)
    rw [dset_cons hd] at h73
    refine ⟨ver',?_⟩
    have hxn := getW_n hg
    rw [e1] at h92'
    simp only at h92'
    simp [c48,h91',setWC,setWB,h4,h92',e1,h73,holdW,holdC,hg,Row.with,hxn]
    congr
   ·refine ⟨0,?_⟩
    have hf' : ((bytesA x.k x.a x.l x.h n).2.2 != 0) = true := by simpa using hf
    simp [c48,h91',setWC,h4,h92',hf,hf']
def addWC (l : List Row) (i s k a1 l1 h1 : Int) (b : List Int) : Int := addC (okK i s) k a1 l1 h1 b (getW l (knum i s)).isSome l.length
theorem knum_neg (i s : Int) : decide (knum i s < 0) = !okK i s := by
 unfold knum
 by_cases h : okK i s = true
 ·have h' := h
  simp only [okK,Bool.and_eq_true,decide_eq_true_eq] at h
  simp [h']
  omega
 ·simp [h]
def addWR (l : List Row) (i s k a1 l1 h1 : Int) (nb : Bool) (b : List Int) : List Row := putW ⟨knum i s,k,a1,l1,h1,(if b = [] ∧ fitsA k a1 l1 h1 b ≠ 0 then false else nb),firstB k a1 l1 h1 b⟩ l
include hd hk in
theorem app13 (i s k a1 l1 h1 : Int) (nb : Bool) (b : List Int) (hb : OkB b) (hn : nb = true → b = []) :
  ∃ ver',app E false (.fn 46 []) [.ptr lv a [] 0,ky i s,sp k a1 l1 h1,Bl nb b] m = some (.int .i64 (addWC l i s k a1 l1 h1 b),emptyBag,if addWC l i s k a1 l1 h1 b = 0 then dset m lv a a' ver' (addWR l i s k a1 l1 h1 nb b) c else m) := by
 have hlt := hd.lv_lt
 have hlv : lv ≠ m.length := by omega
 have hlv1 : lv ≠ m.length + 1 := by omega
 have hd1 := hd.d
 have h55 := app55 i s
 have h56 := app56 k a1 l1 h1
 have hlen := hk.len
 have hkn := knum_neg i s
 have h59 : ∀ own : Lvl,app E false (.fn 111 []) [.ptr lv a [] 0,ky i s] (own :: m) = _ := fun own => app59 (hd.cons own) hk i s
 have h60 : ∀ own : Lvl,app E false (.fn 112 []) [.ptr lv a' [] 0] (own :: m) = _ := fun own => app60 (own :: m) lv a' ver l (hd.cons own).s
 rw [app_fn E rfl h13 rfl]
 simp only [addWC,addC]
 by_cases d1 : okK i s = true
 case neg =>
  refine ⟨0,?_⟩
  have hkn' : knum i s < 0 := by simpa [d1] using hkn
  simp [c13,h55,hkn',d1]
 have hkn' : ¬ knum i s < 0 := by simpa [d1] using hkn
 by_cases d2 : mayA k a1 l1 h1 = true
 case neg =>
  refine ⟨0,?_⟩
  simp [c13,h55,hkn',d1,h56,d2]
 have h54 := app58 k a1 l1 h1 d2
 obtain ⟨nb',b',hnb,hbb⟩ : ∃ nb' b',(if b = [] ∧ fitsA k a1 l1 h1 b ≠ 0 then false else nb) = nb' ∧ firstB k a1 l1 h1 b = b' := ⟨_,_,rfl,rfl⟩
 have hb' : OkB b' := by rw [← hbb]; exact firstB_ok hb
 have hn' : nb' = true → b' = [] := by
  intro hh
  by_cases q : b = [] ∧ fitsA k a1 l1 h1 b ≠ 0
  ·rw [if_pos q] at hnb; rw [hh] at hnb; cases hnb
  ·rw [if_neg q] at hnb; rw [← hbb,firstB,if_neg q]; exact hn (by rw [hnb]; exact hh)
 have k1 := app57 k a1 l1 h1 nb' b' hb'
 simp only [d1,d2,and_self,if_true,addWR,hnb,hbb]
 have tail : ∀ (f : List (Nat × PV)),True := fun _ => trivial
 have choice : (((b.length : Int) == 0) = false ∧ nb' = nb ∧ b' = b) ∨ (((b.length : Int) == 0) = true ∧ (fitsA k a1 l1 h1 b != 0) = false ∧ nb' = nb ∧ b' = b) ∨ (((b.length : Int) == 0) = true ∧ (fitsA k a1 l1 h1 b != 0) = true ∧ nb' = false ∧ b' = firstA k l1 h1) := by
  by_cases q : b = []
  ·by_cases q2 : fitsA k a1 l1 h1 b = 0
   ·have q3 : ¬ (b = [] ∧ fitsA k a1 l1 h1 b ≠ 0) := fun hh => hh.2 q2
    rw [if_neg q3] at hnb; rw [firstB,if_neg q3] at hbb
    exact .inr (.inl ⟨bl_nil q,by simpa using q2,hnb.symm,hbb.symm⟩)
   ·have q3 : (b = [] ∧ fitsA k a1 l1 h1 b ≠ 0) := ⟨q,q2⟩
    rw [if_pos q3] at hnb; rw [firstB,if_pos q3] at hbb
    exact .inr (.inr ⟨bl_nil q,by simpa using q2,hnb.symm,hbb.symm⟩)
  ·have q3 : ¬ (b = [] ∧ fitsA k a1 l1 h1 b ≠ 0) := fun hh => q hh.1
   rw [if_neg q3] at hnb; rw [firstB,if_neg q3] at hbb
   exact .inl ⟨bl_cons q,hnb.symm,hbb.symm⟩
 have k0 := app57 k a1 l1 h1 nb b hb
 by_cases d5 : fitsA k a1 l1 h1 b' = 0
 ·have d5' : (fitsA k a1 l1 h1 b' != 0) = false := by simpa using d5
  cases d6 : getW l (knum i s) with
  | some x =>
   refine ⟨0,?_⟩
   rw [d6] at h59
   simp only [optE] at h59
   rcases choice with ⟨f1,rfl,rfl⟩ | ⟨f1,f2,rfl,rfl⟩ | ⟨f1,f2,rfl,rfl⟩ <;> simp [c13,h55,hkn',h56,d2,h54,k0,k1,f1,d5,d5',h59, *]
  | none =>
   rw [d6] at h59
   simp only [optE] at h59
   by_cases d7 : l.length = 512
   ·refine ⟨0,?_⟩
    have d7' : (512 : Int) ≤ l.length := by omega
    rcases choice with ⟨f1,rfl,rfl⟩ | ⟨f1,f2,rfl,rfl⟩ | ⟨f1,f2,rfl,rfl⟩ <;> simp [c13,h55,hkn',h56,d2,h54,k0,k1,f1,d5,d5',h59,h60,hd1,hlv,d7,d7', *]
   ·have d7' : ¬ (512 : Int) ≤ l.length := by omega
    have h62' := app62 nb' b' hn' (maxB64 (fits_len d5))
    obtain ⟨ver',h61⟩ := app61 ([(9,[.int .i64 0,.int .i64 0,.int .i64 0,.int .i64 0,.lst none true 1 []]),(6,[.int .i64 k,.int .i64 a1,.int .i64 l1,.int .i64 h1]),(5,[.int .i64 i,.int .i64 s])] :: m) lv a' ver l (knum i s) k a1 l1 h1 nb' b' (hd.cons _).s (.inl (by omega)) hk.ris
    rw [wr_cons hlv] at h61
    refine ⟨ver',?_⟩
    have hds : dset m lv a a' ver' (putW ⟨knum i s,k,a1,l1,h1,nb',b'⟩ l) c = wr m lv a' [shC ver' (putW ⟨knum i s,k,a1,l1,h1,nb',b'⟩ l)] := by rw [dset,wr_same hd.d]
    rw [hds]
    rcases choice with ⟨f1,rfl,rfl⟩ | ⟨f1,f2,rfl,rfl⟩ | ⟨f1,f2,rfl,rfl⟩ <;> simp [c13,h55,hkn',h56,d2,h54,k0,k1,f1,d5,d5',h59,h60,hd1,hlv,d7,d7',h61,h62', *]
 ·have d5' : (fitsA k a1 l1 h1 b' != 0) = true := by simpa using d5
  refine ⟨0,?_⟩
  rcases choice with ⟨f1,rfl,rfl⟩ | ⟨f1,f2,rfl,rfl⟩ | ⟨f1,f2,rfl,rfl⟩
  ·simp [c13,h55,hkn',h56,d2,h54,k0,k1,f1,d5,d5']
  ·rw [d5'] at f2; cases f2
  ·simp [c13,h55,hkn',h56,d2,h54,k0,k1,f1,f2,d5,d5']
end
end Go.Proofs.Ytmffcpiffkclgaa.ZJM.DC
