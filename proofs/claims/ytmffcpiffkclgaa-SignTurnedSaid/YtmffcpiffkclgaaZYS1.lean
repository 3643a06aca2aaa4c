/- The program's rows and the document's entries: which belong together. -/
import Derived.Test.YtmffcpiffkclgaaZYD8
set_option linter.unusedSimpArgs false
set_option linter.unusedVariables false
set_option maxRecDepth 4000
namespace Go.Proofs.Ytmffcpiffkclgaa.ZJM.DC
open Go.Proofs.Ytmffcpiffkclgaa.ZJM Go.RowKit
def RE (x : Row) (y : Ent) : Prop := x.n = y.i * 256 + y.s ∧ x.k = y.k ∧ x.a = y.a ∧ x.l = y.l ∧ x.h = y.h ∧ x.b = y.b
def F2 : List Row → List Ent → Prop
 | [],[] => True
 | x :: l,y :: r => RE x y ∧ F2 l r
 | _,_ => False
theorem f2_len : ∀ {l : List Row} {S : List Ent},F2 l S → l.length = S.length
 | [],[],_ => rfl
 | x :: l,y :: r,h => by simp [f2_len h.2]
 | [],_ :: _,h => h.elim
 | _ :: _,[],h => h.elim
def okKe (y : Ent) : Prop := okK y.i y.s = true
theorem key_iff {i s j t : Int} (h1 : okK i s = true) (h2 : okK j t = true) : i * 256 + s = j * 256 + t ↔ i = j ∧ s = t := by
 simp only [okK,Bool.and_eq_true,decide_eq_true_eq] at h1 h2
 omega
theorem key_lt {i s j t : Int} (h1 : okK i s = true) (h2 : okK j t = true) : i * 256 + s < j * 256 + t ↔ (i < j ∨ i = j ∧ s < t) := by
 simp only [okK,Bool.and_eq_true,decide_eq_true_eq] at h1 h2
 omega
theorem lessE_iff {x y : Ent} (h1 : okKe x) (h2 : okKe y) : lessE x y = true ↔ x.i * 256 + x.s < y.i * 256 + y.s := by
 rw [key_lt h1 h2]; simp [lessE]
theorem f2_ins {l : List Row} {S : List Ent} (h : F2 l S) {x : Row} {y : Ent} (hxy : RE x y) (hy : okKe y) (hS : ∀ z ∈ S,okKe z) (hn : ∀ z ∈ S,¬ (z.i = y.i ∧ z.s = y.s)) : F2 (putW x l) (insE y S) := by
 induction l generalizing S with
 | nil =>
  cases S with
  | nil => exact ⟨hxy,trivial⟩
  | cons => exact h.elim
 | cons a l ih =>
  cases S with
  | nil => exact h.elim
  | cons b r =>
   obtain ⟨hab,h2⟩ := h
   have hb := hS b (by simp)
   have hl := lessE_iff hb hy
   have hne : ¬ a.n = x.n := by
    rw [hab.1,hxy.1,key_iff hb hy]; exact hn b (by simp)
   rw [← hab.1,← hxy.1] at hl
   simp only [putW,insE]
   by_cases hlt : a.n < x.n
   ·rw [if_pos hlt,if_pos (hl.2 hlt)]
    exact ⟨hab,ih h2 (fun z hz => hS z (by simp [hz])) (fun z hz => hn z (by simp [hz]))⟩
   ·rw [if_neg hlt,if_neg (fun hh => hlt (hl.1 hh)),if_neg hne]
    exact ⟨hxy,hab,h2⟩
theorem insE_mem {x y : Ent} {l : List Ent} : y ∈ insE x l ↔ y = x ∨ y ∈ l := by
 induction l with
 | nil => simp [insE]
 | cons z r ih =>
  simp only [insE]
  split
  ·simp only [List.mem_cons,ih]
   constructor
   ·rintro (h | h | h)
    ·exact .inr (.inl h)
    ·exact .inl h
    ·exact .inr (.inr h)
   ·rintro (h | h | h)
    ·exact .inr (.inl h)
    ·exact .inl h
    ·exact .inr (.inr h)
  ·simp
theorem foldl_mem {l acc : List Ent} {y : Ent} : y ∈ l.foldl (fun acc x => insE x acc) acc ↔ y ∈ acc ∨ y ∈ l := by
 induction l generalizing acc with
 | nil => simp
 | cons x r ih =>
  simp only [List.foldl_cons,ih,insE_mem,List.mem_cons]
  constructor
  ·rintro ((h | h) | h)
   ·exact .inr (.inl h)
   ·exact .inl h
   ·exact .inr (.inr h)
  ·rintro (h | h | h)
   ·exact .inl (.inr h)
   ·exact .inl (.inl h)
   ·exact .inr h
theorem sortE_mem {l : List Ent} {y : Ent} : y ∈ sortE l ↔ y ∈ l := by simp [sortE,foldl_mem]
theorem sortE_snoc (l : List Ent) (x : Ent) : sortE (l ++ [x]) = insE x (sortE l) := by simp [sortE,List.foldl_append]
theorem insE_map {g : Ent → Ent} (hg : ∀ y,(g y).i = y.i ∧ (g y).s = y.s) (x : Ent) (l : List Ent) : insE (g x) (l.map g) = (insE x l).map g := by
 induction l with
 | nil => rfl
 | cons z r ih =>
  have e : lessE (g z) (g x) = lessE z x := by simp [lessE,hg]
  simp only [List.map_cons,insE,e]
  split <;> simp [ih]
theorem sortE_map {g : Ent → Ent} (hg : ∀ y,(g y).i = y.i ∧ (g y).s = y.s) (l : List Ent) : sortE (l.map g) = (sortE l).map g := by
 suffices h : ∀ (l acc : List Ent),(l.map g).foldl (fun acc x => insE x acc) (acc.map g) = (l.foldl (fun acc x => insE x acc) acc).map g from h l []
 intro l
 induction l with
 | nil => intro acc; rfl
 | cons x r ih => intro acc; simp only [List.map_cons,List.foldl_cons,insE_map hg,ih]
theorem f2_map {l : List Row} {S : List Ent} (h : F2 l S) {f : Row → Row} {g : Ent → Ent} (hfg : ∀ x y,x ∈ l → y ∈ S → RE x y → RE (f x) (g y)) : F2 (l.map f) (S.map g) := by
 induction l generalizing S with
 | nil =>
  cases S with
  | nil => trivial
  | cons => exact h.elim
 | cons a l ih =>
  cases S with
  | nil => exact h.elim
  | cons b r => exact ⟨hfg a b (by simp) (by simp) h.1,ih h.2 fun x y hx hy => hfg x y (by simp [hx]) (by simp [hy])⟩
theorem f2_filter {l : List Row} {S : List Ent} (h : F2 l S) {p : Row → Bool} {q : Ent → Bool} (hpq : ∀ x y,x ∈ l → y ∈ S → RE x y → p x = q y) : F2 (l.filter p) (S.filter q) := by
 induction l generalizing S with
 | nil =>
  cases S with
  | nil => trivial
  | cons => exact h.elim
 | cons a l ih =>
  cases S with
  | nil => exact h.elim
  | cons b r =>
   have e := hpq a b (by simp) (by simp) h.1
   have hr := ih h.2 fun x y hx hy => hpq x y (by simp [hx]) (by simp [hy])
   simp only [List.filter_cons,e]
   split
   ·exact ⟨h.1,hr⟩
   ·exact hr
def OR : Option Row → Option Ent → Prop
 | none,none => True
 | some x,some y => RE x y
 | _,_ => False
theorem f2_find {l : List Row} {S : List Ent} (h : F2 l S) {p : Row → Bool} {q : Ent → Bool} (hpq : ∀ x y,x ∈ l → y ∈ S → RE x y → p x = q y) : OR (l.find? p) (S.find? q) := by
 induction l generalizing S with
 | nil =>
  cases S with
  | nil => trivial
  | cons => exact h.elim
 | cons a l ih =>
  cases S with
  | nil => exact h.elim
  | cons b r =>
   have e := hpq a b (by simp) (by simp) h.1
   have hr := ih h.2 fun x y hx hy => hpq x y (by simp [hx]) (by simp [hy])
   rw [List.find?_cons,List.find?_cons,e]
   cases q b with
   | true => exact h.1
   | false => exact hr
def entR (l : List Ent) (i s : Int) : Option Ent := l.find? (Ent.is i s)
def Nd (L : List Ent) : Prop := ∀ a b (ha : a < L.length) (hb : b < L.length),L[a].i = L[b].i → L[a].s = L[b].s → a = b
theorem is_iff {i s : Int} {y : Ent} : y.is i s = true ↔ y.i = i ∧ y.s = s := by simp [Ent.is]
theorem entR_sort {L : List Ent} (hn : Nd L) (i s : Int) : entR (sortE L) i s = entR L i s := by
 cases h : entR L i s with
 | none =>
  unfold entR at h ⊢
  rw [List.find?_eq_none] at h ⊢
  intro y hy
  exact h y (sortE_mem.1 hy)
 | some y =>
  have hm : y ∈ L := List.mem_of_find?_eq_some h
  have hi : y.is i s = true := List.find?_some h
  cases h2 : entR (sortE L) i s with
  | none =>
   exfalso
   unfold entR at h2
   rw [List.find?_eq_none] at h2
   exact h2 y (sortE_mem.2 hm) hi
  | some z =>
   have hm2 : z ∈ L := sortE_mem.1 (List.mem_of_find?_eq_some h2)
   have hi2 : z.is i s = true := List.find?_some h2
   obtain ⟨a,ha,rfl⟩ := List.mem_iff_getElem.1 hm
   obtain ⟨b,hb,rfl⟩ := List.mem_iff_getElem.1 hm2
   have e1 := is_iff.1 hi
   have e2 := is_iff.1 hi2
   have := hn a b ha hb (by rw [e1.1,e2.1]) (by rw [e1.2,e2.2])
   subst this
   rfl
theorem findIx_ent {L : List Ent} {i s : Int} : (findIx L i s = none → entR L i s = none) ∧ (∀ j,findIx L i s = some j → ∃ h : j < L.length,entR L i s = some L[j] ∧ L[j].i = i ∧ L[j].s = s) := by
 constructor
 ·intro h
  unfold entR
  rw [List.find?_eq_none]
  intro x hx hh
  exact findIx_none h x hx (is_iff.1 hh)
 ·intro j h
  obtain ⟨hj,e1,e2⟩ := findIx_some h
  refine ⟨hj,?_,e1,e2⟩
  unfold entR
  rw [List.find?_eq_some_iff_getElem]
  refine ⟨is_iff.2 ⟨e1,e2⟩,j,hj,rfl,fun t ht => ?_⟩
  unfold findIx at h
  rw [List.findIdx?_eq_some_iff_getElem] at h
  have := h.2.2 t ht
  simpa using this
structure Sim (l : List Row) (c : Int) (r : RD) : Prop where
 dok : Dok l
 rok : r.ok
 ch : c = r.c
 nd : Nd r.l
 f2 : F2 l (sortE r.l)
theorem Sim.len {l : List Row} {c : Int} {r : RD} (h : Sim l c r) : l.length = r.l.length := by rw [f2_len h.f2,sortE_len]
theorem Sim.find {l : List Row} {c : Int} {r : RD} (h : Sim l c r) (i s : Int) : OR (getW l (knum i s)) (entR r.l i s) := by
 rw [← entR_sort h.nd]
 refine f2_find h.f2 fun x y hx hy hxy => ?_
 have hyk := (h.rok.2 y (sortE_mem.1 hy)).2.1
 rw [hxy.1]
 by_cases ho : okK i s = true
 ·rw [knum,if_pos ho]
  have := key_iff hyk ho
  by_cases e : y.i = i ∧ y.s = s
  ·rw [this.2 e]; simp [Ent.is,e]
  ·have e2 : ¬ (y.i * 256 + y.s = i * 256 + s) := fun hh => e (this.1 hh)
   have e3 : y.is i s = false := by
    cases hq : y.is i s with
    | false => rfl
    | true => exact absurd (is_iff.1 hq) e
   rw [e3]; simpa using e2
 ·rw [knum,if_neg ho]
  have e3 : y.is i s = false := by
   cases hq : y.is i s with
   | false => rfl
   | true => obtain ⟨e1,e2⟩ := is_iff.1 hq; rw [e1,e2] at hyk; exact absurd hyk ho
  rw [e3]
  simp only [okK,Bool.and_eq_true,decide_eq_true_eq] at hyk
  simp; omega
end Go.Proofs.Ytmffcpiffkclgaa.ZJM.DC
set_option linter.unusedSimpArgs false
set_option linter.unusedVariables false
set_option maxRecDepth 4000
namespace Go.Proofs.Ytmffcpiffkclgaa.ZJM.DC
open Go.Proofs.Ytmffcpiffkclgaa.ZJM Go.RowKit
section
variable {l : List Row} {c : Int} {r : RD} (h : Sim l c r)
include h
theorem Sim.at (i s : Int) : (getW l (knum i s) = none ∧ findIx r.l i s = none) ∨ (∃ x j,∃ hj : j < r.l.length,getW l (knum i s) = some x ∧ findIx r.l i s = some j ∧ RE x r.l[j] ∧ r.l[j].i = i ∧ r.l[j].s = s ∧ okRow x) := by
 have hf := h.find i s
 have hx := findIx_ent (L := r.l) (i := i) (s := s)
 cases hi : findIx r.l i s with
 | none =>
  rw [hx.1 hi] at hf
  cases hg : getW l (knum i s) with
  | none => exact .inl ⟨rfl,rfl⟩
  | some x => rw [hg] at hf; exact hf.elim
 | some j =>
  obtain ⟨hj,e1,e2,e3⟩ := hx.2 j hi
  rw [e1] at hf
  cases hg : getW l (knum i s) with
  | none => rw [hg] at hf; exact hf.elim
  | some x =>
   rw [hg] at hf
   exact .inr ⟨x,j,hj,rfl,rfl,hf,e2,e3,okO_get h.dok _ _ hg⟩
theorem Sim.has (i s : Int) : (getW l (knum i s)).isSome = hasA r.l i s := by
 rcases h.at i s with ⟨h1,h2⟩ | ⟨x,j,hj,h1,h2,_⟩
 ·rw [h1]; simp [hasA,atA_none h2]
 ·rw [h1]; simp [hasA,atA_some h2]
theorem Sim.addC (i s k a1 l1 h1 : Int) (b : List Int) : addWC l i s k a1 l1 h1 b = addRC r i s k a1 l1 h1 b := by
 rw [addWC,addRC,h.has i s,h.len]
theorem Sim.add (i s k a1 l1 h1 : Int) (nb : Bool) (b : List Int) (hb : OkB b) (hn : nb = true → b = []) (hz : addWC l i s k a1 l1 h1 b = 0) : Sim (addWR l i s k a1 l1 h1 nb b) c (addR r i s k a1 l1 h1 b) := by
 have hz2 := hz
 rw [h.addC] at hz2
 have hz3 := hz
 rw [addWC,DC.addC] at hz3
 have d : okK i s = true ∧ mayA k a1 l1 h1 = true := by
  by_cases d : okK i s = true ∧ mayA k a1 l1 h1 = true
  ·exact d
  ·rw [if_neg d] at hz3; cases hz3
 rw [if_pos d] at hz3
 have d2 : fitsA k a1 l1 h1 (firstB k a1 l1 h1 b) = 0 := by
  by_cases d2 : fitsA k a1 l1 h1 (firstB k a1 l1 h1 b) = 0
  ·exact d2
  ·rw [if_neg d2] at hz3; cases hz3
 rw [if_pos d2] at hz3
 have d3 : ¬ (getW l (knum i s)).isSome = true := by
  intro d3; rw [if_pos d3] at hz3; cases hz3
 rw [if_neg d3] at hz3
 have d4 : l.length ≠ 512 := by
  intro d4; rw [if_pos d4] at hz3; cases hz3
 have hlen := h.dok.len
 obtain ⟨nb',hnb⟩ : ∃ nb',nb' = (if b = [] ∧ fitsA k a1 l1 h1 b ≠ 0 then false else nb) := ⟨_,rfl⟩
 have hn' : nb' = true → firstB k a1 l1 h1 b = [] := by
  intro hh
  by_cases q : b = [] ∧ fitsA k a1 l1 h1 b ≠ 0
  ·rw [if_pos q] at hnb; rw [hh] at hnb; cases hnb
  ·rw [if_neg q] at hnb; rw [firstB,if_neg q]; exact hn (by rw [← hnb]; exact hh)
 have hre : RE ⟨knum i s,k,a1,l1,h1,nb',firstB k a1 l1 h1 b⟩ ⟨i,s,k,a1,l1,h1,firstB k a1 l1 h1 b⟩ := ⟨by rw [knum,if_pos d.1],rfl,rfl,rfl,rfl,rfl⟩
 have hni : ∀ z ∈ r.l,¬ (z.i = i ∧ z.s = s) := by
  rcases h.at i s with ⟨h1,h2⟩ | ⟨x,j,hj,h1,h2,_⟩
  ·exact findIx_none h2
  ·rw [h1] at d3; exact absurd rfl d3
 rw [addR,if_pos hz2,addWR,← hnb]
 refine ⟨dok_put h.dok ⟨firstB_ok hb,hn',d.2,d2,i,s,d.1,by simp [knum,d.1]⟩ (.inl (by omega)),⟨?_,?_⟩,h.ch,?_,?_⟩
 ·have := h.len; simp; omega
 ·intro x hx
  rcases List.mem_append.1 hx with hx | hx
  ·exact h.rok.2 x hx
  ·simp only [List.mem_singleton] at hx
   subst hx
   exact ⟨firstB_ok hb,d.1,d.2,d2⟩
 ·intro a b' ha hb' e1 e2
  simp only [List.length_append,List.length_singleton] at ha hb'
  by_cases ha2 : a < r.l.length
  ·by_cases hb2 : b' < r.l.length
   ·simp only [List.getElem_append_left ha2,List.getElem_append_left hb2] at e1 e2
    exact h.nd a b' ha2 hb2 e1 e2
   ·have hbe : b' = r.l.length := by omega
    subst hbe
    simp only [List.getElem_append_left ha2] at e1 e2
    simp at e1 e2
    exact absurd ⟨e1,e2⟩ (hni _ (List.getElem_mem ha2))
  ·have hae : a = r.l.length := by omega
   subst hae
   by_cases hb2 : b' < r.l.length
   ·simp only [List.getElem_append_left hb2] at e1 e2
    simp at e1 e2
    exact absurd ⟨e1.symm,e2.symm⟩ (hni _ (List.getElem_mem hb2))
   ·omega
 ·rw [sortE_snoc]
  exact f2_ins h.f2 hre d.1 (fun z hz => (h.rok.2 z (sortE_mem.1 hz)).2.1) (fun z hz => hni z (sortE_mem.1 hz))
end
theorem putW_map {l : List Row} (hl : Ris l) {x x' : Row} (hx : x ∈ l) (hn : x'.n = x.n) : putW x' l = l.map fun z => if z.n = x.n then x' else z := by
 induction l with
 | nil => simp at hx
 | cons z q ih =>
  obtain ⟨h1,h2⟩ := hl
  simp only [putW,List.map_cons]
  rcases List.mem_cons.1 hx with rfl | hx
  ·have e1 : ¬ x.n < x'.n := by omega
   rw [if_neg e1,if_pos hn.symm,if_pos rfl]
   have : q.map (fun z => if z.n = x.n then x' else z) = q := by
    have := List.map_congr_left (f := fun z => if z.n = x.n then x' else z) (g := id) (l := q) fun z hz => by
     have := h1 z hz
     have e : ¬ z.n = x.n := by omega
     simp [e]
    rw [this]; simp
   rw [this]
  ·have := h1 x hx
   have e1 : z.n < x'.n := by omega
   have e2 : ¬ z.n = x.n := by omega
   rw [if_pos e1,if_neg e2,ih h2 hx]
def gE (i s : Int) (b : List Int) (y : Ent) : Ent := if y.i = i ∧ y.s = s then { y with b := b } else y
theorem gE_key (i s : Int) (b : List Int) (y : Ent) : (gE i s b y).i = y.i ∧ (gE i s b y).s = y.s := by unfold gE; split <;> exact ⟨rfl,rfl⟩
theorem upE_map {L : List Ent} (hn : Nd L) {j : Nat} (hj : j < L.length) (b : List Int) : upE L j b = L.map (gE L[j].i L[j].s b) := by
 apply List.ext_getElem
 ·simp [upE]
 ·intro t h1 h2
  simp only [upE,List.length_modify] at h1
  simp only [upE,List.getElem_modify,List.getElem_map]
  by_cases e : j = t
  ·subst e; simp [gE]
  ·rw [if_neg e]
   have : ¬ (L[t].i = L[j].i ∧ L[t].s = L[j].s) := fun hh => e (hn t j h1 hj hh.1 hh.2).symm
   simp [gE,this]
section
variable {l : List Row} {c : Int} {r : RD} (h : Sim l c r)
include h
theorem Sim.hold {i s : Int} {x : Row} (hg : getW l (knum i s) = some x) (nb : Bool) (b : List Int) (hb : OkB b) (hn : nb = true → b = []) (hf : fitsA x.k x.a x.l x.h b = 0) : Sim (holdW l (knum i s) nb b) (holdC l c (knum i s) b) (holdAt r i s b) := by
 rcases h.at i s with ⟨h1,h2⟩ | ⟨x',j,hj,h1,h2,hre,e1,e2,hok⟩
 ·rw [h1] at hg; cases hg
 ·rw [h1] at hg
  cases hg
  have hxm : x ∈ l := List.mem_of_find?_eq_some h1
  have hw : holdW l (knum i s) nb b = l.map fun z => if z.n = x.n then x.with nb b else z := by
   rw [holdW,h1]; exact putW_map (ris_iff.1 h.dok.ris) hxm rfl
  have hw2 : holdW l (knum i s) nb b = putW (x.with nb b) l := by rw [holdW,h1]
  have hc : holdC l c (knum i s) b = bump c (decide (x.b = b)) := by rw [holdC,h1]
  have hr : holdAt r i s b = ⟨false,r.l.map (gE i s b),bump r.c (decide (r.l[j].b = b))⟩ := by
   have hba : bAt r.l j = r.l[j].b := by simp [bAt,hj]
   rw [holdAt,h2]
   simp only [holdR]
   rw [upE_map h.nd hj,hba,e1,e2]
  have hxn := getW_n h1
  have hok' : okRow (x.with nb b) := ⟨hb,hn,hok.2.2.1,hf,hok.2.2.2.2⟩
  refine ⟨?_,?_,?_,?_,?_⟩
  ·rw [hw2]
   refine dok_put h.dok hok' (.inr ?_)
   show (getW l x.n).isSome = true
   rw [hxn,h1]; rfl
  ·rw [hr]
   refine ⟨by simpa using h.rok.1,fun y hy => ?_⟩
   simp only [List.mem_map] at hy
   obtain ⟨z,hz,rfl⟩ := hy
   have hzo := h.rok.2 z hz
   by_cases e : z.i = i ∧ z.s = s
   ·have hzj : z = r.l[j] := by
     obtain ⟨t,ht,rfl⟩ := List.mem_iff_getElem.1 hz
     have := h.nd t j ht hj (by rw [e.1,e1]) (by rw [e.2,e2])
     subst this; rfl
    subst hzj
    rw [gE,if_pos e]
    obtain ⟨_,r1,r2,r3,r4,_⟩ := hre
    exact ⟨hb,hzo.2.1,hzo.2.2.1,by rw [r1,r2,r3,r4] at hf; exact hf⟩
   ·rw [gE,if_neg e]; exact hzo
  ·rw [hc,hr,h.ch,hre.2.2.2.2.2]
  ·rw [hr]
   intro a b' ha hb' q1 q2
   simp only [List.length_map] at ha hb'
   simp only [List.getElem_map,(gE_key i s b _).1,(gE_key i s b _).2] at q1 q2
   exact h.nd a b' ha hb' q1 q2
  ·rw [hw,hr]
   simp only
   rw [sortE_map (gE_key i s b)]
   refine f2_map h.f2 fun z y hz hy hzy => ?_
   have hyk := (h.rok.2 y (sortE_mem.1 hy)).2.1
   have hkj : okK i s = true := by have := (h.rok.2 r.l[j] (List.getElem_mem hj)).2.1; rw [e1,e2] at this; exact this
   have hxk : x.n = i * 256 + s := by rw [hre.1,e1,e2]
   have hiff : z.n = x.n ↔ (y.i = i ∧ y.s = s) := by rw [hzy.1,hxk]; exact key_iff hyk hkj
   by_cases e : y.i = i ∧ y.s = s
   ·rw [if_pos (hiff.2 e),gE,if_pos e]
    have hym := sortE_mem.1 hy
    have hzj : y = r.l[j] := by
     obtain ⟨t,ht,rfl⟩ := List.mem_iff_getElem.1 hym
     have := h.nd t j ht hj (by rw [e.1,e1]) (by rw [e.2,e2])
     subst this; rfl
    subst hzj
    obtain ⟨r0,r1,r2,r3,r4,_⟩ := hre
    exact ⟨r0,r1,r2,r3,r4,rfl⟩
   ·rw [if_neg (fun hh => e (hiff.1 hh)),gE,if_neg e]
    exact hzy
end
end Go.Proofs.Ytmffcpiffkclgaa.ZJM.DC
set_option linter.unusedSimpArgs false
set_option linter.unusedVariables false
set_option maxRecDepth 4000
namespace Go.Proofs.Ytmffcpiffkclgaa.ZJM.DC
open Go.Proofs.Ytmffcpiffkclgaa.ZJM Go.RowKit
theorem bnum_kb (n : Int) (s : Nat) (hs : s = 1 ∨ s = 2 ∨ s = 4) : bnum (kb s n) = n % pw s := by
 rcases hs with rfl | rfl | rfl <;> simp [kb,List.range,List.range.loop,bnum,pw] <;> omega
theorem get_kb {k n : Int} (hw : wfits k n = true) : getA k (kb (ksz k).toNat n) = (n,0) := by
 have hw' := hw
 simp only [wfits,Bool.and_eq_true,decide_eq_true_eq] at hw'
 have hlen : ((kb (ksz k).toNat n).length : Int) = ksz k := by rw [kb_len,ksz_nat]
 have hv : (if khi k < bnum (kb (ksz k).toNat n) then bnum (kb (ksz k).toNat n) - pw (kb (ksz k).toNat n).length else bnum (kb (ksz k).toNat n)) = n := by
  rw [kb_len]
  rcases kinds k with rfl | rfl | rfl | rfl | rfl | rfl | rfl | ⟨h1,h2,h3,h4,h5,h6,h7,e1,e2,e3,e4⟩
  rotate_right
  ·omega
  all_goals
   rw [bnum_kb _ _ (by decide)]
   simp only [klo,khi,ksz,pw] at hw' ⊢
   simp at hw' ⊢
   split <;> omega
 rw [getA,if_neg (by omega),if_pos hlen,hv,if_pos hw]
theorem put_fits {k a l h n : Int} (hm : mayA k a l h = true) (hz : 0 < ksz k) (h1 : l ≤ n) (h2 : n ≤ h) : fitsA k a l h (kb (ksz k).toNat n) = 0 := by
 have hg := get_kb (may_put hm hz h1 h2)
 have hlen : ((kb (ksz k).toNat n).length : Int) = ksz k := by rw [kb_len,ksz_nat]
 have e1 : lenA (kb (ksz k).toNat n).length (ksz k) (ksz k) = 0 := by
  rw [hlen,lenA,if_neg (by omega),if_neg (by omega)]
 rw [fitsA,if_pos hm,if_pos hz,if_pos e1,hg]
 simp only [if_true]
 rw [if_neg (by omega),if_neg (by omega)]
theorem sim_new : Sim [] 0 ⟨true,[],0⟩ := ⟨⟨by simp,fun i j _ hj => by simp at hj,fun x hx => by simp at hx⟩,⟨by simp,fun x hx => by simp at hx⟩,rfl,fun a b ha => by simp at ha,trivial⟩
theorem drop_filter {l : List Row} (hl : Ris l) (K : Int) : fromW l K = l.filter fun x => decide (K ≤ x.n) := by
 induction l with
 | nil => rfl
 | cons z r ih =>
  obtain ⟨h1,h2⟩ := hl
  simp only [fromW,List.dropWhile_cons,List.filter_cons]
  by_cases e : z.n < K
  ·have e2 : ¬ K ≤ z.n := by omega
   simp only [e,e2,decide_true,decide_false,if_true,Bool.false_eq_true,if_false]
   exact ih h2
  ·have e2 : K ≤ z.n := by omega
   simp only [e,e2,decide_true,decide_false,if_true,Bool.false_eq_true,if_false]
   congr 1
   symm
   rw [List.filter_eq_self]
   intro y hy
   have := h1 y hy
   simp; omega
theorem take_filter {l : List Row} (hl : Ris l) (K : Int) : (l.takeWhile fun x => decide (x.n < K)) = l.filter fun x => decide (x.n < K) := by
 induction l with
 | nil => rfl
 | cons z r ih =>
  obtain ⟨h1,h2⟩ := hl
  simp only [List.takeWhile_cons,List.filter_cons]
  by_cases e : z.n < K
  ·simp only [e,decide_true,if_true]
   rw [ih h2]
  ·simp only [e,decide_false,Bool.false_eq_true,if_false]
   symm
   rw [List.filter_eq_nil_iff]
   intro y hy
   have := h1 y hy
   simp; omega
theorem ris_filter {l : List Row} (hl : Ris l) (p : Row → Bool) : Ris (l.filter p) := by
 induction l with
 | nil => trivial
 | cons z r ih =>
  obtain ⟨h1,h2⟩ := hl
  simp only [List.filter_cons]
  split
  ·exact ⟨fun y hy => h1 y (List.mem_filter.1 hy).1,ih h2⟩
  ·exact ih h2
theorem subW_filter {l : List Row} (hk : Dok l) (i : Int) : subW l i = l.filter fun x => x.n / 256 == i := by
 have hr := ris_iff.1 hk.ris
 by_cases hn : knum i 0 < 0
 ·rw [subW,if_pos hn]
  symm
  rw [List.filter_eq_nil_iff]
  intro y hy
  obtain ⟨_,_,_,_,i',s',h1,h2⟩ := hk.all y hy
  have ho : ¬ okK i 0 = true := by
   intro ho
   rw [knum,if_pos ho] at hn
   simp only [okK,Bool.and_eq_true,decide_eq_true_eq] at ho
   omega
  simp only [okK,Bool.and_eq_true,decide_eq_true_eq] at ho h1
  simp only [beq_iff_eq]
  omega
 ·have ho : okK i 0 = true := by
   cases ho : okK i 0 with
   | true => rfl
   | false => rw [knum,ho] at hn; simp at hn
  have hK : knum i 0 = i * 256 := by rw [knum,if_pos ho]; omega
  rw [subW,if_neg hn,hK,drop_filter hr]
  have e : (fun x : Row => decide (x.n - i * 256 < 256)) = fun x => decide (x.n < i * 256 + 256) := by
   funext x
   exact decide_eq_decide.2 (by omega)
  rw [e,take_filter (ris_filter hr _),List.filter_filter]
  refine List.filter_congr fun x _ => ?_
  have : (x.n / 256 == i) = decide (x.n / 256 = i) := by rfl
  rw [this,← Bool.decide_and]
  exact decide_eq_decide.2 (by omega)
section
variable {l : List Row} {c : Int} {r : RD} (h : Sim l c r)
include h
theorem Sim.subs (i : Int) : F2 (subW l i) ((sortE r.l).filter fun y => y.i == i) := by
 rw [subW_filter h.dok]
 refine f2_filter h.f2 fun x y hx hy hxy => ?_
 have hyk := (h.rok.2 y (sortE_mem.1 hy)).2.1
 simp only [okK,Bool.and_eq_true,decide_eq_true_eq] at hyk
 have : x.n / 256 = y.i := by rw [hxy.1]; omega
 rw [this]
theorem Sim.miss (i : Int) : missW l i = missA r.l i := by
 have hs := h.subs i
 have hl := f2_len hs
 unfold missW missA
 by_cases e : r.l.any (fun x => x.i == i) = true
 ·rw [if_pos e]
  rw [List.any_eq_true] at e
  obtain ⟨y,hy,hyi⟩ := e
  have : y ∈ (sortE r.l).filter fun y => y.i == i := List.mem_filter.2 ⟨sortE_mem.2 hy,hyi⟩
  have hne : subW l i ≠ [] := by
   intro hh
   rw [hh] at hl
   have := List.length_pos_of_mem this
   simp at hl; omega
  rw [if_neg hne]
 ·rw [if_neg e]
  have hnil : (sortE r.l).filter (fun y => y.i == i) = [] := by
   rw [List.filter_eq_nil_iff]
   intro y hy hyi
   exact e (List.any_eq_true.2 ⟨y,sortE_mem.1 hy,hyi⟩)
  rw [hnil] at hl
  rw [if_pos (List.length_eq_zero_iff.1 hl)]
theorem Sim.read (i s : Int) : (readO (getW l (knum i s)) (missW l i)).2.1 = (readR r i s).1 ∧ (readO (getW l (knum i s)) (missW l i)).2.2 = (readR r i s).2 := by
 rcases h.at i s with ⟨h1,h2⟩ | ⟨x,j,hj,h1,h2,hre,e1,e2,hok⟩
 ·rw [h1]; simp [readO,readR,h2,h.miss]
 ·rw [h1]
  obtain ⟨r0,r1,r2,r3,r4,r5⟩ := hre
  by_cases d : readsA x.a = 0
  ·have d' : readsA r.l[j].a = 0 := by rw [← r2]; exact d
   simp [readO,readR,h2,hj,d,d',r5]
  ·have d' : ¬ readsA r.l[j].a = 0 := by rw [← r2]; exact d
   simp [readO,readR,h2,hj,d,d',r2]
theorem Sim.num (i s : Int) : numO (getW l (knum i s)) = numR r i s := by
 rcases h.at i s with ⟨h1,h2⟩ | ⟨x,j,hj,h1,h2,hre,e1,e2,hok⟩
 ·rw [h1]; simp [numO,numR,h2]
 ·rw [h1]
  obtain ⟨r0,r1,r2,r3,r4,r5⟩ := hre
  simp [numO,numR,h2,hj,r1,r2,r3,r4,r5]
theorem Sim.putC (i s : Int) (b : List Int) : putWC (getW l (knum i s)) b = putC r i s b := by
 rcases h.at i s with ⟨h1,h2⟩ | ⟨x,j,hj,h1,h2,hre,e1,e2,hok⟩
 ·rw [h1]; simp [putWC,DC.putC,h2]
 ·rw [h1]
  obtain ⟨r0,r1,r2,r3,r4,r5⟩ := hre
  simp [putWC,DC.putC,h2,hj,r1,r2,r3,r4]
theorem Sim.put (i s : Int) (nb : Bool) (b : List Int) (hb : OkB b) (hn : nb = true → b = []) (hz : putWC (getW l (knum i s)) b = 0) : Sim (holdW l (knum i s) nb b) (holdC l c (knum i s) b) (putR r i s b) := by
 have hz2 := hz
 rw [h.putC] at hz2
 rw [putR,if_pos hz2]
 cases hg : getW l (knum i s) with
 | none => rw [hg] at hz; cases hz
 | some x =>
  rw [hg,putWC] at hz
  have d : ¬ x.a = 4 := by intro d; rw [if_pos d] at hz; cases hz
  rw [if_neg d] at hz
  refine h.hold hg nb b hb hn ?_
  by_cases d2 : fitsA x.k x.a x.l x.h b = 0
  ·exact d2
  ·rw [if_neg d2] at hz; cases hz
theorem Sim.writeC (i s : Int) (b : List Int) : writeO (getW l (knum i s)) (missW l i) b = writeC r i s b := by
 rcases h.at i s with ⟨h1,h2⟩ | ⟨x,j,hj,h1,h2,hre,e1,e2,hok⟩
 ·rw [h1]; simp [writeO,DC.writeC,h2,h.miss]
 ·rw [h1]
  obtain ⟨r0,r1,r2,r3,r4,r5⟩ := hre
  simp [writeO,DC.writeC,h2,hj,r1,r2,r3,r4]
theorem Sim.write (i s : Int) (nb : Bool) (b : List Int) (hb : OkB b) (hn : nb = true → b = []) (hz : writeO (getW l (knum i s)) (missW l i) b = 0) : Sim (holdW l (knum i s) nb b) (holdC l c (knum i s) b) (writeR r i s b) := by
 have hz2 := hz
 rw [h.writeC] at hz2
 rw [writeR,if_pos hz2]
 cases hg : getW l (knum i s) with
 | none => rw [hg,writeO] at hz; unfold missW at hz; split at hz <;> simp at hz
 | some x =>
  rw [hg,writeO] at hz
  refine h.hold hg nb b hb hn ?_
  by_cases d : writesA x.a = 0
  ·rw [if_pos d] at hz; exact hz
  ·rw [if_neg d] at hz; exact absurd hz d
theorem Sim.setC (i s n : Int) : setWC (getW l (knum i s)) n = setC r i s n := by
 rcases h.at i s with ⟨h1,h2⟩ | ⟨x,j,hj,h1,h2,hre,e1,e2,hok⟩
 ·rw [h1]; simp [setWC,DC.setC,h2]
 ·rw [h1]
  obtain ⟨r0,r1,r2,r3,r4,r5⟩ := hre
  have hm := hok.2.2.1
  have hb : (bytesA x.k x.a x.l x.h n).2.2 = if x.k = 8 then 2 else if n < x.l ∨ x.h < n then 14 else 0 := by
   unfold bytesA
   by_cases d8 : x.k = 8
   ·have : ¬ (mayA x.k x.a x.l x.h = true ∧ 0 < ksz x.k) := by rw [d8]; intro hh; exact absurd hh.2 (by decide)
    rw [if_neg this,if_pos d8]
   ·rw [if_pos ⟨hm,may_num hm d8⟩,if_neg d8]
    by_cases d9 : n < x.l ∨ x.h < n
    ·rw [if_pos d9,if_pos d9]
    ·rw [if_neg d9,if_neg d9]
  simp only [setWC,DC.setC,h2,List.getElem?_eq_getElem hj]
  rw [hb,r1,r2,r3,r4]
theorem Sim.set (i s n : Int) (hz : setWC (getW l (knum i s)) n = 0) : Sim (holdW l (knum i s) false (setWB (getW l (knum i s)) n)) (holdC l c (knum i s) (setWB (getW l (knum i s)) n)) (setR r i s n) := by
 have hz2 := hz
 rw [h.setC] at hz2
 rw [setR,if_pos hz2]
 rcases h.at i s with ⟨h1,h2⟩ | ⟨x,j,hj,h1,h2,hre,e1,e2,hok⟩
 ·rw [h1] at hz; cases hz
 ·have hB : setWB (getW l (knum i s)) n = setB r i s n := by
   rw [h1]
   simp [setWB,setB,h2,hj,hre.2.1]
  rw [← hB]
  rw [h1,setWC] at hz
  have d : ¬ x.a = 4 := by intro d; rw [if_pos d] at hz; cases hz
  rw [if_neg d] at hz
  obtain ⟨f1,f2,f3,f4⟩ := bytesA_ok hok.2.2.1 hz
  have hw := may_put hok.2.2.1 f2 f3 f4
  rw [h1]
  refine h.hold h1 false _ (kb_ok _ _) (by simp) ?_
  exact put_fits hok.2.2.1 f2 f3 f4
end
end Go.Proofs.Ytmffcpiffkclgaa.ZJM.DC
