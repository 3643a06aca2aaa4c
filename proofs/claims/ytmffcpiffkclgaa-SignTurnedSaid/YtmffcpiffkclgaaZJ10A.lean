/- A loop's head at which names turn; rows that become lists by value. -/
import Derived.Test.YtmffcpiffkclgaaZJ9
set_option linter.unusedSimpArgs false
set_option linter.unusedVariables false
namespace Go.Proofs.Ytmffcpiffkclgaa.ZJM
open Go.RowKit
theorem get_map_inj {α β : Type} {K : List Nat} {ρ : Nat → Nat} {F : α → β} (hinj : ∀ s s',K.contains s = true → K.contains s' = true → ρ s = ρ s' → s = s') : ∀ {l : List (Nat × α)},(∀ p ∈ l,K.contains p.1 = true) → ∀ {k : Nat},K.contains k = true →
  get (l.map fun p => (ρ p.1,F p.2)) (ρ k) = (get l k).map F
 | [],_,_,_ => rfl
 | (s,x) :: l,hl,k,hk => by
  simp only [List.map_cons]
  rw [get_cons,get_cons]
  by_cases h : s = k
  ·subst h; simp
  ·have : ρ s ≠ ρ k := fun he => h (hinj _ _ (hl (s,x) (List.mem_cons_self ..)) hk he)
   rw [if_neg this,if_neg h]
   exact get_map_inj hinj (fun p hp => hl p (List.mem_cons_of_mem _ hp)) hk
theorem get_map_from {α β : Type} {ρ : Nat → Nat} {F : α → β} : ∀ {l : List (Nat × α)} {s : Nat} {y : β},get (l.map fun p => (ρ p.1,F p.2)) s = some y → ∃ p ∈ l,s = ρ p.1
 | [],_,_,h => by simp [get] at h
 | (t,x) :: l,s,y,h => by
  simp only [List.map_cons] at h
  rw [get_cons] at h
  by_cases he : ρ t = s
  ·exact ⟨(t,x),by simp,he.symm⟩
  ·rw [if_neg he] at h
   obtain ⟨p,hp,h2⟩ := get_map_from h
   exact ⟨p,by simp [hp],h2⟩
theorem get_map_snd {α β : Type} {F : α → β} : ∀ (l : List (Nat × α)) (t : Nat),get (l.map fun p => (p.1,F p.2)) t = (get l t).map F
 | [],_ => rfl
 | (s,x) :: l,t => by
  simp only [List.map_cons]
  rw [get_cons,get_cons]
  by_cases h : s = t
  ·rw [if_pos h,if_pos h]; rfl
  ·rw [if_neg h,if_neg h]; exact get_map_snd l t
theorem gets_keys {α : Type} {l : List (Nat × α)} : ∀ {ks : List Nat} {l' : List (Nat × α)},gets l ks = some l' → ∀ p ∈ l',ks.contains p.1 = true
 | [],l',h,p,hp => by simp only [gets,Option.some.injEq] at h; subst h; cases hp
 | k :: ks,l',h,p,hp => by
  simp only [gets] at h
  split at h
  ·rename_i v vs h1 h2
   cases h
   rcases List.mem_cons.1 hp with rfl | hp
   ·simp
   ·have := gets_keys h2 p hp
    simp only [List.contains_cons,this,Bool.or_true]
  ·cases h
theorem idxOf_get : ∀ {l : List Nat} {n i j : Nat},idxOf l n i = some j → i ≤ j ∧ l[j - i]? = some n
 | [],_,_,_,h => by simp [idxOf] at h
 | x :: r,n,i,j,h => by
  simp only [idxOf] at h
  split at h
  ·rename_i he
   cases h
   have := beq_iff_eq.1 he
   subst this
   exact ⟨Nat.le_refl _,by simp⟩
  ·obtain ⟨h1,h2⟩ := idxOf_get h
   refine ⟨by omega,?_⟩
   rw [show j - i = (j - (i + 1)) + 1 by omega,List.getElem?_cons_succ]; exact h2
theorem idxOf_none : ∀ {l : List Nat} {n i : Nat},idxOf l n i = none → n ∉ l
 | [],_,_,_,h => by cases h
 | x :: r,n,i,h,hm => by
  simp only [idxOf] at h
  split at h
  ·cases h
  ·rename_i hne
   rcases List.mem_cons.1 hm with rfl | hm
   ·simp at hne
   ·exact idxOf_none h hm
theorem TgC.ren {tops : List (Nat × Nat × Nat)} {om : Nat → Value} {szm : Nat → Nat} {n n' : Nat} {ρ : Nat → Nat} {v : PV} {rv : Value} (h : TgC tops om szm v rv) : TgC tops om szm (v.ren n n' ρ) rv := by
 cases v with
 | lst o nl sz xs =>
  cases o with
  | none => trivial
  | some t =>
   obtain ⟨p,h1,h2,h3⟩ := h
   exact ⟨p,h1,by rw [rens_length]; exact h2,fun he => h3 (by rw [rens_length] at he; exact he)⟩
 | ptr l s p off => by_cases hl : (l == n) = true <;> simp [PV.ren,hl,TgC]
 | slr l s p off k sz => by_cases hl : (l == n) = true <;> simp [PV.ren,hl,TgC]
 | _ => trivial
theorem Tg.ren {tops : List (Nat × Nat × Nat)} {om : Nat → Value} {szm : Nat → Nat} {n n' : Nat} {ρ : Nat → Nat} {v : PV} {rv : Value} (h : Tg tops om szm v rv) : Tg tops om szm (v.ren n n' ρ) rv := by
 cases v with
 | agg cs =>
  intro vs hv j c hj
  rw [rens_get] at hj
  obtain ⟨y,hy,rfl⟩ := Option.map_eq_some_iff.1 hj
  exact (h vs hv j y hy).ren
 | tup cs =>
  intro vs hv j c hj
  rw [rens_get] at hj
  obtain ⟨y,hy,rfl⟩ := Option.map_eq_some_iff.1 hj
  exact (h vs hv j y hy).ren
 | ptr l s p off => by_cases hl : (l == n) = true <;> simp [PV.ren,hl,Tg,TgC]
 | slr l s p off k sz => by_cases hl : (l == n) = true <;> simp [PV.ren,hl,Tg,TgC]
 | lst o nl sz xs => exact TgC.ren (v := .lst o nl sz xs) h
 | _ => trivial
section
variable {P : Program} {d nt : Nat} {m0 : Mem} {g0 : Gh} {w0 : World} {g : Gh} {om : Nat → Value} {szm : Nat → Nat} {st : St} {a : Act} {w : World}
def Gh.names (g : Gh) (d : Nat) (K : List Nat) (ρ : Nat → Nat) : Gh :=
 { g with
  blk := fun l s p => if l = d then (match K.find? fun k => ρ k == s with | some k => g.blk d k p | none => none) else g.blk l s p
  lp := fun l s => if l = d then (match K.find? fun k => ρ k == s with | some k => g.lp d k | none => none) else g.lp l s }
theorem find_inj {K : List Nat} {ρ : Nat → Nat} (hinj : ∀ s s',K.contains s = true → K.contains s' = true → ρ s = ρ s' → s = s') {k : Nat} (hk : K.contains k = true) : K.find? (fun i => ρ i == ρ k) = some k := by
 cases hf : K.find? (fun i => ρ i == ρ k) with
 | none => have := List.find?_eq_none.1 hf k (by simpa using hk); simp at this
 | some i =>
  have h1 := List.find?_some hf
  have h2 := List.mem_of_find?_eq_some hf
  simp only [beq_iff_eq] at h1
  rw [hinj i k (by simpa using h2) hk h1]
theorem find_some {K : List Nat} {ρ : Nat → Nat} {s k : Nat} (h : K.find? (fun i => ρ i == s) = some k) : K.contains k = true ∧ s = ρ k :=
 ⟨by simpa using List.mem_of_find?_eq_some h,by have := List.find?_some h; simp only [beq_iff_eq] at this; exact this.symm⟩
theorem Inv.rename (h : Inv d nt m0 g0 w0 g om szm st a w) {K ts : List Nat} {ρ : Nat → Nat} (hKb : ∀ s p x,g.blk d s p = some x → K.contains s = true) (hKl : ∀ s x,g.lp d s = some x → K.contains s = true) (hok : okSt K ts st = true) (hown : ∀ p ∈ st.own,K.contains p.1 = true) (hdead : st.dead = [])
  (hinj : ∀ s s',K.contains s = true → K.contains s' = true → ρ s = ρ s' → s = s') :
  ∃ g',Inv d nt m0 g0 w0 g' om szm { st with f := st.f.map fun p => (p.1,p.2.ren d d ρ),own := st.own.map fun p => (ρ p.1,PV.rens d d ρ p.2) } a w ∧ (∀ s p x,g'.blk d s p = some x → ∃ k,K.contains k = true ∧ s = ρ k) ∧ (∀ s x,g'.lp d s = some x → ∃ k,K.contains k = true ∧ s = ρ k) ∧
   ∀ v rv,V g v rv → v.okn d K ts = true → V g' (v.ren d d ρ) rv := by
 simp only [okSt,Bool.and_eq_true,List.all_eq_true] at hok
 obtain ⟨hokf,hoko⟩ := hok
 let g' := g.names d K ρ
 have hb : ∀ l s p x,l ≠ d → g.blk l s p = some x → g'.blk l s p = some x := fun l s p x hl hx => by show (if l = d then _ else _) = _; rw [if_neg hl]; exact hx
 have hr : ∀ l s x,l ≠ d → g.lp l s = some x → g'.lp l s = some x := fun l s x hl hx => by show (if l = d then _ else _) = _; rw [if_neg hl]; exact hx
 have hbn : ∀ s p x,K.contains s = true → g.blk d s p = some x → g'.blk d (ρ s) p = some x := fun s p x hs hx => by show (if d = d then _ else _) = _; rw [if_pos rfl,find_inj hinj hs]; exact hx
 have hrn : ∀ s x,K.contains s = true → g.lp d s = some x → g'.lp d (ρ s) = some x := fun s x hs hx => by show (if d = d then _ else _) = _; rw [if_pos rfl,find_inj hinj hs]; exact hx
 have hblk : ∀ l s p x,g'.blk l s p = some x → ∃ l0 s0,From d d K ρ l s l0 s0 ∧ g.blk l0 s0 p = some x := by
  intro l s p x hx
  have hx' : (if l = d then (match K.find? fun k => ρ k == s with | some k => g.blk d k p | none => none) else g.blk l s p) = some x := hx
  split at hx'
  ·rename_i hl
   split at hx'
   ·rename_i k hk
    obtain ⟨q1,q2⟩ := find_some hk
    exact ⟨d,k,.inr ⟨rfl,hl,q2,q1⟩,hx'⟩
   ·cases hx'
  ·rename_i hl; exact ⟨l,s,.inl ⟨hl,rfl,rfl⟩,hx'⟩
 have hlp : ∀ l s x,g'.lp l s = some x → ∃ l0 s0,From d d K ρ l s l0 s0 ∧ g.lp l0 s0 = some x := by
  intro l s x hx
  have hx' : (if l = d then (match K.find? fun k => ρ k == s with | some k => g.lp d k | none => none) else g.lp l s) = some x := hx
  split at hx'
  ·rename_i hl
   split at hx'
   ·rename_i k hk
    obtain ⟨q1,q2⟩ := find_some hk
    exact ⟨d,k,.inr ⟨rfl,hl,q2,q1⟩,hx'⟩
   ·cases hx'
  ·rename_i hl; exact ⟨l,s,.inl ⟨hl,rfl,rfl⟩,hx'⟩
 have hgo : ∀ k,K.contains k = true → get (st.own.map fun p => (ρ p.1,PV.rens d d ρ p.2)) (ρ k) = (get st.own k).map (PV.rens d d ρ) := fun k hk => get_map_inj hinj hown hk
 have hlen : (st.own :: st.m).length = d + 1 := by simp [h.lv]
 have hrel : Rel g' ((st.own.map fun p => (ρ p.1,PV.rens d d ρ p.2)) :: st.m) w := by
  refine h.rel.ren (.inl rfl) hlen (by simp [h.lv]) (fun l _ hl => by simpa using hl) rfl rfl hb hbn hr hrn hblk hlp hinj (fun hne => absurd rfl hne) ?_
  intro l s q zs' hz
  rw [mget_cons,h.lv] at hz
  by_cases hl : l = d
  ·rw [if_pos hl] at hz
   unfold lget at hz
   split at hz
   ·rename_i cs hcs
    obtain ⟨p,hp,rfl⟩ := get_map_from hcs
    have hk := hown p hp
    rw [hgo _ hk] at hcs
    obtain ⟨zs,hzs,rfl⟩ := Option.map_eq_some_iff.1 hcs
    rw [tget_rens] at hz
    obtain ⟨z2,hz2,rfl⟩ := Option.map_eq_some_iff.1 hz
    refine ⟨d,p.1,z2,.inr ⟨rfl,hl,rfl,hk⟩,?_,.inr ⟨rfl,rfl,?_⟩⟩
    ·rw [mget_cons,h.lv,if_pos rfl]; unfold lget; rw [hzs]; exact hz2
    ·have := hoko _ (get_mem hzs)
     simp only [h.lv] at this
     exact tget_okns this hz2
   ·cases hz
  ·rw [if_neg hl] at hz
   exact ⟨l,s,zs',.inl ⟨hl,rfl,rfl⟩,by rw [mget_cons,h.lv,if_neg hl]; exact hz,.inl ⟨hl,rfl⟩⟩
 have hV : ∀ v rv,V g v rv → v.okn d K ts = true → V g' (v.ren d d ρ) rv := fun v rv hv ho => V.ren (g := g) (g' := g') (n := d) (n' := d) (ρ := ρ) (ks := K) (ts := ts) (fun _ _ _ x => x) hb hbn hr hrn rfl hv ho
 have hfreeG : ∀ b,g.free b → g'.free b := fun b hf => ⟨fun l s p o t hh => by obtain ⟨l0,s0,_,h2⟩ := hblk _ _ _ _ hh; exact hf.1 _ _ _ _ _ h2,fun l s r hh => by obtain ⟨l0,s0,_,h2⟩ := hlp _ _ _ hh; exact hf.2 _ _ _ h2⟩
 have hbelow : ∀ l s p,l < d → g'.blk l s p = g.blk l s p := fun l s p hl => by show (if l = d then _ else _) = _; rw [if_neg (by omega)]
 have hbelowL : ∀ l s,l < d → g'.lp l s = g.lp l s := fun l s hl => by show (if l = d then _ else _) = _; rw [if_neg (by omega)]
 have hfr : ∀ k,K.contains k = true → isFree st k = false → isFree { st with f := st.f.map fun p => (p.1,p.2.ren d d ρ),own := st.own.map fun p => (ρ p.1,PV.rens d d ρ p.2) } (ρ k) = false := by
  intro k hk hf
  cases hfr : isFree { st with f := st.f.map fun p => (p.1,p.2.ren d d ρ),own := st.own.map fun p => (ρ p.1,PV.rens d d ρ p.2) } (ρ k) with
  | false => rfl
  | true =>
   obtain ⟨q1,_⟩ := isFree_iff.1 hfr
   simp only at q1
   rw [hgo k hk] at q1
   have hgn : get st.own k = none := by
    cases hg : get st.own k with
    | none => rfl
    | some x => rw [hg] at q1; cases q1
   have : isFree st k = true := isFree_iff.2 ⟨hgn,by rw [hdead]; rfl⟩
   rw [hf] at this; cases this
 refine ⟨g',⟨hrel,h.lv,fun t v hv => ?_,h.nt,fun x hx => ?_,h.dn,fun n p hp => ?_,h.apart,?_,fun s p x hx => ?_,fun s x hx => ?_,h.roots⟩,fun s p x hx => ?_,fun s x hx => ?_,hV⟩
 ·rw [get_map_snd] at hv
  obtain ⟨u,hu,rfl⟩ := Option.map_eq_some_iff.1 hv
  obtain ⟨q1,q2,q3⟩ := h.f t u hu
  have h1 := hokf _ (get_mem hu)
  simp only [h.lv] at h1
  exact ⟨q1,hV _ _ q2 h1,q3.ren⟩
 ·obtain ⟨D,q1,q2,q3,q4⟩ := h.df x hx
  exact ⟨D,q1,q2,q3,hfreeG D q4⟩
 ·obtain ⟨vals,q1,q2⟩ := h.own n p hp
  exact ⟨vals,q1,fun b hb' => ⟨hfreeG b (q2 b hb').1,(q2 b hb').2⟩⟩
 ·refine ⟨h.kp.size,h.kp.keep,h.kp.G,fun l s p x hl hx => by rw [hbelow l s p hl]; exact h.kp.blk l s p x hl hx,fun l s hl => by rw [hbelowL l s hl]; exact h.kp.lpl l s hl,fun l s p b o t hx => ?_,fun l s b r hx => ?_,fun l s p x hl hx => ?_,h.kp.os,h.kp.tape,h.kp.output,h.kp.ok⟩
  ·obtain ⟨l0,s0,_,h2⟩ := hblk _ _ _ _ hx
   exact h.kp.new _ _ _ _ _ _ h2
  ·obtain ⟨l0,s0,f0,h2⟩ := hlp _ _ _ hx
   exact h.kp.newL _ _ _ _ h2
  ·rw [hbelow l s p hl] at hx; exact h.kp.root _ _ _ _ hl hx
 ·obtain ⟨l0,s0,f0,h2⟩ := hblk _ _ _ _ hx
  rcases f0 with ⟨b1,b2,_⟩ | ⟨rfl,_,rfl,hk⟩
  ·exact absurd b2.symm b1
  ·exact hfr _ hk (h.nm _ _ _ h2)
 ·obtain ⟨l0,s0,f0,h2⟩ := hlp _ _ _ hx
  rcases f0 with ⟨b1,b2,_⟩ | ⟨rfl,_,rfl,hk⟩
  ·exact absurd b2.symm b1
  ·exact hfr _ hk (h.nmL _ _ h2)
 ·obtain ⟨l0,s0,f0,h2⟩ := hblk _ _ _ _ hx
  rcases f0 with ⟨b1,b2,_⟩ | ⟨rfl,_,rfl,hk⟩
  ·exact absurd b2.symm b1
  ·exact ⟨_,hk,rfl⟩
 ·obtain ⟨l0,s0,f0,h2⟩ := hlp _ _ _ hx
  rcases f0 with ⟨b1,b2,_⟩ | ⟨rfl,_,rfl,hk⟩
  ·exact absurd b2.symm b1
  ·exact ⟨_,hk,rfl⟩
end
end Go.Proofs.Ytmffcpiffkclgaa.ZJM
set_option linter.unusedSimpArgs false
set_option linter.unusedVariables false
namespace Go.Proofs.Ytmffcpiffkclgaa.ZJM
open Go.RowKit
section
variable {P : Program} {d nt : Nat} {m0 : Mem} {g0 : Gh} {w0 : World} {g : Gh} {om : Nat → Value} {szm : Nat → Nat} {st : St} {a : Act} {w : World}
theorem get_mapv {α β : Type} (g : α → β) : ∀ (l : List (Nat × α)) (t : Nat),get (l.map fun p => (p.1,g p.2)) t = (get l t).map g
 | [],t => rfl
 | p :: l,t => by
  obtain ⟨s,v⟩ := p
  rw [List.map_cons,get_cons,get_cons]
  split
  ·rfl
  ·exact get_mapv g l t
theorem gets_mapv {α β : Type} (g : α → β) (l : List (Nat × α)) : ∀ ts : List Nat,gets (l.map fun p => (p.1,g p.2)) ts = (gets l ts).map fun l' => l'.map fun p => (p.1,g p.2)
 | [] => rfl
 | t :: ts => by
  simp only [gets,get_mapv,gets_mapv g l ts]
  cases get l t <;> cases gets l ts <;> rfl
theorem Inv.drop (h : Inv d nt m0 g0 w0 g om szm st a w) (ts : List Nat) : Inv d nt m0 g0 w0 g om szm { st with f := st.f.map fun p => (p.1,dropTag ts p.2) } a w :=
 ⟨h.rel,h.lv,fun t v hv => by
  rw [get_mapv] at hv
  obtain ⟨u,hu,rfl⟩ := Option.map_eq_some_iff.1 hv
  obtain ⟨h1,h2,h3⟩ := h.f t u hu
  unfold dropTag
  split
  ·rename_i n nl sz xs
   split
   ·exact ⟨h1,h2,h3⟩
   ·exact ⟨h1,h2.untag,trivial⟩
  ·exact ⟨h1,h2,h3⟩,h.nt,h.df,h.dn,h.own,h.apart,h.kp,h.nm,h.nmL,h.roots⟩
theorem Inv.keep (h : Inv d nt m0 g0 w0 g om szm st a w) {fs ks ts : List Nat} {st' : St} (hs : keepSt fs ks ts st = some st') (hok : okSt ks ts st' = true) : ∃ g' om',Inv d nt m0 g0 w0 g' om' szm st' a w := by
 unfold keepSt at hs
 split at hs
 ·split at hs
  ·rename_i st1 h1
   cases hs
   have e : keepSt0 fs ks ts { st with f := st.f.map fun p => (p.1,dropTag ts p.2) } = some { st1 with f := st1.f.map fun p => (p.1,dropTag ts p.2) } := by
    unfold keepSt0 at h1 ⊢
    rw [gets_mapv]
    split at h1
    ·rename_i f' own' hf ho
     cases h1
     rw [hf,ho]; rfl
    ·cases h1
   obtain ⟨g',om',hi,_⟩ := (h.drop ts).keep0 e hok
   exact ⟨g',om',hi⟩
  ·cases hs
 ·obtain ⟨g',om',hi,_⟩ := h.keep0 hs hok
  exact ⟨g',om',hi⟩
theorem Inv.mask (h : Inv d nt m0 g0 w0 g om szm st a w) {fs ks ts ds : List Nat} {st' : St} (hs : maskSt fs ks ts ds st = some st') : ∃ g' om',Inv d nt m0 g0 w0 g' om' szm st' a w := by
 unfold maskSt at hs
 split at hs
 ·split at hs
  ·rename_i st1 h1
   split at hs
   ·rename_i hok
    cases hs
    exact h.keep h1 hok
   ·cases hs
  ·cases hs
 ·unfold turnSt at hs
  split at hs
  ·rename_i f' dv hf hdv
   simp only at hs
   split at hs
   ·rename_i own' ho
    split at hs
    ·rename_i hcond
     cases hs
     simp only [Bool.and_eq_true,List.all_eq_true,decide_eq_true_eq] at hcond
     obtain ⟨hok,hks⟩ := hcond
     generalize hns : (reach st.m.length st.own st.own.length (dedup (PV.namess st.m.length (dv.map (·.2))) [])).filter (fun n => !ks.contains n) = ns at *
     have hkeep : keepSt0 fs (ks ++ ns) ts st = some { st with f := f',own := own',dead := [],tops := ts.map fun t => (t,(get st.tops t).getD (0,0)) } := by
      unfold keepSt0
      rw [hf,ho]
     obtain ⟨g1,om1,hi1,hb1,hl1⟩ := h.keep0 hkeep hok
     obtain ⟨g2,hi2,_⟩ := hi1.rename (K := ks ++ ns) (ts := ts) (ρ := turnName ns) hb1 hl1 hok (gets_keys ho) rfl (by
      intro s s' hs hs' he
      have hlt : ∀ s,(ks ++ ns).contains s = true → idxOf ns s 0 = none → s < 1000000000 := by
       intro s hs hn
       have hnot := idxOf_none hn
       simp only [List.contains_iff_mem,List.mem_append] at hs
       rcases hs with hs | hs
       ·exact hks s hs
       ·exact absurd hs hnot
      unfold turnName at he
      cases h1 : idxOf ns s 0 with
      | none =>
       cases h2 : idxOf ns s' 0 with
       | none => simpa [h1,h2] using he
       | some i => simp only [h1,h2] at he; have := hlt s hs h1; omega
      | some i =>
       cases h2 : idxOf ns s' 0 with
       | none => simp only [h1,h2] at he; have := hlt s' hs' h2; omega
       | some i' =>
        simp only [h1,h2] at he
        have : i = i' := by omega
        subst this
        have q1 := (idxOf_get h1).2
        have q2 := (idxOf_get h2).2
        rw [q1] at q2; exact Option.some.inj q2)
     exact ⟨g2,om1,by rw [h.lv]; exact hi2⟩
    ·cases hs
   ·cases hs
  ·cases hs
theorem tset_tset : ∀ {p : Path} {cs x cs' y : List PV},tset cs p x = some cs' → tset cs' p y = tset cs p y
 | [],cs,x,cs',y,h => rfl
 | q :: p,cs,x,cs',y,h => by
  simp only [tset] at h
  split at h
  ·rename_i v' n sz c hc
   split at h
   ·rename_i hv
    split at h
    ·rename_i z hz
     cases h
     have hlt := (List.getElem?_eq_some_iff.1 hc).1
     simp only [tset,List.getElem?_set_self hlt,hc,hv,if_true,tset_tset (y := y) hz]
     split
     ·simp
     ·rfl
    ·cases h
   ·cases h
  ·cases h
theorem upd_upd {α : Type} : ∀ {l l' : List (Nat × α)} {t : Nat} {x y : α},upd l t x = some l' → upd l' t y = upd l t y
 | [],_,_,_,_,h => by simp [upd] at h
 | q :: r,l',t,x,y,h => by
  simp only [upd] at h ⊢
  split at h
  ·rename_i he
   cases h
   simp only [upd,he,if_true]
  ·rename_i he
   obtain ⟨r',hr,rfl⟩ := Option.map_eq_some_iff.1 h
   simp only [upd,he,if_false,upd_upd (y := y) hr]
   simp
theorem upd_get {α : Type} : ∀ {l l' : List (Nat × α)} {t : Nat} {x : α},upd l t x = some l' → get l' t = some x := fun h => by rw [get_upd h,if_pos rfl]
theorem lset_lset {L L' : Lvl} {s : Nat} {p : Path} {x y : List PV} (h : lset L s p x = some L') : lset L' s p y = lset L s p y := by
 unfold lset at h ⊢
 split at h
 ·rename_i cs hcs
  split at h
  ·rename_i cs' hcs'
   rw [upd_get h]
   simp only [tset_tset (y := y) hcs']
   split
   ·rename_i z hz; exact upd_upd h
   ·rfl
  ·cases h
 ·cases h
theorem mset_mset : ∀ {M M' : Mem} {l s : Nat} {p : Path} {x y : List PV},mset M l s p x = some M' → mset M' l s p y = mset M l s p y
 | [],_,_,_,_,_,_,h => by simp [mset] at h
 | L :: R,M',l,s,p,x,y,h => by
  simp only [mset] at h
  split at h
  ·rename_i hl
   split at h
   ·rename_i L' hL
    cases h
    simp only [mset,hl,if_true,lset_lset (y := y) hL]
   ·cases h
  ·rename_i hl
   split at h
   ·rename_i R' hR
    cases h
    simp only [mset]
    rw [mset_length hR,if_neg hl,if_neg hl,mset_mset (y := y) hR]
   ·cases h
theorem Inv.freezeG (h : Inv d nt m0 g0 w0 g om szm st a w) {b : Nat} {C : Array Value} {E : TypeId} {o n : Nat} (hh : w.heap[b]? = some (.cells C E (0,0))) (hnf : ¬ g.free b) (hn : ∀ l s p o t cs,g.blk l s p = some (b,o,t) → mget (st.own :: st.m) l s p ≠ some cs)
  (hG : ∀ q,g.G b q = none) (hC : ∀ j,o ≤ j → j < o + n → vcell (C.getD j undef) = true) :
  ∃ g',g.le g' ∧ Inv d nt m0 g0 w0 g' om szm st a w ∧ (∀ j,o ≤ j → j < o + n → j < C.size → g'.G b j = some (C.getD j undef)) ∧ g'.blk = g.blk ∧ g'.lp = g.lp := by
 let g' : Gh := { g with G := fun b' q => if b' = b then (if o ≤ q ∧ q < o + n then C[q]? else none) else g.G b' q }
 have hle : g.le g' := by
  refine ⟨fun b' q v hb => ?_,fun _ _ _ _ x => x,fun _ _ _ x => x,rfl⟩
  have : b' ≠ b := fun he => by rw [he,hG q] at hb; cases hb
  show (if b' = b then _ else _) = _
  rw [if_neg this]; exact hb
 have hGo : ∀ b',b' ≠ b → ∀ q,g'.G b' q = g.G b' q := fun b' hb q => by show (if b' = b then _ else _) = _; rw [if_neg hb]
 refine ⟨g',hle,?_,fun j h1 h2 h3 => ?_,rfl,rfl⟩
 ·have hrel : Rel g' (st.own :: st.m) w := h.rel.world (Nat.le_refl _) (fun b' q v hv => by
   have hv' : (if b' = b then (if o ≤ q ∧ q < o + n then C[q]? else none) else g.G b' q) = some v := hv
   split at hv'
   ·rename_i he
    subst he
    split at hv'
    ·rename_i hq
     refine ⟨by simp [World.cell?,hh,hv'],?_⟩
     have := hC q hq.1 hq.2
     rw [Array.getD_eq_getD_getElem?,hv'] at this
     exact this
    ·cases hv'
   ·exact h.rel.hG b' q v hv') hle.G rfl rfl rfl (fun b' C' E' hb hl => by
    obtain ⟨l,s,p,o',t',cs,q1,q2⟩ := hl
    refine ⟨hb,hGo b' fun he => ?_⟩
    subst he
    exact hn _ _ _ _ _ _ q1 q2) (fun b' r hb => hb)
  refine h.turn (own' := st.own) (dead' := st.dead) (m' := st.m) hle hrel h.lv ⟨Nat.le_refl _,fun b' _ hf => ⟨rfl,hGo b' fun he => hnf (he ▸ hf)⟩,hle.G,fun _ _ _ _ _ x => x,fun _ _ _ => rfl,fun l s p b o t x => .inl ⟨l,s,p,o,t,x⟩,fun l s b r x => .inl ⟨l,s,r,x⟩,fun l s p x _ y => ⟨p,x,y⟩,rfl,rfl,rfl,rfl⟩ h.nm h.nmL (fun _ _ _ => rfl)
 ·show (if b = b then _ else _) = _
  rw [if_pos rfl,if_pos ⟨h1,h2⟩]
  simp [h3]
theorem mset_own {own : Lvl} {m : Mem} {s : Nat} {x cs : List PV} (h : get own s = some cs) : mset (own :: m) m.length s [] x = (upd own s x).map fun o => o :: m := by
 simp only [mset,beq_self_eq_true,if_true,lset,h,tset]
 cases upd own s x <;> rfl
theorem upd_some {α : Type} : ∀ {l : List (Nat × α)} {t : Nat} {x y : α},get l t = some y → ∃ l',upd l t x = some l'
 | [],_,_,_,h => by simp [get] at h
 | p :: r,t,x,y,h => by
  simp only [get] at h
  simp only [upd]
  split at h
  ·rename_i he; exact ⟨_,by rw [if_pos he]⟩
  ·rename_i he
   obtain ⟨r',hr⟩ := upd_some (x := x) h
   exact ⟨_,by rw [if_neg he,hr]; rfl⟩
theorem Inv.frz1 (h : Inv d nt m0 g0 w0 g om szm st a w) {s j b o t : Nat} (hb : g.blk d s [] = some (b,o,t)) {st' : St} (he : frz1 st s j = some st') : ∃ g',g.le g' ∧ Inv d nt m0 g0 w0 g' om szm st' a w ∧ st'.m = st.m := by
 unfold Go.Proofs.Ytmffcpiffkclgaa.ZJM.frz1 at he
 split at he
 ·rename_i cs hcs
  split at he
  ·rename_i ver n sz ys hj
   split at he
   ·rename_i hcond
    simp only [Bool.and_eq_true,beq_iff_eq] at hcond
    obtain ⟨hlen,hall⟩ := hcond
    split at he
    ·rename_i own' hup
     cases he
     have hcs' : mget (st.own :: st.m) d s [] = some cs := by rw [← h.lv,mget_own,lget_nil]; exact hcs
     obtain ⟨C,E,hh,hsz,hle0,h4,h5⟩ := h.rel.hM _ _ _ _ _ _ hb _ hcs'
     have hjlt : j < cs.length := (List.getElem?_eq_some_iff.1 hj).1
     obtain ⟨b1,o1,t1,o1',c1,hb1,hrv,hc1,ho1,hl1⟩ := h4 j _ hj
     have hlr : mget (st.own :: st.m) d s [(j,ver)] = some ys := by
      have := mget_append (st.own :: st.m) d s [] [(j,ver)]
      rw [List.nil_append,hcs'] at this
      rw [this]
      simp only [Option.bind_some,tget,hj,beq_self_eq_true,if_true]
     obtain ⟨C1,E1,a1,a2,a3,a4,a5⟩ := h.rel.hM _ _ _ _ _ _ hb1 _ hlr
     have a6 := plain_row a4 hall
     have hbb : b1 ≠ b := fun hh' => by
      have := (h.rel.inj _ _ _ _ _ _ _ _ _ _ _ _ _ (hh' ▸ hb1) hb hlr hcs').2.2
      simp at this
     obtain ⟨ownA,hA⟩ := upd_some (x := cs.set j (.gone ver sz)) hcs
     have hmA : mset (st.own :: st.m) d s [] (cs.set j (.gone ver sz)) = some (ownA :: st.m) := by rw [← h.lv,mset_own hcs,hA]; rfl
     have hiA := h.setPlace hb hcs' hj hmA hh (Upd.same hh) rfl (fun _ _ => rfl) (Gh.le.refl g) rfl rfl rfl (by simp [nextVer]) (fun _ _ _ _ hx => by cases hx) (fun _ _ _ _ hx => by cases hx) (fun l s q y hy => .inl hy)
      (show vcell (C.getD (o + j) undef) = true by rw [hrv]; rfl) (fun _ _ _ _ hx => by cases hx)
     obtain ⟨yA,WA⟩ := mset_wrote hmA
     have hyA : yA = cs := by have := WA.old; rw [hcs'] at this; exact (Option.some.inj this).symm
     subst hyA
     have hdeadA : ∀ l s' p o' t' zs,g.blk l s' p = some (b1,o',t') → mget (ownA :: st.m) l s' p ≠ some zs := by
      intro l s' p o' t' zs hl hz
      rcases WA.cases hjlt l s' p zs hz with ⟨rfl,rfl,rfl,_⟩ | ⟨v,n',sz',ys',r,_,_,_,hc,_⟩ | ⟨_,hnj,z1,hz1,_⟩
      ·rw [hb] at hl
       simp only [Option.some.injEq,Prod.mk.injEq] at hl
       exact hbb hl.1.symm
      ·cases hc
      ·obtain ⟨rfl,rfl,rfl⟩ := h.rel.inj _ _ _ _ _ _ _ _ _ _ _ _ _ hl hb1 hz1 hlr
       exact hnj ⟨ver,[],rfl,rfl,rfl⟩
     have hvc : ∀ i,o1 ≤ i → i < o1 + ys.length → vcell (C1.getD i undef) = true := by
      intro i h1 h2
      have hi : i - o1 < ys.length := by omega
      have := (a6 (i - o1) _ (List.getElem?_eq_getElem hi)).2.2.vcell (a6 (i - o1) _ (List.getElem?_eq_getElem hi)).1
      rwa [show o1 + (i - o1) = i by omega] at this
     obtain ⟨gB,hleB,hiB,hGB,hBb,hBl⟩ := hiA.freezeG (o := o1) (n := ys.length) a1 (fun hf => hf.1 _ _ _ _ _ hb1) hdeadA a5 hvc
     have hcsA : mget (ownA :: st.m) d s [] = some (yA.set j (.gone ver sz)) := WA.here
     have hgA : get ownA s = some (yA.set j (.gone ver sz)) := upd_get hA
     have hset : (yA.set j (.gone ver sz)).set j (.vfrz ver sz (chunks sz n ys)) = yA.set j (.vfrz ver sz (chunks sz n ys)) := by simp
     have hmB : mset (ownA :: st.m) d s [] ((yA.set j (.gone ver sz)).set j (.vfrz ver sz (chunks sz n ys))) = some (own' :: st.m) := by
      rw [hset,mset_mset hmA,← h.lv,mset_own hcs,hup]; rfl
     obtain ⟨k1,k2,k3⟩ := chunks_ok (sz := sz) (n := n) (l := ys) (by omega) (fun u hu => by obtain ⟨i,hi⟩ := List.getElem?_of_mem hu; exact ⟨(a6 i u hi).1,(a6 i u hi).2.1⟩)
     have k4 : (chunks sz n ys).flatMap PV.cells = ys := by rw [k3,List.take_of_length_le (by omega)]
     have hdepys : PV.deps (d + 1) ys = true := deps_of_mem fun c hc => by
      obtain ⟨i,hi⟩ := List.getElem?_of_mem hc
      exact ((MC.plain (a6 i c hi).1).1 (a4 i c hi)).2.1
     have hdepx : PV.deps (d + 1) (chunks sz n ys) = true := deps_of_mem fun x hx => dep_of_cells fun c hc => by
      have : c ∈ (chunks sz n ys).flatMap PV.cells := List.mem_flatMap.2 ⟨x,hx,hc⟩
      rw [k4] at this
      exact deps_mem hdepys c this
     have hval : V gB (.lst none false sz (chunks sz n ys)) (.slice (some ⟨b1,o1',none⟩) n c1) := by
      by_cases hc0 : c1 = 0
      ·have hn0 : n = 0 := by omega
       subst hn0; subst hc0
       exact .emp sz _
      ·obtain ⟨q1,q2⟩ := ho1 hc0
       subst q1
       have key := V.lst (g := gB) none sz (chunks sz n ys) b1 o1' c1 (fun i => C1.getD (o1' + i) undef) (fun x hx => (k2 x hx).1) (fun x hx => (k2 x hx).2) (fun i hi => by
        rw [k4] at hi
        exact hGB _ (by omega) (by omega) (by omega)) (fun i c hi => by
        rw [k4] at hi
        exact (a6 i c hi).2.2.mono hleB) (by rw [k1]; exact hc1.1)
       rw [k1] at key
       exact key
     have hjA : (yA.set j (.gone ver sz))[j]? = some (.gone ver sz) := by rw [List.getElem?_set_self hjlt]
     have hiC := hiB.setPlace (g' := gB) (hleB.blk _ _ _ _ hb) hcsA hjA hmB hh (Upd.same hh) rfl (fun _ _ => rfl) (Gh.le.refl gB) rfl rfl rfl (by simp [nextVer]) (fun _ _ _ _ hx => by cases hx) (fun _ _ _ _ hx => by cases hx) (fun l s q y hy => .inl hy)
      (show MC gB d s [] j (.vfrz ver sz (chunks sz n ys)) (C.getD (o + j) undef) from ⟨hdepx,by rw [hrv]; exact hval⟩) (fun _ _ _ _ hx => by cases hx)
     exact ⟨gB,hleB,hiC,rfl⟩
    ·cases he
   ·cases he
  ·cases he; exact ⟨g,Gh.le.refl g,h,rfl⟩
  ·cases he
 ·cases he
theorem Inv.frzs {s b o t : Nat} : ∀ {k j : Nat} {st st' : St} {g : Gh},Inv d nt m0 g0 w0 g om szm st a w → g.blk d s [] = some (b,o,t) → frzs s k j st = some st' → ∃ g',g.le g' ∧ Inv d nt m0 g0 w0 g' om szm st' a w ∧ st'.m = st.m
 | 0,_,st,st',g,h,hb,he => by simp only [Go.Proofs.Ytmffcpiffkclgaa.ZJM.frzs,Option.some.injEq] at he; subst he; exact ⟨g,Gh.le.refl g,h,rfl⟩
 | k + 1,j,st,st',g,h,hb,he => by
  simp only [Go.Proofs.Ytmffcpiffkclgaa.ZJM.frzs] at he
  split at he
  ·rename_i st1 h1
   obtain ⟨g1,hle1,hi1,hm1⟩ := h.frz1 hb h1
   obtain ⟨g2,hle2,hi2,hm2⟩ := Inv.frzs hi1 (hle1.blk _ _ _ _ hb) he
   exact ⟨g2,hle1.trans hle2,hi2,hm2.trans hm1⟩
  ·cases he
end
end Go.Proofs.Ytmffcpiffkclgaa.ZJM
