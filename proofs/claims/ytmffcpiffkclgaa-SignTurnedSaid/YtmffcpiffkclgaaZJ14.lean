/- What a call leaves; how its caller takes it. -/
import Derived.Test.YtmffcpiffkclgaaZJ13
import Derived.CallsIn
import Derived.LoopNIn
import Derived.RangeFuncRecord
set_option linter.unusedSimpArgs false
set_option linter.unusedVariables false
namespace Go.Proofs.Ytmffcpiffkclgaa.ZJM
open Go.RowKit
theorem V.retag1 {g : Gh} {v : PV} {rv : Value} (h : V g v rv) (ρ : Nat → Nat) : V g (v.retag1 ρ) rv := by
 cases h with
 | nil o sz => cases o <;> exact .nil _ sz
 | lst o sz xs b off cap rv hs hu hG hV hc => cases o <;> exact .lst _ sz xs b off cap rv hs hu hG hV hc
 | emp sz a => exact .emp sz a
 | bool b => exact .bool b
 | int k n => exact .int k n
 | str s => exact .str s
 | agg cs vs hn hc hV => exact .agg cs vs hn hc hV
 | tup cs vs hn hV => exact .tup cs vs hn hV
 | nilp => exact .nilp
 | ptr lv sl p off b o t h => exact .ptr lv sl p off b o t h
 | slr lv sl p off n sz b o t off' c h ho hc => exact .slr lv sl p off n sz b o t off' c h ho hc
 | elp x off b base rv hx hu hG hV => exact .elp x off b base rv hx hu hG hV
 | fn f cap vs hn hV => exact .fn f cap vs hn hV
 | bfn f cap vs hn hV => exact .bfn f cap vs hn hV
 | rnd f i fs cap lv sl l r h hok hn hV => exact .rnd f i fs cap lv sl l r h hok hn hV
 | nilfn => exact .nilfn
 | nilif => exact .nilif
 | ifc t v rv h => exact .ifc t v rv h
 | und => exact .und
theorem V.retag {g : Gh} {v : PV} {rv : Value} (h : V g v rv) (ρ : Nat → Nat) : V g (v.retag ρ) rv := by
 cases v with
 | tup cs =>
  cases h with
  | tup _ vs hn hV =>
  refine .tup _ vs (by simpa using hn) fun j c hj => ?_
  rw [List.getElem?_map] at hj
  obtain ⟨u,hu,rfl⟩ := Option.map_eq_some_iff.1 hj
  exact (hV j u hu).retag1 ρ
 | _ => exact h.retag1 ρ
theorem get_append {α : Type} : ∀ (l r : List (Nat × α)) (s : Nat),get (l ++ r) s = match get l s with | some x => some x | none => get r s
 | [],r,s => rfl
 | p :: l,r,s => by
  obtain ⟨k,x⟩ := p
  rw [List.cons_append,get_cons,get_cons]
  by_cases h : k = s
  ·rw [if_pos h,if_pos h]
  ·rw [if_neg h,if_neg h]; exact get_append l r s
theorem get_some_key {α : Type} {l : List (Nat × α)} {s : Nat} {x : α} (h : get l s = some x) : (l.map (·.1)).contains s = true := by
 have := get_mem h
 simpa using ⟨x,this⟩
theorem get_none_key {α : Type} : ∀ {l : List (Nat × α)} {s : Nat},(l.map (·.1)).contains s = false → get l s = none
 | [],_,_ => rfl
 | (k,x) :: l,s,h => by
  simp only [List.map_cons,List.contains_cons,Bool.or_eq_false_iff,beq_eq_false_iff_ne] at h
  rw [get_cons,if_neg (Ne.symm h.1)]
  exact get_none_key h.2
theorem key_get {α : Type} {l : List (Nat × α)} {s : Nat} (h : (l.map (·.1)).contains s = true) : ∃ x,get l s = some x := by
 cases hg : get l s with
 | some x => exact ⟨x,rfl⟩
 | none =>
  exfalso
  induction l with
  | nil => simp at h
  | cons p l ih =>
   obtain ⟨k,x⟩ := p
   rw [get_cons] at hg
   split at hg
   ·cases hg
   ·rename_i hne
    refine ih ?_ hg
    simp only [List.map_cons,List.contains_cons,Bool.or_eq_true,beq_iff_eq] at h
    rcases h with h | h
    ·exact absurd h.symm hne
    ·exact h
structure CallPost (m : Mem) (g : Gh) (w : World) (m' : Mem) (bag : Bag) (v : PV) (g' : Gh) (w' : World) (rv : Value) : Prop where
 rel : Rel g' (bag.obs :: m') w'
 len : m'.length = m.length
 val : V g' v rv
 kp : Kp m.length g w g' w'
 nm : ∀ s p x,g'.blk m.length s p = some x → (bag.obs.map (·.1)).contains s = true
 nmL : ∀ s,g'.lp m.length s = none
 roots : ∀ l s,l < m.length → (mget m' l s []).isSome = (mget m l s []).isSome
 okv : v.okn m.length (bag.obs.map (·.1)) (bag.tops.map (·.1)) = true
 oko : ∀ p ∈ bag.obs,PV.okns m.length (bag.obs.map (·.1)) [] p.2 = true
 nd : (bag.tops.map (·.1)).Nodup
 ag : ∀ cs,v = .agg cs → noTag v
 tg : ∃ om szm,Tg bag.tops om szm v rv ∧ (∀ n p,(n,p) ∈ bag.tops → Own g' w w' om szm n p) ∧
  ∀ n n' p p',n ≠ n' → (n,p) ∈ bag.tops → (n',p') ∈ bag.tops → (om n).ownBlock = none ∨ (om n).ownBlock ≠ (om n').ownBlock
def Ends (P : Program) (rf : Value) (ra : Array Value) (w : World) (R : Value → World → Prop) : Prop :=
 (∃ f first caps fn,rf = .func (.func f) first caps ∧ P.funcs[f]? = some fn ∧ fn.body.isSome = true ∧ fn.name ≠ "runtime.NumGoroutine" ∧
   CallsIn Fence.wide 0 P f (first ++ ra ++ caps) w fun e w' => ∃ rv,e = .returned rv ∧ R rv w') ∨
 (∃ l r,rf = .func (.yield l) #[] #[] ∧ w.heap[l]? = some (.loop r) ∧ ra.size = r.params.size ∧
   RoundIn Fence.wide 0 P l r.fn ((r.params.zip ra).foldl (fun tmps (t,a) => tmps.setIfInBounds t a) r.tmps) r.assign r.body w fun e w' => ∃ rv,e = .returned rv ∧ R rv w')
theorem Ends.mono {P : Program} {rf : Value} {ra : Array Value} {w : World} {R R' : Value → World → Prop} (h : Ends P rf ra w R) (hR : ∀ v w',R v w' → R' v w') : Ends P rf ra w R' := by
 rcases h with ⟨f,first,caps,fn,h1,h2,h3,h4,h5⟩ | ⟨l,r,h1,h2,h3,h4⟩
 ·exact .inl ⟨f,first,caps,fn,h1,h2,h3,h4,h5.mono fun e w' ⟨rv,h6,h7⟩ => ⟨rv,h6,hR _ _ h7⟩⟩
 ·exact .inr ⟨l,r,h1,h2,h3,h4.mono fun e w' ⟨rv,h6,h7⟩ => ⟨rv,h6,hR _ _ h7⟩⟩
abbrev OkP := FuncId → Nat → List Nat → Loop → Prop
abbrev Tab := World
def OkG (okP : OkP × Tab) (g : Gh) (w : World) : Prop := g.ok = okP.1 ∧ okP.2.heap.size ≤ w.heap.size ∧ ∀ b,b < okP.2.heap.size → g.free b ∧ w.heap[b]? = okP.2.heap[b]?
theorem OkG.kp {okP : OkP × Tab} {d : Nat} {g g' : Gh} {w w' : World} (h : OkG okP g w) (k : Kp d g w g' w') : OkG okP g' w' :=
 ⟨k.ok.trans h.1,Nat.le_trans h.2.1 k.size,fun b hb => by
  obtain ⟨h1,h2⟩ := h.2.2 b hb
  have hb' := Nat.lt_of_lt_of_le hb h.2.1
  exact ⟨k.free hb' h1,(k.keep b hb' h1).1.trans h2⟩⟩
def Snd (P : Program) (okP : OkP × Tab) (K : Callee) : Prop :=
 ∀ pr fv args m v bag m',K pr fv args m = some (v,bag,m') → ∀ g w rf (ra : Array Value),OkG okP g w → Rel g m w → V g fv rf → args.length = ra.size → (∀ j c,args[j]? = some c → V g c (ra.getD j undef)) → (∀ c ∈ args,c.untag = c) →
  Ends P rf ra w fun rv w' => ∃ g',CallPost m g w m' bag v g' w' rv
def InvE (d nt : Nat) (m0 : Mem) (g0 : Gh) (w0 : World) (st : St) (a : Act) (w : World) : Prop := ∃ g om szm,Inv d nt m0 g0 w0 g om szm st a w
section
variable {P : Program} {d nt : Nat} {m0 : Mem} {g0 : Gh} {w0 : World} {g : Gh} {om : Nat → Value} {szm : Nat → Nat} {st : St} {a : Act} {w : World}
theorem Inv.tags {ρ : Nat → Nat} (hinj : ∀ s s',ρ s = ρ s' → s = s') {omb : Nat → Value} {szmb : Nat → Nat} (h : Inv d nt m0 g0 w0 g om szm st a w) : ∀ {T : List (Nat × Nat × Nat)},(T.map (·.1)).Nodup →
  (∀ n p,(n,p) ∈ T → get st.tops (ρ n) = none ∧ (∃ vals,w.ownsRow w0.heap.size p.2 (szmb n) (omb n) p.1 vals ∧ ∀ b,(omb n).ownBlock = some b → g.free b ∧ ∀ j,g.G b j = vals[j]?) ∧ ∀ k q b,get st.tops k = some q → (om k).ownBlock = some b → (omb n).ownBlock ≠ some b) →
  (∀ n n' p p',n ≠ n' → (n,p) ∈ T → (n',p') ∈ T → (omb n).ownBlock = none ∨ (omb n).ownBlock ≠ (omb n').ownBlock) →
  ∃ om' szm',Inv d nt m0 g0 w0 g om' szm' { st with tops := T.map (fun p => (ρ p.1,p.2)) ++ st.tops } a w ∧ (∀ n p,(n,p) ∈ T → om' (ρ n) = omb n ∧ szm' (ρ n) = szmb n) ∧ ∀ k,(∀ n p,(n,p) ∈ T → ρ n ≠ k) → om' k = om k ∧ szm' k = szm k
 | [],_,_,_ => ⟨om,szm,h,fun n p hp => (by cases hp),fun _ _ => ⟨rfl,rfl⟩⟩
 | (n,p) :: T,hnd,hf,hap => by
  simp only [List.map_cons,List.nodup_cons] at hnd
  obtain ⟨om1,szm1,h1,h2,h3⟩ := Inv.tags hinj h (T := T) hnd.2 (fun n' p' hm => hf n' p' (List.mem_cons_of_mem _ hm)) (fun n1 n2 p1 p2 hne hm1 hm2 => hap n1 n2 p1 p2 hne (List.mem_cons_of_mem _ hm1) (List.mem_cons_of_mem _ hm2))
  obtain ⟨k1,k2,k3⟩ := hf n p (by simp)
  have hnm : ∀ n' p',(n',p') ∈ T → n' ≠ n := fun n' p' hm he => hnd.1 (by subst he; exact List.mem_map.2 ⟨_,hm,rfl⟩)
  have hold : om1 (ρ n) = om (ρ n) := (h3 (ρ n) fun n' p' hm he => hnm n' p' hm (hinj _ _ he)).1
  have hg : get (T.map (fun p => (ρ p.1,p.2)) ++ st.tops) (ρ n) = none := by
   rw [get_append]
   cases hg : get (T.map fun p => (ρ p.1,p.2)) (ρ n) with
   | none => exact k1
   | some x =>
    have := get_mem hg
    obtain ⟨q,hq,he⟩ := List.mem_map.1 this
    simp only [Prod.mk.injEq] at he
    exact absurd (hinj _ _ he.1) (hnm q.1 q.2 hq)
  refine ⟨_,_,h1.tag (n := ρ n) (p := p) (rv := omb n) (sz := szmb n) (.inl hg) k2 ?_,?_,?_⟩
  ·intro k q b hk hne hb
   rw [get_append] at hk
   cases hgk : get (T.map fun p => (ρ p.1,p.2)) k with
   | some x =>
    obtain ⟨q',hq',he⟩ := List.mem_map.1 (get_mem hgk)
    simp only [Prod.mk.injEq] at he
    obtain ⟨rfl,_⟩ := he
    rw [(h2 q'.1 q'.2 hq').1] at hb
    rcases hap n q'.1 p q'.2 (Ne.symm (hnm _ _ hq')) (by simp) (List.mem_cons_of_mem _ hq') with h5 | h5
    ·rw [h5]; simp
    ·rw [hb] at h5; exact h5
   | none =>
    rw [hgk] at hk
    have : ∀ n' p',(n',p') ∈ T → ρ n' ≠ k := by
     intro n' p' hm he
     subst he
     have hx := get_none_key (l := T.map fun p => (ρ p.1,p.2)) (s := ρ n')
     obtain ⟨x,hx⟩ := key_get (l := T.map fun p => (ρ p.1,p.2)) (s := ρ n') (by simpa using ⟨n',⟨_,_,hm⟩,rfl⟩)
     rw [hgk] at hx; cases hx
    rw [(h3 k this).1] at hb
    exact k3 k q b hk hb
  ·intro n' p' hm
   rcases List.mem_cons.1 hm with he | hm
   ·cases he; simp
   ·have : ρ n' ≠ ρ n := fun he => hnm n' p' hm (hinj _ _ he)
    simp only [this,if_false]
    exact h2 n' p' hm
  ·intro k hk
   have : k ≠ ρ n := fun he => hk n p (by simp) he.symm
   simp only [this,if_false]
   exact h3 k fun n' p' hm => hk n' p' (List.mem_cons_of_mem _ hm)
theorem bagName_inj (dd : Nat) : ∀ s s',bagName dd s = bagName dd s' → s = s' := by
 intro s s' h; unfold bagName at h; omega
theorem Inv.calledMem (h : Inv d nt m0 g0 w0 g om szm st a w) {own' : Lvl} {m' : Mem} {bag : Bag} {v : PV} {g' : Gh} {w' : World} {rv : Value} (hp : CallPost (st.own :: st.m) g w (own' :: m') bag v g' w' rv) {ρ : Nat → Nat} (hinj : ∀ s s',ρ s = ρ s' → s = s')
  (hfree : ∀ k,(bag.obs.map (·.1)).contains k = true → isFree { st with own := own',m := m' } (ρ k) = true) :
  ∃ g'',g.le g'' ∧ Inv d nt m0 g0 w0 g'' om szm { st with own := bag.obs.map (fun p => (ρ p.1,PV.rens (d + 1) d ρ p.2)) ++ own',m := m' } a w' ∧ V g'' (v.ren (d + 1) d ρ) rv ∧ (∀ b,g'.free b → g''.free b) ∧ g''.G = g'.G := by
 have hMl : (st.own :: st.m).length = d + 1 := by simp [h.lv]
 have hlen : m'.length = d := by have := hp.len; simp only [List.length_cons,h.lv] at this; omega
 have hkp : Kp (d + 1) g w g' w' := by have := hp.kp; rwa [hMl] at this
 have hnm : ∀ s p x,g'.blk (d + 1) s p = some x → (bag.obs.map (·.1)).contains s = true := by have := hp.nm; rwa [hMl] at this
 have hnmL : ∀ s,g'.lp (d + 1) s = none := by have := hp.nmL; rwa [hMl] at this
 have hroots : ∀ l s,l < d + 1 → (mget (own' :: m') l s []).isSome = (mget (st.own :: st.m) l s []).isSome := by have := hp.roots; rwa [hMl] at this
 have hokv := hp.okv
 have hoko := hp.oko
 rw [hMl] at hokv hoko
 generalize hks : bag.obs.map (·.1) = ks at *
 have hsame : ∀ s,isFree { st with own := own',m := m' } s = isFree st s := fun s => by
  refine isFree_eq (st := st) (st' := { st with own := own',m := m' }) rfl ?_
  have := hroots d s (by omega)
  rw [mget_cons,mget_cons,hlen,h.lv,if_pos rfl,if_pos rfl,lget_nil,lget_nil] at this
  exact this
 have hnew : ∀ k p x,ks.contains k = true → g'.blk d (ρ k) p ≠ some x := by
  intro k p x hk hx
  obtain ⟨q,y,hy⟩ := hkp.root _ _ _ _ (by omega) hx
  have h1 := h.nm _ _ _ hy
  rw [← hsame,hfree k hk] at h1; cases h1
 have hnewL : ∀ k x,ks.contains k = true → g'.lp d (ρ k) ≠ some x := by
  intro k x hk hx
  rw [hkp.lpl d _ (by omega)] at hx
  have h1 := h.nmL _ _ hx
  rw [← hsame,hfree k hk] at h1; cases h1
 have hinjK : ∀ s s',ks.contains s = true → ks.contains s' = true → ρ s = ρ s' → s = s' := fun s s' _ _ he => hinj s s' he
 let g'' : Gh := { g' with
  blk := fun l s p => if l = d + 1 then none else if l = d then (match ks.find? fun k => ρ k == s with | some k => g'.blk (d + 1) k p | none => g'.blk d s p) else g'.blk l s p
  lp := fun l s => if l = d + 1 then none else g'.lp l s }
 have hb : ∀ l s p x,l ≠ d + 1 → g'.blk l s p = some x → g''.blk l s p = some x := by
  intro l s p x hl hx
  show (if l = d + 1 then none else if l = d then _ else _) = _
  rw [if_neg hl]
  split
  ·rename_i hl2
   subst hl2
   split
   ·rename_i k hk
    obtain ⟨q1,rfl⟩ := find_some hk
    exact absurd hx (hnew k p x q1)
   ·exact hx
  ·exact hx
 have hbn : ∀ s p x,ks.contains s = true → g'.blk (d + 1) s p = some x → g''.blk d (ρ s) p = some x := by
  intro s p x hs hx
  show (if d = d + 1 then none else if d = d then _ else _) = _
  rw [if_neg (by omega),if_pos rfl,find_inj hinjK hs]
  exact hx
 have hr : ∀ l s x,l ≠ d + 1 → g'.lp l s = some x → g''.lp l s = some x := fun l s x hl hx => by
  show (if l = d + 1 then none else _) = _
  rw [if_neg hl]; exact hx
 have hblk : ∀ l s p x,g''.blk l s p = some x → ∃ l0 s0,From (d + 1) d ks ρ l s l0 s0 ∧ g'.blk l0 s0 p = some x := by
  intro l s p x hx
  have hx' : (if l = d + 1 then none else if l = d then (match ks.find? fun k => ρ k == s with | some k => g'.blk (d + 1) k p | none => g'.blk d s p) else g'.blk l s p) = some x := hx
  split at hx'
  ·cases hx'
  ·rename_i hl
   split at hx'
   ·rename_i hl2
    split at hx'
    ·rename_i k hk
     obtain ⟨q1,q2⟩ := find_some hk
     exact ⟨d + 1,k,.inr ⟨rfl,hl2,q2,q1⟩,hx'⟩
    ·subst hl2; exact ⟨l,s,.inl ⟨hl,rfl,rfl⟩,hx'⟩
   ·exact ⟨l,s,.inl ⟨hl,rfl,rfl⟩,hx'⟩
 have hlp : ∀ l s x,g''.lp l s = some x → ∃ l0 s0,From (d + 1) d ks ρ l s l0 s0 ∧ g'.lp l0 s0 = some x := by
  intro l s x hx
  have hx' : (if l = d + 1 then none else g'.lp l s) = some x := hx
  split at hx'
  ·cases hx'
  ·rename_i hl; exact ⟨l,s,.inl ⟨hl,rfl,rfl⟩,hx'⟩
 have hown : ∀ p ∈ bag.obs,ks.contains p.1 = true := fun p hm => by rw [← hks]; simpa using ⟨p.2,hm⟩
 have hgo : ∀ k,ks.contains k = true → get (bag.obs.map fun p => (ρ p.1,PV.rens (d + 1) d ρ p.2)) (ρ k) = (get bag.obs k).map (PV.rens (d + 1) d ρ) := fun k hk => get_map_inj hinjK hown hk
 have hrel : Rel g'' ((bag.obs.map (fun p => (ρ p.1,PV.rens (d + 1) d ρ p.2)) ++ own') :: m') w' := by
  refine hp.rel.ren (n := d + 1) (n' := d) (ks := ks) (ρ := ρ) (.inr rfl) (by simp [hlen]) (by simp [hlen]) (fun l hne hl => ?_) rfl rfl hb hbn hr (fun s x _ hx => by rw [hnmL] at hx; cases hx) hblk hlp hinjK (fun _ k hk => ⟨fun p x => hnew k p x hk,fun x => hnewL k x hk,fun q zs hz => ?_⟩) ?_
  ·simp only [List.length_cons,hlen] at hl ⊢; omega
  ·rw [mget_cons,if_neg (by simp [hlen]),mget_cons,hlen,if_pos rfl] at hz
   obtain ⟨q1,_⟩ := isFree_iff.1 (hfree k hk)
   simp only at q1
   unfold lget at hz
   rw [q1] at hz; cases hz
  ·intro l s q zs' hz
   rw [mget_cons,hlen] at hz
   by_cases hl : l = d
   ·subst hl
    rw [if_pos rfl] at hz
    unfold lget at hz
    rw [get_append] at hz
    cases hg : get (bag.obs.map fun p => (ρ p.1,PV.rens (l + 1) l ρ p.2)) s with
    | some cs =>
     rw [hg] at hz
     simp only at hz
     obtain ⟨p,hpm,rfl⟩ := get_map_from hg
     have hk := hown p hpm
     rw [hgo _ hk] at hg
     obtain ⟨zs,hzs,rfl⟩ := Option.map_eq_some_iff.1 hg
     rw [tget_rens] at hz
     obtain ⟨z2,hz2,rfl⟩ := Option.map_eq_some_iff.1 hz
     refine ⟨l + 1,p.1,z2,.inr ⟨rfl,rfl,rfl,hk⟩,?_,.inr ⟨rfl,rfl,tget_okns (hoko _ (get_mem hzs)) hz2⟩⟩
     rw [mget_cons,if_pos (by simp [hlen])]; unfold lget; rw [hzs]; exact hz2
    | none =>
     rw [hg] at hz
     simp only at hz
     refine ⟨l,s,zs',.inl ⟨by omega,rfl,rfl⟩,?_,.inl ⟨by omega,rfl⟩⟩
     rw [mget_cons,if_neg (by simp [hlen]),mget_cons,hlen,if_pos rfl]
     unfold lget; exact hz
   ·rw [if_neg hl] at hz
    have hlt := mget_lt hz
    refine ⟨l,s,zs',.inl ⟨by omega,rfl,rfl⟩,?_,.inl ⟨by omega,rfl⟩⟩
    rw [mget_cons,if_neg (by simp [hlen]; omega),mget_cons,hlen,if_neg hl]; exact hz
 have hglt : ∀ l s p x,g.blk l s p = some x → l < d + 1 := fun l s p x hx => by have := h.rel.lv _ _ _ _ hx; rwa [hMl] at this
 have hgltL : ∀ l s x,g.lp l s = some x → l < d + 1 := fun l s x hx => by have := h.rel.lpv _ _ _ hx; rwa [hMl] at this
 have hle : g.le g'' := ⟨hkp.G,fun l s p x hx => hb _ _ _ _ (by have := hglt _ _ _ _ hx; omega) (hkp.blk _ _ _ _ (hglt _ _ _ _ hx) hx),fun l s x hx => hr _ _ _ (by have := hgltL _ _ _ hx; omega) (by rw [hkp.lpl _ _ (hgltL _ _ _ hx)]; exact hx),hkp.ok⟩
 have hV : V g'' (v.ren (d + 1) d ρ) rv := V.ren (g := g') (g' := g'') (n := d + 1) (n' := d) (ρ := ρ) (ks := ks) (ts := bag.tops.map (·.1)) (fun _ _ _ x => x) hb hbn hr (fun s x _ hx => by rw [hnmL] at hx; cases hx) rfl hp.val hokv
 have hfreeG : ∀ b,g'.free b → g''.free b := fun b hf => ⟨fun l s p o t hh => by obtain ⟨l0,s0,_,h2⟩ := hblk _ _ _ _ hh; exact hf.1 _ _ _ _ _ h2,fun l s r hh => by obtain ⟨l0,s0,_,h2⟩ := hlp _ _ _ hh; exact hf.2 _ _ _ h2⟩
 refine ⟨g'',hle,?_,hV,hfreeG,rfl⟩
 have hfr : ∀ s,isFree st s = false → isFree { st with own := bag.obs.map (fun p => (ρ p.1,PV.rens (d + 1) d ρ p.2)) ++ own',m := m' } s = false := by
  intro s hs
  cases hf : isFree { st with own := bag.obs.map (fun p => (ρ p.1,PV.rens (d + 1) d ρ p.2)) ++ own',m := m' } s with
  | false => rfl
  | true =>
   obtain ⟨q1,q2⟩ := isFree_iff.1 hf
   simp only at q1 q2
   rw [get_append] at q1
   split at q1
   ·cases q1
   ·have : isFree { st with own := own',m := m' } s = true := isFree_iff.2 ⟨q1,q2⟩
    rw [hsame,hs] at this; cases this
 have hfr2 : ∀ k,ks.contains k = true → isFree { st with own := bag.obs.map (fun p => (ρ p.1,PV.rens (d + 1) d ρ p.2)) ++ own',m := m' } (ρ k) = false := by
  intro k hk
  cases hf : isFree { st with own := bag.obs.map (fun p => (ρ p.1,PV.rens (d + 1) d ρ p.2)) ++ own',m := m' } (ρ k) with
  | false => rfl
  | true =>
   obtain ⟨q1,q2⟩ := isFree_iff.1 hf
   simp only at q1
   rw [get_append,hgo k hk] at q1
   obtain ⟨x,hx⟩ := key_get (l := bag.obs) (s := k) (by rw [hks]; exact hk)
   rw [hx] at q1; cases q1
 refine h.turn (own' := bag.obs.map (fun p => (ρ p.1,PV.rens (d + 1) d ρ p.2)) ++ own') (dead' := st.dead) (m' := m') hle hrel hlen ⟨hkp.size,fun b hb' hf => hkp.keep b hb' hf,hkp.G,fun l s p x hl hx => hle.blk _ _ _ _ hx,fun l s hl => ?_,fun l s p b o t hx => ?_,fun l s b r hx => ?_,fun l s p x hl hx => ?_,hkp.os,hkp.tape,hkp.output,hkp.ok⟩ (fun s p x hx => ?_) (fun s x hx => ?_) (fun l s hl => ?_)
 ·show (if l = d + 1 then none else g'.lp l s) = _
  rw [if_neg (by omega)]; exact hkp.lpl l s (by omega)
 ·obtain ⟨l0,s0,_,h2⟩ := hblk _ _ _ _ hx
  exact hkp.new _ _ _ _ _ _ h2
 ·obtain ⟨l0,s0,_,h2⟩ := hlp _ _ _ hx
  exact hkp.newL _ _ _ _ h2
 ·obtain ⟨l0,s0,f0,h2⟩ := hblk _ _ _ _ hx
  rcases f0 with ⟨b1,rfl,rfl⟩ | ⟨_,b2,_⟩
  ·exact hkp.root _ _ _ _ (by omega) h2
  ·omega
 ·obtain ⟨l0,s0,f0,h2⟩ := hblk _ _ _ _ hx
  rcases f0 with ⟨b1,rfl,rfl⟩ | ⟨_,_,rfl,hk⟩
  ·obtain ⟨q,y,hy⟩ := hkp.root _ _ _ _ (by omega) h2
   exact hfr s (h.nm _ _ _ hy)
  ·exact hfr2 _ hk
 ·obtain ⟨l0,s0,f0,h2⟩ := hlp _ _ _ hx
  rcases f0 with ⟨b1,rfl,rfl⟩ | ⟨rfl,_,_,_⟩
  ·rw [hkp.lpl _ _ (by omega)] at h2
   exact hfr s (h.nmL _ _ h2)
  ·rw [hnmL] at h2; cases h2
 ·have := hroots l s (by omega)
  rwa [mget_callers (by omega),mget_callers (by rw [h.lv]; exact hl)] at this
theorem ownsRow_base {b b' : Nat} {e : TypeId} {size : Nat} {v : Value} {n : Nat} {xs : List Value} (h : w.ownsRow b e size v n xs) (hb : b' ≤ b) : w.ownsRow b' e size v n xs := by
 refine ⟨h.1,?_⟩
 rcases h.2 with h2 | ⟨g,cap,cur,h1,h2,h3⟩
 ·exact .inl h2
 ·exact .inr ⟨g,cap,cur,h1,Nat.le_trans hb h2,h3⟩
theorem Inv.calledLe (h : Inv d nt m0 g0 w0 g om szm st a w) {own' : Lvl} {m' : Mem} {bag : Bag} {v : PV} {g' : Gh} {w' : World} {rv : Value} (hp : CallPost (st.own :: st.m) g w (own' :: m') bag v g' w' rv) {dst : Option Nat} (hd : ∀ t,dst = some t → t < nt) {st' : St}
  (hu : unpack { st with own := own',m := m' } dst v bag = some st') : ∃ g'',g.le g'' ∧ ∃ om'' szm'',Inv d nt m0 g0 w0 g'' om'' szm'' st' (a.put dst rv) w' := by
 have hMl : (st.own :: st.m).length = d + 1 := by simp [h.lv]
 obtain ⟨omb,szmb,ht1,ht2,ht3⟩ := hp.tg
 unfold unpack at hu
 split at hu
 ·rename_i ho ht
  cases hu
  obtain ⟨g'',hle,hi,hV,_,_⟩ := h.calledMem hp (ρ := fun s => s) (fun s s' he => he) (fun k hk => by rw [ho] at hk; simp at hk)
  rw [ho] at hi
  have hnm := hp.nm
  have hlv := hp.rel.lv
  rw [hMl] at hnm
  rw [ho] at hnm hlv
  have hren : v.ren (d + 1) d (fun s => s) = v := ren_id v (hp.val.depAll (fun l s p x hx => by
   have h1 := hlv _ _ _ _ hx
   have h2 := hp.len
   simp only [List.length_cons,h.lv] at h1 h2
   rcases Nat.lt_or_ge l (d + 1) with h3 | h3
   ·exact h3
   ·have h4 : l = d + 1 := by omega
    subst h4
    have := hnm _ _ _ hx; simp at this) (fun l s x hx => by
   have h1 := hp.rel.lpv _ _ _ hx
   have h2 := hp.len
   have h3 := hp.nmL
   rw [hMl] at h3
   simp only [List.length_cons,h.lv] at h1 h2
   rcases Nat.lt_or_ge l (d + 1) with h4 | h4
   ·exact h4
   ·have h5 : l = d + 1 := by omega
    subst h5
    rw [h3] at hx; cases hx))
  rw [hren] at hV
  refine ⟨g'',hle,om,szm,hi.put hd hV ?_⟩
  rw [ht] at ht1
  refine Tg.of_cells (fun u r hh => ?_) ht1
  cases u with
  | lst o nl sz xs =>
   cases o with
   | none => trivial
   | some t => obtain ⟨q,hq,_⟩ := hh; simp [get] at hq
  | _ => trivial
 ·split at hu
  ·rename_i dd
   split at hu
   ·rename_i hcond
    cases hu
    simp only [Bool.and_eq_true,List.all_eq_true] at hcond
    obtain ⟨hc1,hc2⟩ := hcond
    obtain ⟨g'',hle,hi,hV,hfr,hG⟩ := h.calledMem hp (ρ := bagName dd) (bagName_inj dd) (fun k hk => by
     obtain ⟨x,hx⟩ := key_get hk
     exact hc1 _ (get_mem hx))
    obtain ⟨om',szm',h1,h2,h3⟩ := hi.tags (bagName_inj dd) (omb := omb) (szmb := szmb) (T := bag.tops) hp.nd (fun n p hm => by
     have hn := hc2 _ hm
     simp only [Option.isNone_iff_eq_none] at hn
     obtain ⟨vals,q1,q2⟩ := ht2 n p hm
     refine ⟨hn,⟨vals,ownsRow_base q1 h.kp.size,fun b hb => ⟨hfr b (q2 b hb).1,fun j => by rw [hG]; exact (q2 b hb).2 j⟩⟩,fun k q b hk hb he => ?_⟩
     have := (h.ownLt hk hb).2
     have := (q1.lt b he).1
     omega) ht3
    simp only [h.lv] at h1 hV ⊢
    have hlv' : m'.length = d := by have := hp.len; simp only [List.length_cons,h.lv] at this; omega
    refine ⟨g'',hle,om',szm',?_⟩
    rw [hlv']
    refine h1.put (dst := some dd) hd (hV.retag (bagName dd)) ?_
    have hT : ∀ u r,TgC bag.tops omb szmb u r → TgC (bag.tops.map (fun p => (bagName dd p.1,p.2)) ++ st.tops) om' szm' ((u.ren (d + 1) d (bagName dd)).retag1 (bagName dd)) r := by
     intro u r hh
     cases u with
     | lst o nl sz xs =>
      cases o with
      | none => trivial
      | some t =>
       obtain ⟨q,q1,q2,q3⟩ := hh
       have hm := get_mem q1
       obtain ⟨k1,k2⟩ := h2 t q hm
       refine ⟨q,?_,by rw [rens_length]; exact q2,fun he => ?_⟩
       ·rw [get_append]
        have : get (bag.tops.map fun p => (bagName dd p.1,p.2)) (bagName dd t) = some q := by
         have := get_map_inj (K := bag.tops.map (·.1)) (ρ := bagName dd) (F := fun x => x) (fun s s' _ _ he => bagName_inj dd s s' he) (l := bag.tops) (fun p hp => by simpa using ⟨p.2.1,p.2.2,hp⟩) (k := t) (get_some_key q1)
         rw [this,q1]; rfl
        rw [this]
       ·rw [rens_length] at he
        obtain ⟨q4,q5⟩ := q3 he
        exact ⟨by rw [k1]; exact q4,by rw [k2]; exact q5⟩
     | ptr l s p off => by_cases hl : (l == d + 1) = true <;> simp [PV.ren,hl,PV.retag1,TgC]
     | slr l s p off k sz => by_cases hl : (l == d + 1) = true <;> simp [PV.ren,hl,PV.retag1,TgC]
     | _ => trivial
    cases v with
    | agg cs =>
     have hno := hp.ag cs rfl
     refine Tg_no ?_
     intro c hc
     obtain ⟨u,hu,rfl⟩ := rens_mem hc
     rw [ren_untag1,hno u hu]
    | tup cs =>
     intro vs hvs j c hj
     rw [List.getElem?_map,rens_get] at hj
     simp only [Option.map_map] at hj
     obtain ⟨u,hu',rfl⟩ := Option.map_eq_some_iff.1 hj
     exact hT _ _ (ht1 vs hvs j u hu')
    | ptr l s p off => by_cases hl : (l == d + 1) = true <;> simp [PV.ren,hl,PV.retag,PV.retag1,Tg,TgC]
    | slr l s p off k sz => by_cases hl : (l == d + 1) = true <;> simp [PV.ren,hl,PV.retag,PV.retag1,Tg,TgC]
    | lst o nl sz xs =>
     have := hT (.lst o nl sz xs) _ ht1
     cases o <;> exact this
    | _ => exact trivial
   ·cases hu
  ·cases hu
theorem Inv.called (h : Inv d nt m0 g0 w0 g om szm st a w) {own' : Lvl} {m' : Mem} {bag : Bag} {v : PV} {g' : Gh} {w' : World} {rv : Value} (hp : CallPost (st.own :: st.m) g w (own' :: m') bag v g' w' rv) {dst : Option Nat} (hd : ∀ t,dst = some t → t < nt) {st' : St}
  (hu : unpack { st with own := own',m := m' } dst v bag = some st') : InvE d nt m0 g0 w0 st' (a.put dst rv) w' := by
 obtain ⟨g'',_,om'',szm'',h1⟩ := h.calledLe hp hd hu
 exact ⟨g'',om'',szm'',h1⟩
end
end Go.Proofs.Ytmffcpiffkclgaa.ZJM
set_option linter.unusedSimpArgs false
set_option linter.unusedVariables false
namespace Go.Proofs.Ytmffcpiffkclgaa.ZJM
open Go.RowKit
section
variable {P : Program} {okP : OkP × Tab} {d nt : Nat} {m0 : Mem} {g0 : Gh} {w0 : World} {g : Gh} {om : Nat → Value} {szm : Nat → Nat} {st : St} {a : Act} {w : World}
def chkDst (nt : Nat) (o : Oper) (c : COp) : Bool :=
 decide (o.dst = c.dst) && (match c.dst with | some t => decide (t < nt) | none => true) && (match c.op with | .store _ => c.dst.isNone | _ => true)
def Fw (ro : Option Nat) : Fence := { fn := fun _ => True,depth := none,alive := false,round := ro }
theorem call_upon {ro : Option Nat} {o : Oper} {f : FuncId} {ra : Array Value} {next : Act → World → Prop} {Q : Exit → Act → World → Prop} {R : Value → World → Prop}
  (hr : (execOp a.eval o).run P w = .ok (.enter f ra) w) (hc : CallsIn Fence.wide 0 P f ra w fun e w' => ∃ rv,e = .returned rv ∧ R rv w') (hn : ∀ rv w',R rv w' → next (a.put o.dst rv) w') :
  o.uponIn (Fw ro) 0 P a next Q ((execOp a.eval o).run P w) := by
 rw [hr,Oper.uponIn_enter]
 refine ⟨fun h => by simp [Fw] at h,?_⟩
 have hc' : CallsIn (Fw ro) 0 P f ra w fun e w' => ∃ rv,e = .returned rv ∧ R rv w' := hc
 refine hc'.mono ?_
 rintro e w' ⟨rv,rfl,h⟩
 exact hn rv w' h
theorem round_upon {ro : Option Nat} {o : Oper} {l : Nat} {f : FuncId} {tmps : Array Value} {assign body : Code} {next : Act → World → Prop} {Q : Exit → Act → World → Prop} {R : Value → World → Prop}
  (hr : (execOp a.eval o).run P w = .ok (.round l f tmps assign body) w) (hc : RoundIn Fence.wide 0 P l f tmps assign body w fun e w' => ∃ rv,e = .returned rv ∧ R rv w') (hn : ∀ rv w',R rv w' → next (a.put o.dst rv) w') :
  o.uponIn (Fw ro) 0 P a next Q ((execOp a.eval o).run P w) := by
 rw [hr,Oper.uponIn_round]
 refine ⟨fun h => by simp [Fw] at h,?_⟩
 have hc' : RoundIn (Fw ro) 0 P l f tmps assign body w fun e w' => ∃ rv,e = .returned rv ∧ R rv w' := hc
 refine hc'.mono ?_
 rintro e w' ⟨rv,rfl,h⟩
 exact hn rv w' h
theorem callEv_ok {K : Callee} (hK : Snd P okP K) (hok : OkG okP g0 w0) (h : Inv d nt m0 g0 w0 g om szm st a w) {dst : Option Nat} (hd : ∀ t,dst = some t → t < nt) {fv : PV} {vs : List PV} {rf : Value} {ra : Array Value} (hf : V g fv rf) (hl : vs.length = ra.size)
  (ha : ∀ j c,vs[j]? = some c → V g c (ra.getD j undef)) {pr : Bool} {st' : St} (he : callEv K pr st dst fv vs = some st') : Ends P rf ra w fun rv w' => InvE d nt m0 g0 w0 st' (a.put dst rv) w' := by
 unfold callEv at he
 split at he
 ·rename_i v b own' m' hKe
  refine (hK _ _ _ _ _ _ _ hKe g w rf ra (hok.kp h.kp) h.rel hf (by simpa using hl) (fun j c hj => ?_) (fun c hc => ?_)).mono ?_
  ·rw [List.getElem?_map] at hj
   obtain ⟨u,hu,rfl⟩ := Option.map_eq_some_iff.1 hj
   exact (ha j u hu).untag
  ·obtain ⟨u,_,rfl⟩ := List.mem_map.1 hc; exact untag_untag u
  ·rintro rv w' ⟨g',hp⟩
   exact h.called hp hd he
 ·cases he
theorem args_V {as : Array Operand} {vs : List PV} (hl : as.toList.length = vs.length) (hV : ∀ (i : Nat) (v : PV) (x : Operand),vs[i]? = some v → as.toList[i]? = some x → V g v (a.eval x)) :
  vs.length = (as.map a.eval).size ∧ ∀ j c,vs[j]? = some c → V g c ((as.map a.eval).getD j undef) := by
 refine ⟨by simpa using hl.symm,fun j c hj => ?_⟩
 have hlt : j < as.size := by have := (List.getElem?_eq_some_iff.1 hj).1; simp at hl; omega
 have := hV j c as[j] hj (by simp [hlt])
 simpa [hlt] using this
theorem callH_ok {K : Callee} (hK : Snd P okP K) (hok : OkG okP g0 w0) (h : Inv d nt m0 g0 w0 g om szm st a w) {fv v : PV} {vs : List PV} {rf : Value} {ra : Array Value}
  (he : callH K fv vs = some v) (hf : V g fv rf) (hl : vs.length = ra.size) (ha : ∀ j c,vs[j]? = some c → V g c (ra.getD j undef)) :
  Ends P rf ra w fun rv w' => ∃ g',Inv d nt m0 g0 w0 g' om szm st a w' ∧ V g' v rv ∧ Tg st.tops om szm v rv := by
 simp only [callH] at he
 split at he
 ·rename_i hdep
  simp only [Bool.and_eq_true] at hdep
  split at he
  ·rename_i v' b hKe
   split at he
   ·rename_i hbo hbt
    cases he
    let g1 : Gh := { g with blk := fun _ _ _ => none,lp := fun _ _ => none }
    have hV : ∀ u r,V g u r → u.dep 0 = true → V g1 u r := fun u r hu hd => V.under (g := g) (g' := g1) (n := 0) (fun _ _ _ x => x) (fun l s p hl => by omega) (fun l s hl => by omega) rfl hu hd
    have hR : Rel g1 [] w := ⟨h.rel.hG,(fun l s p b o t hb => by cases hb),(fun l s b r hb => by cases hb),(fun l s p l' s' p' b o t o' t' cs cs' hb => by cases hb),(fun l s l' s' b r r' cs cs' hb => by cases hb),(fun l s p j v x hb => by cases hb),(fun l s p x hb => by cases hb),(fun l s x hb => by cases hb),(fun l s p b o t hb => by cases hb),(fun l s b r hb => by cases hb),(fun l s q x y hb => by cases hb)⟩
    refine (hK _ _ _ _ _ _ _ hKe g1 w rf ra ⟨(hok.kp h.kp).1,(hok.kp h.kp).2.1,fun b hb => ⟨⟨(fun _ _ _ _ _ hh => by cases hh),(fun _ _ _ hh => by cases hh)⟩,((hok.kp h.kp).2.2 b hb).2⟩⟩ hR (hV _ _ hf hdep.1) (by simpa using hl)
     (fun j c hj => by
      have hj' := hj
      rw [List.getElem?_map] at hj
      obtain ⟨u,hu,rfl⟩ := Option.map_eq_some_iff.1 hj
      exact hV _ _ (ha j u hu).untag (deps_mem hdep.2 _ (getElem?_mem' hj')))
     (fun c hc => by obtain ⟨u,_,rfl⟩ := List.mem_map.1 hc; exact untag_untag u)).mono ?_
    rintro rv w' ⟨g2,hp⟩
    have hk : Kp 0 g1 w g2 w' := hp.kp
    have hfree1 : ∀ b,g1.free b := fun b => ⟨(fun _ _ _ _ _ hh => by cases hh),(fun _ _ _ hh => by cases hh)⟩
    have hold : ∀ b,b < w.heap.size → w'.heap[b]? = w.heap[b]? ∧ ∀ q,g2.G b q = g.G b q := fun b hb => hk.keep b hb (hfree1 b)
    let g3 : Gh := { g2 with blk := g.blk,lp := g.lp }
    have hle : g.le g3 := ⟨fun b o u hu => hk.G b o u hu,fun _ _ _ _ x => x,fun _ _ _ x => x,hk.ok⟩
    have hb2 : ∀ l s p x,g2.blk l s p = some x → False := fun l s p x hx => by
     have h1 := hp.rel.lv _ _ _ _ hx
     simp only [List.length_cons,List.length_nil] at h1
     have h2 : l = 0 := by omega
     subst h2
     have := hp.nm _ _ _ hx
     rw [hbo] at this; simp at this
    have hl2 : ∀ l s x,g2.lp l s = some x → False := fun l s x hx => by
     have h1 := hp.rel.lpv _ _ _ hx
     simp only [List.length_cons,List.length_nil] at h1
     have h2 : l = 0 := by omega
     subst h2
     have h3 := hp.nmL s
     simp only [List.length_nil] at h3
     rw [h3] at hx; cases hx
    have hle2 : g2.le g3 := ⟨fun _ _ _ x => x,fun l s p x hx => (hb2 _ _ _ _ hx).elim,fun l s x hx => (hl2 _ _ _ hx).elim,rfl⟩
    obtain ⟨omb,szmb,ht,_⟩ := hp.tg
    refine ⟨g3,?_,hp.val.mono hle2,?_⟩
    ·have hrel : Rel g3 (st.own :: st.m) w' := h.rel.world hk.size hp.rel.hG hle.G rfl rfl hk.ok (fun b C E hb _ => by
      have hlt := (Array.getElem?_eq_some_iff.1 hb).1
      exact ⟨by rw [(hold b hlt).1]; exact hb,(hold b hlt).2⟩) (fun b r hb => by
      have hlt := (Array.getElem?_eq_some_iff.1 hb).1
      rw [(hold b hlt).1]; exact hb)
     exact h.turn (own' := st.own) (dead' := st.dead) (m' := st.m) hle hrel h.lv ⟨hk.size,fun b hb _ => hold b hb,hle.G,fun _ _ _ _ _ x => x,fun _ _ _ => rfl,fun l s p b o t x => .inl ⟨l,s,p,o,t,x⟩,fun l s b r x => .inl ⟨l,s,r,x⟩,fun l s p x _ y => ⟨p,x,y⟩,hk.os,hk.tape,hk.output,hk.ok⟩ h.nm h.nmL (fun _ _ _ => rfl)
    ·rw [hbt] at ht
     refine Tg.of_cells (fun u r hh => ?_) ht
     cases u with
     | lst o nl sz xs =>
      cases o with
      | none => trivial
      | some t => obtain ⟨q,hq,_⟩ := hh; simp [get] at hq
     | _ => trivial
   ·cases he
  ·cases he
 ·cases he
theorem call_step {ro : Option Nat} {o : Oper} {f : FuncId} {as : Array Operand} {next : Act → World → Prop} {Q : Exit → Act → World → Prop} {R : Value → World → Prop} {c : Call} (ho : o.op = .call c) (hc : c.callee = .value (.func f)) (has : c.args = as)
  (he : Ends P (.func (.func f) #[] #[]) (as.map a.eval) w R) (hn : ∀ rv w',R rv w' → next (a.put o.dst rv) w') : o.uponIn (Fw ro) 0 P a next Q ((execOp a.eval o).run P w) := by
 obtain ⟨callee,args,ts⟩ := c
 simp only at hc has
 subst hc; subst has
 rcases he with ⟨f0,first,caps,fn,hrf,hfn,hbody,hname,hc⟩ | ⟨l,r,hrf,_⟩
 ·injection hrf with hrf1 hrf2 hrf3
  injection hrf1 with hrf1
  subst hrf1; subst hrf2; subst hrf3
  refine call_upon (f := f) (ra := #[] ++ args.map a.eval ++ #[]) ?_ hc hn
  simp [execOp,ho,resolve,invoke,callFunc,Deferred.ofValue,Act.eval,hfn,hname,Option.isNone_iff_eq_none,Option.isSome_iff_ne_none.1 hbody]
 ·injection hrf with hrf1; cases hrf1
theorem callv_step {ro : Option Nat} {o : Oper} {x : Operand} {as : Array Operand} {next : Act → World → Prop} {Q : Exit → Act → World → Prop} {R : Value → World → Prop} {c : Call} (ho : o.op = .call c) (hc : c.callee = .value x) (has : c.args = as)
  (he : Ends P (a.eval x) (as.map a.eval) w R) (hn : ∀ rv w',R rv w' → next (a.put o.dst rv) w') : o.uponIn (Fw ro) 0 P a next Q ((execOp a.eval o).run P w) := by
 obtain ⟨callee,args,ts⟩ := c
 simp only at hc has
 subst hc; subst has
 rcases he with ⟨f0,first,caps,fn,hrf,hfn,hbody,hname,hc⟩ | ⟨l,r,hrf,hlo,hsz,hc⟩
 ·refine call_upon (f := f0) (ra := first ++ args.map a.eval ++ caps) ?_ hc hn
  simp [execOp,ho,resolve,invoke,callFunc,Deferred.ofValue,hrf,hfn,hname,Option.isNone_iff_eq_none,Option.isSome_iff_ne_none.1 hbody]
 ·refine round_upon ?_ hc hn
  have := run_yield (P := P) hlo hsz
  simp [execOp,ho,resolve,invoke,callFunc,Deferred.ofValue,hrf,this]
theorem op_ok {ro : Option Nat} {K : Callee} (hK : Snd P okP K) (hok : OkG okP g0 w0) (h : Inv d nt m0 g0 w0 g om szm st a w) {o : Oper} {c : COp} (hk : chkC P o.op c.op c.args = true) (hdst : chkDst nt o c = true) {vs : List PV} (hv : evs st.f c.args = some vs) {st' : St}
  (he : opEv K c.dst c.op vs st = some st') {next : Act → World → Prop} {Q : Exit → Act → World → Prop} (hn : ∀ a' w',InvE d nt m0 g0 w0 st' a' w' → next a' w') :
  o.uponIn (Fw ro) 0 P a next Q ((execOp a.eval o).run P w) := by
 simp only [chkDst,Bool.and_eq_true,decide_eq_true_eq] at hdst
 obtain ⟨⟨hd1,hd2⟩,hd3⟩ := hdst
 have hd : ∀ t,c.dst = some t → t < nt := fun t ht => by rw [ht] at hd2; simpa using hd2
 have pure_case : ∀ v,c.op.ev st.own st.m vs = some v → st' = st.put c.dst v → o.uponIn (Fw ro) 0 P a next Q ((execOp a.eval o).run P w) := by
  intro v hv' hst
  obtain ⟨r,h1,h2,h3⟩ := pure_ok h hk hv hv'
  rw [h1,Oper.uponIn_value,hd1]
  exact hn _ _ ⟨g,om,szm,hst ▸ h.put hd h2 h3⟩
 obtain ⟨cdst,cg,cop,cargs⟩ := c
 simp only at hk hv he hd1 hd2 hd3 hd pure_case
 obtain ⟨dst,op,ty,pos,aft,gd⟩ := o
 simp only at hd1 hk
 subst hd1
 cases cop
 case store sz =>
  simp only [opEv] at he
  simp only [chkC] at hk
  split at hk
  ·rename_i t x y
   simp only [Bool.and_eq_true,beq_iff_eq] at hk
   obtain ⟨u,v',rfl,h1,h2⟩ := opds2 h hk.2 hv
   simp only [on2] at he
   obtain ⟨w',g',h3,h4⟩ := store_ok h hk.1 h1.1 h2.1 he
   have hdn : dst = none := by simpa using hd3
   subst hdn
   have hr : (execOp a.eval ⟨none,.store t x y,ty,pos,aft,gd⟩).run P w = .ok .skip w' := by simp only [execOp,Sem.run_bind,h3,Result.andThen_ok,Sem.run_pure]
   rw [hr,Oper.uponIn_skip]
   exact hn _ _ ⟨g',om,szm,h4⟩
  ·cases hk
 case alloc z =>
  simp only [opEv] at he
  simp only [chkC] at hk
  split at hk
  ·rename_i t
   simp only [Bool.and_eq_true] at hk
   obtain ⟨zv,hz1,hz2,hz3,hz4⟩ := zeroOk_spec hk.1
   obtain ⟨g',h4⟩ := h.newVar (E := t) hd hz2 (fun j c hj => ⟨(hz3 c (getElem?_mem' hj)).1,hz4 g j c hj⟩) he
   have hr : (execOp a.eval ⟨dst,.alloc t,ty,pos,aft,gd⟩).run P w = .ok (.value (.pointer (some ⟨w.heap.size,0,none⟩))) (w.alloc (.cells zv.cells t (0,0))) := by
    simp only [execOp,Instr.alloc,Sem.run_bind,run_zero hz1,Result.andThen_ok,newVar,newRow,run_newObj,Sem.run_pure,Go.newVar]
    rfl
   rw [hr,Oper.uponIn_value]
   exact hn _ _ ⟨g',om,szm,h4⟩
  ·cases hk
 case mks sz bytes z =>
  simp only [opEv] at he
  simp only [chkC] at hk
  split at hk
  ·rename_i t x y
   simp only [Bool.and_eq_true] at hk
   obtain ⟨hf,hk⟩ := hk
   split at hf
   ·rename_i e hse
    simp only [Bool.and_eq_true,beq_iff_eq] at hf
    obtain ⟨⟨hel,hzo⟩,hzl⟩ := hf
    obtain ⟨u,v',rfl,h1,h2⟩ := opds2 h hk hv
    simp only [on2] at he
    simp only [elemOk] at hel
    split at hel
    ·rename_i i hi
     simp only [Bool.and_eq_true,beq_iff_eq,decide_eq_true_eq] at hel
     obtain ⟨⟨⟨⟨_,hsz⟩,hb⟩,hsz0⟩,hb0⟩ := hel
     obtain ⟨zv,hz1,hz2,hz3,hz4⟩ := zeroOk_spec hzo
     obtain ⟨r,w',g',h3,h4⟩ := mks_ok h (isSlice_eq hse) hi hsz hb hsz0 hb0 hz1 hz2 hz3 hz4 hzl hd h1.1 h2.1 he
     have hr : (execOp a.eval ⟨dst,.makeSlice t x y,ty,pos,aft,gd⟩).run P w = .ok (.value r) w' := by
      simp only [execOp,Sem.run_bind,h3,Result.andThen_ok,Sem.run_pure]
     rw [hr,Oper.uponIn_value]
     exact hn _ _ ⟨g',om,szm,h4⟩
    ·cases hel
   ·cases hf
  ·cases hk
 case s2b tag e =>
  simp only [opEv] at he
  simp only [chkC] at hk
  split at hk
  ·rename_i s dT x
   simp only [Bool.and_eq_true,beq_iff_eq,Bool.not_eq_true'] at hk
   obtain ⟨⟨⟨⟨hk1,hk2⟩,hk3⟩,rfl⟩,hk⟩ := hk
   obtain ⟨u,rfl,h1,_⟩ := opds1 h hk hv
   simp only [on1] at he
   obtain ⟨r,w',g',h3,h4⟩ := s2b_ok h (isStr_eq hk1) (isSlice_eq hk2) (isInt_eq hk3) hd h1 he
   have hr : (execOp a.eval ⟨dst,.convert s dT x,ty,pos,aft,gd⟩).run P w = .ok (.value r) w' := by
    simp only [execOp,Sem.run_bind,h3,Result.andThen_ok,Sem.run_pure]
   rw [hr,Oper.uponIn_value]
   exact hn _ _ ⟨g',om,szm,h4⟩
  ·cases hk
 case fload ag sz =>
  simp only [opEv] at he
  simp only [chkC] at hk
  split at hk
  ·rename_i t x
   simp only [Bool.and_eq_true,beq_iff_eq] at hk
   obtain ⟨u,rfl,h1,_⟩ := opds1 h hk.2 hv
   simp only [on1] at he
   obtain ⟨r,g',h3,h4⟩ := fload_ok h hk.1.1 hk.1.2 hd h1 he
   have hr : (execOp a.eval ⟨dst,.load t x,ty,pos,aft,gd⟩).run P w = .ok (.value r) w := by
    simp only [execOp,Sem.run_bind,h3,Result.andThen_ok,Sem.run_pure]
   rw [hr,Oper.uponIn_value]
   exact hn _ _ ⟨g',om,szm,h4⟩
  ·cases hk
 case cpy sz =>
  simp only [opEv] at he
  simp only [chkC] at hk
  split at hk
  ·rename_i as ts
   simp only [Bool.and_eq_true] at hk
   obtain ⟨hk1,hk3⟩ := hk
   split at hk1
   ·rename_i t t2 hts
    split at hk1
    ·rename_i e hse
     have hs := beq_iff_eq.1 hk1
     split at hk3
     ·rename_i x y has
      obtain ⟨u,v',rfl,h1,h2⟩ := opds2 h hk3 hv
      simp only [on2] at he
      have has' : as = #[x,y] := by apply Array.ext'; simpa using has
      have hts' : ts = #[t,t2] := by apply Array.ext'; simpa using hts
      subst has'; subst hts'
      obtain ⟨r,w',h3,h4⟩ := cpy_ok (P := P) (sT := t2) (ty := ty) h (isSlice_eq hse) hs hd h1.1 h2.1 he
      have hr : (execOp a.eval ⟨dst,.call { callee := .builtin .copy,args := #[x,y],argTypes := #[t,t2] },ty,pos,aft,gd⟩).run P w = .ok (.value r) w' := by
       simp [execOp,resolve,invoke,builtin,h3]
      rw [hr,Oper.uponIn_value]
      exact hn _ _ ⟨g,om,szm,h4⟩
     ·cases hk3
    ·cases hk1
   ·cases hk1
  ·cases hk
 case cpys =>
  simp only [opEv] at he
  simp only [chkC] at hk
  split at hk
  ·rename_i as ts
   simp only [Bool.and_eq_true] at hk
   obtain ⟨hk1,hk3⟩ := hk
   split at hk1
   ·rename_i t t2 hts
    split at hk1
    ·rename_i e hse
     have hs := beq_iff_eq.1 hk1
     split at hk3
     ·rename_i x y has
      obtain ⟨u,v',rfl,h1,h2⟩ := opds2 h hk3 hv
      simp only [on2] at he
      have has' : as = #[x,y] := by apply Array.ext'; simpa using has
      have hts' : ts = #[t,t2] := by apply Array.ext'; simpa using hts
      subst has'; subst hts'
      obtain ⟨r,w',h3,h4⟩ := cpys_ok (P := P) (sT := t2) (ty := ty) h (isSlice_eq hse) hs hd h1.1 h2.1 he
      have hr : (execOp a.eval ⟨dst,.call { callee := .builtin .copy,args := #[x,y],argTypes := #[t,t2] },ty,pos,aft,gd⟩).run P w = .ok (.value r) w' := by
       simp [execOp,resolve,invoke,builtin,h3]
      rw [hr,Oper.uponIn_value]
      exact hn _ _ ⟨g,om,szm,h4⟩
     ·cases hk3
    ·cases hk1
   ·cases hk1
  ·cases hk
 case clr sz z =>
  simp only [opEv] at he
  simp only [chkC] at hk
  split at hk
  ·rename_i as ts
   simp only [Bool.and_eq_true] at hk
   obtain ⟨hk1,hk3⟩ := hk
   split at hk1
   ·rename_i t hts
    split at hk1
    ·rename_i e hse
     simp only [Bool.and_eq_true,beq_iff_eq,decide_eq_true_eq] at hk1
     obtain ⟨⟨⟨hs,hzo⟩,hzl⟩,hs0⟩ := hk1
     split at hk3
     ·rename_i x has
      obtain ⟨u,rfl,h1,_⟩ := opds1 h hk3 hv
      simp only [on1] at he
      have has' : as = #[x] := by apply Array.ext'; simpa using has
      have hts' : ts = #[t] := by apply Array.ext'; simpa using hts
      subst has'; subst hts'
      obtain ⟨zv,hz1,hz2,hz3,hz4⟩ := zeroOk_spec hzo
      obtain ⟨w',h3,h4⟩ := clr_ok (P := P) (ty := ty) h (isSlice_eq hse) hz1 hz2 hz3 hz4 hs0 hd h1 he
      have hr : (execOp a.eval ⟨dst,.call { callee := .builtin .clear,args := #[x],argTypes := #[t] },ty,pos,aft,gd⟩).run P w = .ok (.value (.tuple #[])) w' := by
       simp [execOp,resolve,invoke,builtin,h3]
      rw [hr,Oper.uponIn_value]
      exact hn _ _ ⟨g,om,szm,h4⟩
     ·cases hk3
    ·cases hk1
   ·cases hk1
  ·cases hk
 case box =>
  simp only [opEv] at he
  simp only [chkC] at hk
  split at hk
  ·rename_i t x
   obtain ⟨v',rfl,h1,h2⟩ := opds1 h hk hv
   simp only [on1] at he
   have hcell : v'.cells.all PV.isCell = true := by
    unfold Go.Proofs.Ytmffcpiffkclgaa.ZJM.newVar at he
    split at he
    ·split at he
     ·rename_i hc; simp only [Bool.and_eq_true] at hc; exact hc.2
     ·cases he
    ·cases he
   have hval : v'.isVal = true := by
    cases v' <;> first | exact hcell | (simpa [PV.cells,PV.isVal] using hcell)
   obtain ⟨h3,h4⟩ := cells_V h1 hval
   obtain ⟨g',h6⟩ := h.newVar (E := t) hd h3 (fun j c hj => ⟨isVal_cells hval c (getElem?_mem' hj),h4 j c hj⟩) he
   have hr : (execOp a.eval ⟨dst,.box t x,ty,pos,aft,gd⟩).run P w = .ok (.value (.pointer (some ⟨w.heap.size,0,none⟩))) (w.alloc (.cells (a.eval x).cells t (0,0))) := by
    simp only [execOp,Instr.box,Sem.run_bind,Result.andThen_ok,newRow,run_newObj,Sem.run_pure,Go.newVar]
    rfl
   rw [hr,Oper.uponIn_value]
   exact hn _ _ ⟨g',om,szm,h6⟩
  ·cases hk
 case boxc =>
  simp only [opEv] at he
  simp only [chkC] at hk
  split at hk
  ·rename_i t x
   obtain ⟨v',rfl,h1,h2⟩ := opds1 h hk hv
   simp only [on1] at he
   split at he
   ·rename_i hval
    cases he
    have hval2 : v'.untag.isVal = true := by rw [isVal_untag]; exact hval
    obtain ⟨h3,h4⟩ := cells_V h1.untag hval2
    have hrow := h.row (C := (a.eval x).cells) (E := t) (n := v'.untag.cells.length) (fun j v hj hlt => by
     obtain ⟨c,hc⟩ : ∃ c,v'.untag.cells[j]? = some c := ⟨_,List.getElem?_eq_getElem hlt⟩
     have h5 := h4 j c hc
     rw [Array.getD_eq_getD_getElem?,hj] at h5
     exact h5.vcell (isVal_cells hval2 c (getElem?_mem' hc)))
    have hle := Gh.row_le h.rel (a.eval x).cells v'.untag.cells.length
    have hV : V (g.row w.heap.size (a.eval x).cells v'.untag.cells.length) (.elp v'.untag 0) (.pointer (some ⟨w.heap.size,0 + 0,none⟩)) := by
     refine .elp _ 0 w.heap.size 0 (fun j => (a.eval x).cells.getD j undef) hval2 (untag_untag v') (fun j hj => ?_) fun j c hj => (h4 j c hj).mono hle
     simp only [Gh.row,Nat.zero_add,if_true,if_pos hj]
     rw [Array.getD_eq_getD_getElem?,Array.getElem?_eq_getElem (show j < (a.eval x).cells.size by omega)]; rfl
    have hr : (execOp a.eval ⟨dst,.box t x,ty,pos,aft,gd⟩).run P w = .ok (.value (.pointer (some ⟨w.heap.size,0,none⟩))) (w.alloc (.cells (a.eval x).cells t (0,0))) := by
     simp only [execOp,Instr.box,Sem.run_bind,Result.andThen_ok,newRow,run_newObj,Sem.run_pure,Go.newVar]
     rfl
    rw [hr,Oper.uponIn_value]
    exact hn _ _ ⟨_,om,szm,hrow.put hd hV (by simp only [Tg]; trivial)⟩
   ·cases he
  ·cases hk
 case nil tag sz e =>
  simp only [opEv] at he
  simp only [chkC] at hk
  obtain ⟨om',szm',h1⟩ := h.newNil hd he
  split at hk
  ·rw [show (execOp a.eval ⟨dst,_,ty,pos,aft,gd⟩).run P w = .ok (.value (.slice none 0 0)) w from rfl,Oper.uponIn_value]
   exact hn _ _ ⟨g,om',szm',h1⟩
  ·rw [show (execOp a.eval ⟨dst,_,ty,pos,aft,gd⟩).run P w = .ok (.value (.slice none 0 0)) w from rfl,Oper.uponIn_value]
   exact hn _ _ ⟨g,om',szm',h1⟩
  ·cases hk
 case bsl tag sz e =>
  simp only [opEv] at he
  simp only [chkC] at hk
  split at hk
  ·rename_i t n parts
   simp only [Bool.and_eq_true,beq_iff_eq,decide_eq_true_eq] at hk
   obtain ⟨⟨⟨⟨⟨⟨⟨hk1,hk2⟩,hk0⟩,hk3⟩,hk4⟩,hk5⟩,hk6⟩,hk7⟩ := hk
   obtain ⟨zv,hzv⟩ := Option.isSome_iff_exists.1 hk3
   obtain ⟨hl,hV⟩ := opds_V h hk7 hv
   split at he
   ·
    split at he
    ·rename_i hmark
     cases dst with
     | none => simp [rowLit] at he
     | some dd =>
      simp only [rowLit] at he
      split at he
      ·rename_i hfree
       cases he
       have hp0 : parts.toList.map (·.2) = [] := by
        have h8 := hl
        simp only [List.length_nil] at h8
        exact List.length_eq_zero_iff.1 (by first | exact h8.symm | exact h8 | omega)
       have hps : parts = #[] := by
        have : parts.toList = [] := List.map_eq_nil_iff.1 hp0
        exact Array.toList_eq_nil_iff.1 this
       have hr := run_buildSlice (isSlice_eq hk1) hk2 hzv [] (fun r hr => by cases hr) (by simp) w
       obtain ⟨g',h1⟩ := h.newRow (dst := dd) (E := e) (hd dd rfl) hfree (cs := []) (C := #[]) rfl (fun j c hj => by simp at hj) 0 (sz - rowMark) (by omega) (by simp)
       have hr2 : (execOp a.eval ⟨some dd,.buildSlice t n parts,ty,pos,aft,gd⟩).run P w = .ok (.value (.slice (some ⟨w.heap.size,0,none⟩) 0 0)) (w.alloc (.cells #[] e (0,0))) := by
        subst hps
        have hn0 : n = 0 := by simpa using hk4
        subst hn0
        simp only [execOp,Sem.run_bind]
        have e1 : (#[] : Array (Nat × Operand)).map (fun x => (x.1,a.eval x.2)) = (((([] : List Value).zipIdx 0).map fun x => (x.2,x.1)).toArray) := by simp
        rw [e1]
        have hr' := hr
        simp only [List.length_nil] at hr'
        rw [hr']
        rfl
       rw [hr2,Oper.uponIn_value]
       exact hn _ _ ⟨g',om,szm,h1⟩
      ·cases he
    ·cases he
   rename_i hmark
   have hrs : realSz sz = sz := if_neg hmark
   rw [hrs] at hk0 hk2 hk5
   split at he
   ·rename_i hsz
    have hl' : vs.length = ((parts.toList.map (·.2)).map a.eval).length := by simpa using hl.symm
    have hV' : ∀ (i : Nat) (v : PV) (r : Value),vs[i]? = some v → ((parts.toList.map (·.2)).map a.eval)[i]? = some r → V g v r := by
     intro i v r hv' hr
     rw [List.getElem?_map] at hr
     obtain ⟨x,hx,rfl⟩ := Option.map_eq_some_iff.1 hr
     exact (hV i v x hv' hx).1
    have hrsz : ∀ r ∈ (parts.toList.map (·.2)).map a.eval,r.cells.size = sz := by
     intro r hr
     obtain ⟨i,hi⟩ := List.getElem?_of_mem hr
     have hilt := (List.getElem?_eq_some_iff.1 hi).1
     have hvi : vs[i]? = some (vs[i]'(by omega)) := List.getElem?_eq_getElem (by omega)
     have hx := List.all_eq_true.1 hsz _ (getElem?_mem' hvi)
     simp only [Bool.and_eq_true,beq_iff_eq] at hx
     have := (cells_V (hV' i _ r hvi hi) hx.1).1
     omega
    have hn1 : n = ((parts.toList.map (·.2)).map a.eval).length := by simp [hk4]
    have hparts : parts.map (fun x => (x.1,a.eval x.2)) = ((((parts.toList.map (·.2)).map a.eval).zipIdx 0).map fun x => (x.2,x.1)).toArray := by
     apply Array.ext'
     simp only [Array.toList_map]
     apply List.ext_getElem?
     intro i
     simp only [List.getElem?_map,List.getElem?_zipIdx,Nat.zero_add]
     have h6 := congrArg (fun l => l[i]?) hk6
     simp only [List.getElem?_map] at h6
     cases hp : parts.toList[i]? with
     | none => simp
     | some p =>
      rw [hp] at h6
      simp only [Option.map_some] at h6
      have h7 := (List.getElem?_eq_some_iff.1 h6.symm).2
      simp at h7
      simp [← h7]
    obtain ⟨g',om',szm',h1⟩ := h.lit (E := e) hd hl' hsz hV' (by
     have : ((parts.toList.map (·.2)).map a.eval).length * sz ≤ 2 ^ 24 := by rw [← hn1]; exact hk5
     have h1 : ((parts.toList.map (·.2)).map a.eval).length ≤ 2 ^ 24 := Nat.le_trans (Nat.le_mul_of_pos_right _ hk0) this
     exact Nat.le_trans h1 (Nat.le_trans (by decide) maxLen_ge)) he
    have hr := run_buildSlice (isSlice_eq hk1) hk2 hzv _ hrsz (by rw [← hn1]; exact hk5) w
    have hr2 : (execOp a.eval ⟨dst,.buildSlice t n parts,ty,pos,aft,gd⟩).run P w = .ok (.value (.slice (some ⟨w.heap.size,0,none⟩) ((parts.toList.map (·.2)).map a.eval).length ((parts.toList.map (·.2)).map a.eval).length))
      (w.alloc (.cells (((parts.toList.map (·.2)).map a.eval).flatMap (·.cells.toList)).toArray e (0,0))) := by
     simp only [execOp,Sem.run_bind]
     rw [hparts,hn1,hr]
     rfl
    rw [hr2,Oper.uponIn_value]
    exact hn _ _ ⟨g',om',szm',h1⟩
   ·cases he
  ·cases hk
 case app tag sz bytes e =>
  simp only [opEv] at he
  simp only [chkC] at hk
  split at hk
  ·rename_i as ts
   simp only [Bool.and_eq_true] at hk
   obtain ⟨⟨hk1,hk2⟩,hk3⟩ := hk
   split at hk1
   ·rename_i t t' hts
    simp only [Bool.and_eq_true,beq_iff_eq] at hk1
    obtain ⟨rfl,hse⟩ := hk1
    split at hk3
    ·rename_i x y has
     obtain ⟨u,v',rfl,h1,h2⟩ := opds2 h hk3 hv
     simp only [on2] at he
     have has' : as = #[x,y] := by apply Array.ext'; simpa using has
     have hts' : ts = #[t,t] := by apply Array.ext'; simpa using hts
     subst has'; subst hts'
     simp only [elemOk] at hk2
     split at hk2
     ·rename_i i hi
      simp only [Bool.and_eq_true,beq_iff_eq,decide_eq_true_eq] at hk2
      obtain ⟨⟨⟨⟨hz,hs⟩,hb⟩,hs0⟩,hb0⟩ := hk2
      split at hz
      ·rename_i z hz'
       have hzs := beq_iff_eq.1 hz
       split at he
       ·rename_i y' hy'
        obtain ⟨r,w',g',om',szm',h3,h4⟩ := app_ok (ty := ty) h (isSlice_eq hse) hi hz' hb hb0 (by rw [hzs,hs]) hs hs0 hd h1.1 h1.2 (deref_src h h2.1 hy') he
        have hr : (execOp a.eval ⟨dst,.call { callee := .builtin .append,args := #[x,y],argTypes := #[t,t] },ty,pos,aft,gd⟩).run P w = .ok (.value r) w' := by
         simp [execOp,resolve,invoke,builtin,h3]
        rw [hr,Oper.uponIn_value]
        exact hn _ _ ⟨g',om',szm',h4⟩
       ·cases he
      ·cases hz
     ·cases hk2
    ·cases hk3
   ·cases hk1
  ·cases hk
 case appr sz bytes e =>
  simp only [opEv] at he
  simp only [chkC] at hk
  split at hk
  ·rename_i as ts
   simp only [Bool.and_eq_true] at hk
   obtain ⟨⟨hk1,hk2⟩,hk3⟩ := hk
   split at hk1
   ·rename_i t t' hts
    simp only [Bool.and_eq_true,beq_iff_eq] at hk1
    obtain ⟨rfl,hse⟩ := hk1
    split at hk3
    ·rename_i x y has
     obtain ⟨u,v',rfl,h1,h2⟩ := opds2 h hk3 hv
     simp only [on2] at he
     have has' : as = #[x,y] := by apply Array.ext'; simpa using has
     have hts' : ts = #[t,t] := by apply Array.ext'; simpa using hts
     subst has'; subst hts'
     simp only [elemOk] at hk2
     split at hk2
     ·rename_i i hi
      simp only [Bool.and_eq_true,beq_iff_eq,decide_eq_true_eq] at hk2
      obtain ⟨⟨⟨⟨hz,hs⟩,hb⟩,hs0⟩,hb0⟩ := hk2
      split at hz
      ·rename_i z hz'
       have hzs := beq_iff_eq.1 hz
       split at he
       ·rename_i y' hy'
        obtain ⟨r,w',g',h3,h4⟩ := appr_ok (ty := ty) h (isSlice_eq hse) hi hz' hb hb0 (by rw [hzs,hs]) hs hs0 hd h1.1 (deref_src h h2.1 hy') he
        have hr : (execOp a.eval ⟨dst,.call { callee := .builtin .append,args := #[x,y],argTypes := #[t,t] },ty,pos,aft,gd⟩).run P w = .ok (.value r) w' := by
         simp [execOp,resolve,invoke,builtin,h3]
        rw [hr,Oper.uponIn_value]
        exact hn _ _ ⟨g',om,szm,h4⟩
       ·cases he
      ·cases hz
     ·cases hk2
    ·cases hk3
   ·cases hk1
  ·cases hk
 case call f pr =>
  simp only [opEv] at he
  simp only [chkC] at hk
  split at hk
  ·rename_i f' as ts
   simp only [Bool.and_eq_true,beq_iff_eq] at hk
   obtain ⟨rfl,hk⟩ := hk
   obtain ⟨hl,hV⟩ := opds_V h hk hv
   obtain ⟨hl2,hV2⟩ := args_V (a := a) (g := g) hl (fun i v x h1 h2 => (hV i v x h1 h2).1)
   rcases callEv_ok hK hok h hd (rf := .func (.func f) #[] #[]) (.fn f [] #[] rfl (fun j c hj => by simp at hj)) hl2 hV2 he with ⟨f0,first,caps,fn,hrf,hfn,hbody,hname,hc⟩ | ⟨l,r,hrf,_⟩
   ·injection hrf with hrf1 hrf2 hrf3
    injection hrf1 with hrf1
    subst hrf1; subst hrf2; subst hrf3
    refine call_upon (f := f) (ra := #[] ++ as.map a.eval ++ #[]) ?_ hc fun rv w' hi => hn _ _ hi
    simp [execOp,resolve,invoke,callFunc,Deferred.ofValue,Act.eval,hfn,hname,Option.isNone_iff_eq_none,Option.isSome_iff_ne_none.1 hbody]
   ·injection hrf with hrf1; cases hrf1
  ·cases hk
 case callv =>
  simp only [opEv] at he
  simp only [chkC] at hk
  split at hk
  ·rename_i x as ts
   split at he
   ·rename_i fv vs'
    obtain ⟨hl,hV⟩ := opds_V h hk hv
    have hx := hV 0 fv x rfl rfl
    obtain ⟨hl2,hV2⟩ := args_V (a := a) (g := g) (as := as) (vs := vs') (by simpa using hl) (fun i v y h1 h2 => (hV (i + 1) v y (by simpa using h1) (by simpa using h2)).1)
    rcases callEv_ok hK hok h hd hx.1 hl2 hV2 he with ⟨f0,first,caps,fn,hrf,hfn,hbody,hname,hc⟩ | ⟨l,r,hrf,hlo,hsz,hc⟩
    ·refine call_upon (f := f0) (ra := first ++ as.map a.eval ++ caps) ?_ hc fun rv w' hi => hn _ _ hi
     simp [execOp,resolve,invoke,callFunc,Deferred.ofValue,hrf,hfn,hname,Option.isNone_iff_eq_none,Option.isSome_iff_ne_none.1 hbody]
    ·refine round_upon ?_ hc fun rv w' hi => hn _ _ hi
     have := run_yield (P := P) hlo hsz
     simp [execOp,resolve,invoke,callFunc,Deferred.ofValue,hrf,this]
   ·cases he
  ·cases hk
 case callh f =>
  simp only [opEv,putO] at he
  simp only [chkC] at hk
  split at hk
  ·rename_i f' as ts
   simp only [Bool.and_eq_true,beq_iff_eq] at hk
   obtain ⟨rfl,hk⟩ := hk
   obtain ⟨hl,hV⟩ := opds_V h hk hv
   obtain ⟨hl2,hV2⟩ := args_V (a := a) (g := g) hl (fun i v x h1 h2 => (hV i v x h1 h2).1)
   split at he
   ·rename_i v' hcv
    cases he
    refine call_step rfl rfl rfl (callH_ok hK hok h (rf := .func (.func f) #[] #[]) hcv (.fn f [] #[] rfl (fun j c hj => by simp at hj)) hl2 hV2) ?_
    rintro rv w' ⟨g',hi,hvv,hu⟩
    exact hn _ _ ⟨g',om,szm,hi.put hd hvv hu⟩
   ·cases he
  ·cases hk
 case callvh =>
  simp only [opEv,putO] at he
  simp only [chkC] at hk
  split at hk
  ·rename_i x as ts
   split at he
   ·rename_i v' hcv
    cases he
    unfold callHv at hcv
    split at hcv
    ·rename_i fv vs'
     obtain ⟨hl,hV⟩ := opds_V h hk hv
     have hx := hV 0 fv x rfl rfl
     obtain ⟨hl2,hV2⟩ := args_V (a := a) (g := g) (as := as) (vs := vs') (by simpa using hl) (fun i v y h1 h2 => (hV (i + 1) v y (by simpa using h1) (by simpa using h2)).1)
     refine callv_step rfl rfl rfl (callH_ok hK hok h hcv hx.1 hl2 hV2) ?_
     rintro rv w' ⟨g',hi,hvv,hu⟩
     exact hn _ _ ⟨g',om,szm,hi.put hd hvv hu⟩
    ·cases hcv
   ·cases he
  ·cases hk
 all_goals
  simp only [opEv] at he
  split at he
  ·rename_i v hv'
   exact pure_case v hv' (Option.some.inj he).symm
  ·cases he
end
end Go.Proofs.Ytmffcpiffkclgaa.ZJM
