/- Records of loops over functions. -/
import Derived.Test.YtmffcpiffkclgaaZJ16
import Derived.Test.YtmffcpiffkclgaaZJ17C
set_option linter.unusedSimpArgs false
set_option linter.unusedVariables false
namespace Go.Proofs.Ytmffcpiffkclgaa.ZJM
open Go.RowKit
section
variable {P : Program} {d nt : Nat} {m0 : Mem} {g0 : Gh} {w0 : World} {g : Gh} {om : Nat → Value} {szm : Nat → Nat} {st : St} {a : Act} {w : World}
theorem lrec_tget {s : Nat} : ∀ {p : Path} {zs : List PV},tget [PV.lrec s] p = some zs → p = [] ∧ zs = [.lrec s]
 | [],zs,h => by simp only [tget,Option.some.injEq] at h; exact ⟨rfl,h.symm⟩
 | a :: p,zs,h => by
  simp only [tget] at h
  split at h
  ·rename_i hc
   have := List.mem_of_getElem? hc
   simp at this
  ·cases h
theorem Rel.notLoop {M : Mem} (hR : Rel g M w) {lv j l : Nat} {r : Loop} {s : Nat} (hl : g.lp lv j = some (l,r)) (hm : mget M lv j [] = some [.lrec s]) : ∃ pn,w.heap[l]? = some (.loop (turned { r with pending := pn } s)) := by
 obtain ⟨s0,h1,pn,h2⟩ := hR.hL _ _ _ _ hl _ hm
 cases h1; exact ⟨pn,h2⟩
theorem Rel.setRec {M M' : Mem} (hR : Rel g M w) {lv j l : Nat} {r : Loop} {s s' : Nat} (hl : g.lp lv j = some (l,r)) (hm : mget M lv j [] = some [.lrec s]) (hw : mset M lv j [] [.lrec s'] = some M') (pn' : Option Code) :
  Rel g M' (w.putObj l (.loop (turned { r with pending := pn' } s'))) ∧ ∀ l s,(mget M' l s []).isSome = (mget M l s []).isSome := by
 obtain ⟨pn,hh⟩ := hR.notLoop hl hm
 obtain ⟨y,W⟩ := mset_wrote hw
 have hy : y = [.lrec s] := by have := W.old; rw [hm] at this; exact (Option.some.inj this).symm
 subst hy
 have hlt : l < w.heap.size := (Array.getElem?_eq_some_iff.1 hh).1
 have hcase : ∀ l0 s0 q zs',mget M' l0 s0 q = some zs' → (l0 = lv ∧ s0 = j ∧ q = [] ∧ zs' = [.lrec s']) ∨ (¬ (l0 = lv ∧ s0 = j) ∧ ∃ zs,mget M l0 s0 q = some zs ∧ SimL zs zs') := by
  intro l0 s0 q zs' hq
  rcases W.all (by simp) l0 s0 q zs' hq with ⟨rfl,rfl,r0,rfl,hr⟩ | ⟨hn,zs,hz,hs⟩
  ·obtain ⟨rfl,rfl⟩ := lrec_tget hr
   exact .inl ⟨rfl,rfl,rfl,rfl⟩
  ·exact .inr ⟨fun hh => hn ⟨hh.1,hh.2,q,rfl⟩,zs,hz,hs⟩
 have hlive : ∀ l0 s0 q zs',mget M' l0 s0 q = some zs' → ∃ zs,mget M l0 s0 q = some zs := by
  intro l0 s0 q zs' hq
  rcases hcase _ _ _ _ hq with ⟨rfl,rfl,rfl,_⟩ | ⟨_,zs,hz,_⟩
  ·exact ⟨_,hm⟩
  ·exact ⟨zs,hz⟩
 have hoth : ∀ b,b ≠ l → (w.putObj l (.loop (turned { r with pending := pn' } s'))).heap[b]? = w.heap[b]? := fun b hb => World.putObj_heap_other hb
 refine ⟨⟨fun b o v hb => ?_,fun lv0 sl p b o t hb cs hcs => ?_,fun lv0 sl l0 r0 hb cs hcs => ?_,fun l1 s1 p1 l2 s2 p2 b o t o' t' cs cs' h1 h2 hz hz' => ?_,fun l1 s1 l2 s2 b r1 r2 cs cs' h1 h2 hz hz' => ?_,fun lv0 sl p jj v x h1 cs hcs => ?_,fun l1 s1 p x hx => by rw [W.len]; exact hR.lv _ _ _ _ hx,fun l1 s1 x hx => by rw [W.len]; exact hR.lpv _ _ _ hx,fun l1 s1 p b o t hx => by rw [World.putObj_size]; exact hR.bd _ _ _ _ _ _ hx,fun l1 s1 b r1 hx => by rw [World.putObj_size]; exact hR.bdL _ _ _ _ hx,hR.pre⟩,W.live (by simp)⟩
 ·obtain ⟨q1,q2⟩ := hR.hG b o v hb
  have hn : b ≠ l := fun he => by subst he; simp [World.cell?,hh] at q1
  refine ⟨?_,q2⟩
  simp only [World.cell?,hoth b hn]
  simpa [World.cell?] using q1
 ·rcases hcase _ _ _ _ hcs with ⟨rfl,rfl,rfl,rfl⟩ | ⟨_,zs,hz,hs⟩
  ·obtain ⟨C,E,_,_,_,h4,_⟩ := hR.hM _ _ _ _ _ _ hb _ hm
   exact (h4 0 (.lrec s) rfl).elim
  ·obtain ⟨C,E,a1,a2,a3,a4,a5⟩ := hR.hM _ _ _ _ _ _ hb _ hz
   have hn : b ≠ l := fun he => by rw [he,hh] at a1; cases a1
   refine ⟨C,E,by rw [hoth b hn]; exact a1,a2,by rw [← hs.1]; exact a3,fun jj c hj => ?_,a5⟩
   obtain ⟨c0,q1,q2⟩ := hs.2 jj c hj
   exact (a4 jj c0 q1).sim q2
 ·rcases hcase _ _ _ _ hcs with ⟨rfl,rfl,_,rfl⟩ | ⟨hne,zs,hz,hs⟩
  ·rw [hl] at hb
   cases hb
   exact ⟨s',rfl,pn',World.putObj_heap_same hlt⟩
  ·obtain ⟨s0,q1,pn0,q2⟩ := hR.hL _ _ _ _ hb _ hz
   have hn : l0 ≠ l := fun he => by
    subst he
    obtain ⟨e1,e2⟩ := hR.injL _ _ _ _ _ _ _ _ _ hb hl hz hm
    exact hne ⟨e1,e2⟩
   refine ⟨s0,?_,pn0,by rw [hoth _ hn]; exact q2⟩
   subst q1
   obtain ⟨r1,r2⟩ := hs
   match cs,r1 with
   | [c],_ =>
    obtain ⟨c0,q3,q4⟩ := r2 0 c rfl
    simp only [List.getElem?_cons_zero,Option.some.injEq] at q3
    subst q3
    cases q4; rfl
 ·obtain ⟨z1,hz1⟩ := hlive _ _ _ _ hz
  obtain ⟨z2,hz2⟩ := hlive _ _ _ _ hz'
  exact hR.inj _ _ _ _ _ _ _ _ _ _ _ _ _ h1 h2 hz1 hz2
 ·obtain ⟨z1,hz1⟩ := hlive _ _ _ _ hz
  obtain ⟨z2,hz2⟩ := hlive _ _ _ _ hz'
  exact hR.injL _ _ _ _ _ _ _ _ _ h1 h2 hz1 hz2
 ·rcases hcase _ _ _ _ hcs with ⟨rfl,rfl,rfl,rfl⟩ | ⟨_,zs,hz,hs⟩
  ·obtain ⟨z,hz⟩ := hR.pre lv0 sl [] (jj,v) x h1
   obtain ⟨C,E,_,_,_,h4,_⟩ := hR.hM lv0 sl [] z.1 z.2.1 z.2.2 hz _ hm
   exact (h4 0 (.lrec s) rfl).elim
  ·obtain ⟨c0,q1,q2⟩ := hR.ver _ _ _ _ _ _ h1 _ hz
   have hlt' : jj < cs.length := by rw [← hs.1]; exact (List.getElem?_eq_some_iff.1 q1).1
   obtain ⟨c1,q3,q4⟩ := hs.2 jj _ (List.getElem?_eq_getElem hlt')
   rw [q1] at q3; cases q3
   exact ⟨_,List.getElem?_eq_getElem hlt',by rw [← q4.nextVer]; exact q2⟩
theorem Inv.setRec (h : Inv d nt m0 g0 w0 g om szm st a w) {lv j l : Nat} {r : Loop} {s s' : Nat} (hl : g.lp lv j = some (l,r)) (hm : mget (st.own :: st.m) lv j [] = some [.lrec s]) {own' : Lvl} {m' : Mem} (hw : mset (st.own :: st.m) lv j [] [.lrec s'] = some (own' :: m')) (pn' : Option Code) :
  Inv d nt m0 g0 w0 g om szm { st with own := own',m := m' } a (w.putObj l (.loop (turned { r with pending := pn' } s'))) := by
 obtain ⟨hrel,hlive⟩ := h.rel.setRec hl hm hw pn'
 have hlen : m'.length = d := by have := mset_length hw; simp only [List.length_cons,h.lv] at this; omega
 have hfree : ∀ s,isFree { st with own := own',m := m' } s = isFree st s := fun s => by
  refine isFree_eq (st := st) (st' := { st with own := own',m := m' }) rfl ?_
  have := hlive d s
  rw [mget_cons,mget_cons,hlen,h.lv,if_pos rfl,if_pos rfl,lget_nil,lget_nil] at this
  exact this
 refine h.turn (own' := own') (dead' := st.dead) (m' := m') (Gh.le.refl g) hrel hlen ⟨by simp,fun b hb hf => ⟨World.putObj_heap_other fun he => hf.2 _ _ _ (he ▸ hl),fun _ => rfl⟩,fun _ _ _ x => x,fun _ _ _ _ _ x => x,fun _ _ _ => rfl,fun l s p b o t x => .inl ⟨l,s,p,o,t,x⟩,fun l s b r x => .inl ⟨l,s,r,x⟩,fun l s p x _ y => ⟨p,x,y⟩,rfl,rfl,rfl,rfl⟩ (fun s p x hx => by rw [hfree]; exact h.nm _ _ _ hx) (fun s x hx => by rw [hfree]; exact h.nmL _ _ hx) (fun l s hl => ?_)
 have := hlive l s
 rwa [mget_callers (by omega),mget_callers (by rw [h.lv]; exact hl)] at this
theorem Inv.putDead (h : Inv d nt m0 g0 w0 g om szm st a w) {l : Nat} {r0 r2 : Loop} (hh : w.heap[l]? = some (.loop r0)) (hkn : ∃ lv j r,g.lp lv j = some (l,r)) (hdead : ∀ lv j r zs,g.lp lv j = some (l,r) → mget (st.own :: st.m) lv j [] ≠ some zs) :
  Inv d nt m0 g0 w0 g om szm st a (w.putObj l (.loop r2)) := by
 have hoth : ∀ b,b ≠ l → (w.putObj l (.loop r2)).heap[b]? = w.heap[b]? := fun b hb => World.putObj_heap_other hb
 have hrel : Rel g (st.own :: st.m) (w.putObj l (.loop r2)) := by
  refine ⟨fun b o v hb => ?_,fun lv0 sl p b o t hb cs hcs => ?_,fun lv0 sl l0 r0 hb cs hcs => ?_,h.rel.inj,h.rel.injL,h.rel.ver,h.rel.lv,h.rel.lpv,fun l1 s1 p b o t hx => by rw [World.putObj_size]; exact h.rel.bd _ _ _ _ _ _ hx,fun l1 s1 b r1 hx => by rw [World.putObj_size]; exact h.rel.bdL _ _ _ _ hx,h.rel.pre⟩
  ·obtain ⟨q1,q2⟩ := h.rel.hG b o v hb
   have hn : b ≠ l := fun he => by subst he; simp [World.cell?,hh] at q1
   refine ⟨?_,q2⟩
   simp only [World.cell?,hoth b hn]
   simpa [World.cell?] using q1
  ·obtain ⟨C,E,a1,a2⟩ := h.rel.hM _ _ _ _ _ _ hb _ hcs
   have hn : b ≠ l := fun he => by rw [he,hh] at a1; cases a1
   exact ⟨C,E,by rw [hoth b hn]; exact a1,a2⟩
  ·obtain ⟨s0,q1,pn0,q2⟩ := h.rel.hL _ _ _ _ hb _ hcs
   have hn : l0 ≠ l := fun he => by subst he; exact hdead _ _ _ _ hb hcs
   exact ⟨s0,q1,pn0,by rw [hoth _ hn]; exact q2⟩
 refine h.turn (own' := st.own) (dead' := st.dead) (m' := st.m) (Gh.le.refl g) hrel h.lv ⟨by simp,fun b hb hf => ⟨World.putObj_heap_other fun he => ?_,fun _ => rfl⟩,fun _ _ _ x => x,fun _ _ _ _ _ x => x,fun _ _ _ => rfl,fun l s p b o t x => .inl ⟨l,s,p,o,t,x⟩,fun l s b r x => .inl ⟨l,s,r,x⟩,fun l s p x _ y => ⟨p,x,y⟩,rfl,rfl,rfl,rfl⟩ h.nm h.nmL (fun _ _ _ => rfl)
 obtain ⟨lv,j,r,hl⟩ := hkn
 exact hf.2 _ _ _ (he ▸ hl)
theorem Inv.enter (h : Inv d nt m0 g0 w0 g om szm st a w) {j : Nat} (hn : isFree st j = true) {r0 : Loop} (hr0 : r0.state = .ready ∧ r0.pending = none) : ∃ g',g.le g' ∧ g'.lp d j = some (w.heap.size + 1,r0) ∧
  Inv d nt m0 g0 w0 g' om szm { st with own := (j,[.lrec 0]) :: st.own } { a with defers := [{ target := .collected w.heap.size,args := #[] }] ++ a.defers } ((w.alloc (.deferred (some []))).alloc (.loop r0)) := by
 obtain ⟨hno,hnd⟩ := isFree_iff.1 hn
 have hb0 : ∀ p,g.blk d j p = none := fun p => by
  cases hb : g.blk d j p with
  | none => rfl
  | some x => have := h.nm _ _ _ hb; rw [hn] at this; cases this
 have hl0 : g.lp d j = none := by
  cases hb : g.lp d j with
  | none => rfl
  | some x => have := h.nmL _ _ hb; rw [hn] at this; cases this
 let w1 := (w.alloc (.deferred (some []))).alloc (.loop r0)
 have hold : ∀ b,b < w.heap.size → w1.heap[b]? = w.heap[b]? := fun b hb => by
  show ((w.alloc (.deferred (some []))).alloc (.loop r0)).heap[b]? = _
  rw [heap_alloc_old _ _ (by simp; omega),heap_alloc_old _ _ hb]
 have hD : w1.heap[w.heap.size]? = some (.deferred (some [])) := by
  show ((w.alloc (.deferred (some []))).alloc (.loop r0)).heap[w.heap.size]? = _
  rw [heap_alloc_old _ _ (by simp),heap_alloc_at,if_pos rfl]
 have hL : w1.heap[w.heap.size + 1]? = some (.loop r0) := by
  show ((w.alloc (.deferred (some []))).alloc (.loop r0)).heap[w.heap.size + 1]? = _
  rw [heap_alloc_at,if_pos (by simp)]
 have hsz : w1.heap.size = w.heap.size + 2 := by show ((w.alloc (.deferred (some []))).alloc (.loop r0)).heap.size = _; simp
 let g' : Gh := { g with lp := fun l s => if l = d ∧ s = j then some (w.heap.size + 1,r0) else g.lp l s }
 have hle : g.le g' := ⟨fun _ _ _ x => x,fun _ _ _ _ x => x,fun l s x hx => by
  show (if l = d ∧ s = j then _ else _) = _
  rw [if_neg (fun hh => by obtain ⟨rfl,rfl⟩ := hh; rw [hl0] at hx; cases hx)]; exact hx,rfl⟩
 have hlpc : ∀ l s x,g'.lp l s = some x → (l = d ∧ s = j ∧ x = (w.heap.size + 1,r0)) ∨ (¬ (l = d ∧ s = j) ∧ g.lp l s = some x) := by
  intro l s x hx
  have hx' : (if l = d ∧ s = j then some (w.heap.size + 1,r0) else g.lp l s) = some x := hx
  split at hx'
  ·rename_i hc; cases hx'; exact .inl ⟨hc.1,hc.2,rfl⟩
  ·rename_i hc; exact .inr ⟨hc,hx'⟩
 have hget : ∀ l s p zs,mget (((j,[.lrec 0]) :: st.own) :: st.m) l s p = some zs → (l = d ∧ s = j ∧ p = [] ∧ zs = [.lrec 0]) ∨ (¬ (l = d ∧ s = j) ∧ mget (st.own :: st.m) l s p = some zs) := by
  intro l s p zs hz
  rw [mget_cons,h.lv] at hz
  by_cases hl' : l = d
  ·rw [if_pos hl'] at hz
   unfold lget at hz
   rw [get_cons] at hz
   by_cases hs : j = s
   ·subst hs
    rw [if_pos rfl] at hz
    obtain ⟨h1,h2⟩ := lrec_tget hz
    exact .inl ⟨hl',rfl,h1,h2⟩
   ·rw [if_neg hs] at hz
    refine .inr ⟨fun hh => hs hh.2.symm,?_⟩
    rw [mget_cons,h.lv,if_pos hl']
    exact hz
  ·rw [if_neg hl'] at hz
   exact .inr ⟨fun hh => hl' hh.1,by rw [mget_cons,h.lv,if_neg hl']; exact hz⟩
 have hbnone : ∀ {l s p x},g'.blk l s p = some x → ¬ (l = d ∧ s = j) := fun {l s p x} hx hh => by
  obtain ⟨rfl,rfl⟩ := hh
  have hx' : g.blk l s p = some x := hx
  rw [hb0] at hx'; cases hx'
 have hrel : Rel g' (((j,[.lrec 0]) :: st.own) :: st.m) w1 := by
  refine ⟨fun b o v hb => ?_,fun lv sl p b o t hb zs hz => ?_,fun lv sl l r hb zs hz => ?_,fun l s p l' s' p' b o t o' t' zs zs' h1 h2 hz hz' => ?_,fun l s l' s' b r r' zs zs' h1 h2 hz hz' => ?_,fun lv sl p jj v x h1 zs hz => ?_,fun l s p x hx => ?_,fun l s x hx => ?_,fun l s p b o t hx => ?_,fun l s b r hx => ?_,h.rel.pre⟩
  ·obtain ⟨q1,q2⟩ := h.rel.hG b o v hb
   refine ⟨?_,q2⟩
   simp only [World.cell?,hold b (h.rel.G_lt hb)]
   simpa [World.cell?] using q1
  ·rcases hget _ _ _ _ hz with ⟨q1,q2,_⟩ | ⟨_,hz'⟩
   ·exact absurd ⟨q1,q2⟩ (hbnone hb)
   ·obtain ⟨C,E,a1,a2,a3,a4,a5⟩ := h.rel.hM _ _ _ _ _ _ hb _ hz'
    exact ⟨C,E,by rw [hold b (h.rel.blkLt hb hz')]; exact a1,a2,a3,fun jj c hj => (a4 jj c hj).mono hle,a5⟩
  ·rcases hget _ _ _ _ hz with ⟨rfl,rfl,_,rfl⟩ | ⟨hne,hz'⟩
   ·rcases hlpc _ _ _ hb with ⟨_,_,he⟩ | ⟨hc,_⟩
    ·cases he
     refine ⟨0,rfl,none,?_⟩
     rw [hL]
     obtain ⟨e1,e2⟩ := hr0
     congr 2
     cases r0
     simp only at e1 e2
     subst e1; subst e2
     rfl
    ·exact absurd ⟨rfl,rfl⟩ hc
   ·rcases hlpc _ _ _ hb with ⟨q1,q2,_⟩ | ⟨_,hb'⟩
    ·exact absurd ⟨q1,q2⟩ hne
    ·obtain ⟨s0,q1,pn0,q2⟩ := h.rel.hL _ _ _ _ hb' _ hz'
     exact ⟨s0,q1,pn0,by rw [hold _ (Array.getElem?_eq_some_iff.1 q2).1]; exact q2⟩
  ·rcases hget _ _ _ _ hz with ⟨q1,q2,_⟩ | ⟨_,hz1⟩
   ·exact absurd ⟨q1,q2⟩ (hbnone h1)
   ·rcases hget _ _ _ _ hz' with ⟨q1,q2,_⟩ | ⟨_,hz2⟩
    ·exact absurd ⟨q1,q2⟩ (hbnone h2)
    ·exact h.rel.inj _ _ _ _ _ _ _ _ _ _ _ _ _ h1 h2 hz1 hz2
  ·rcases hlpc _ _ _ h1 with ⟨rfl,rfl,e1⟩ | ⟨c1,h1'⟩ <;> rcases hlpc _ _ _ h2 with ⟨rfl,rfl,e2⟩ | ⟨c2,h2'⟩
   ·exact ⟨rfl,rfl⟩
   ·cases e1; have := h.rel.bdL _ _ _ _ h2'; omega
   ·cases e2; have := h.rel.bdL _ _ _ _ h1'; omega
   ·rcases hget _ _ _ _ hz with ⟨q1,q2,_⟩ | ⟨_,hz1⟩
    ·exact absurd ⟨q1,q2⟩ c1
    ·rcases hget _ _ _ _ hz' with ⟨q1,q2,_⟩ | ⟨_,hz2⟩
     ·exact absurd ⟨q1,q2⟩ c2
     ·exact h.rel.injL _ _ _ _ _ _ _ _ _ h1' h2' hz1 hz2
  ·rcases hget _ _ _ _ hz with ⟨q1,q2,_⟩ | ⟨_,hz'⟩
   ·exact absurd ⟨q1,q2⟩ (hbnone h1)
   ·exact h.rel.ver _ _ _ _ _ _ h1 _ hz'
  ·have := h.rel.lv _ _ _ _ hx; simpa using this
  ·rcases hlpc _ _ _ hx with ⟨rfl,_⟩ | ⟨_,hx'⟩
   ·simp [h.lv]
   ·have := h.rel.lpv _ _ _ hx'; simpa using this
  ·have := h.rel.bd _ _ _ _ _ _ hx; omega
  ·rcases hlpc _ _ _ hx with ⟨_,_,he⟩ | ⟨_,hx'⟩
   ·cases he; omega
   ·have := h.rel.bdL _ _ _ _ hx'; omega
 have hfree : ∀ s,isFree st s = false → isFree { st with own := (j,[.lrec 0]) :: st.own } s = false := by
  intro s hs
  cases hf : isFree { st with own := (j,[.lrec 0]) :: st.own } s with
  | false => rfl
  | true =>
   obtain ⟨q1,q2⟩ := isFree_iff.1 hf
   simp only at q1
   rw [get_cons] at q1
   split at q1
   ·cases q1
   ·have := isFree_iff.2 ⟨q1,q2⟩; rw [hs] at this; cases this
 have hj : isFree { st with own := (j,[.lrec 0]) :: st.own } j = false := by
  cases hf : isFree { st with own := (j,[.lrec 0]) :: st.own } j with
  | false => rfl
  | true =>
   obtain ⟨q1,q2⟩ := isFree_iff.1 hf
   simp only at q1
   rw [get_cons,if_pos rfl] at q1; cases q1
 have hfreeD : g'.free w.heap.size := ⟨fun l s p o t hh => h.freeNew.1 _ _ _ _ _ hh,fun l s r hh => by
  rcases hlpc _ _ _ hh with ⟨_,_,he⟩ | ⟨_,hx'⟩
  ·have := congrArg Prod.fst he
   simp only at this
   omega
  ·exact h.freeNew.2 _ _ _ hx'⟩
 have h1 := h.turn (own' := (j,[.lrec 0]) :: st.own) (dead' := st.dead) (m' := st.m) hle hrel h.lv ⟨by omega,fun b hb _ => ⟨hold b hb,fun _ => rfl⟩,fun _ _ _ x => x,fun _ _ _ _ _ x => x,fun l s hl => by
  show (if l = d ∧ s = j then _ else _) = _
  rw [if_neg (by omega)],fun l s p b o t x => .inl ⟨l,s,p,o,t,x⟩,fun l s b r x => ?_,fun l s p x _ y => ⟨p,x,y⟩,rfl,rfl,rfl,rfl⟩ (fun s p x hx => hfree s (h.nm _ _ _ hx)) (fun s x hx => ?_) (fun _ _ _ => rfl)
 ·refine ⟨g',hle,by show (if d = d ∧ j = j then _ else _) = _; rw [if_pos ⟨rfl,rfl⟩],⟨h1.rel,h1.lv,h1.f,h1.nt,fun x hx => ?_,?_,h1.own,h1.apart,h1.kp,h1.nm,h1.nmL,h1.roots⟩⟩
  rcases List.mem_append.1 hx with hx | hx
  ·simp only [List.mem_singleton] at hx
   exact ⟨w.heap.size,hx,hD,h.kp.size,hfreeD⟩
  ·exact h1.df x hx
  ·refine List.nodup_cons.2 ⟨fun hm => ?_,h.dn⟩
   obtain ⟨D,e1,e2,_⟩ := h.df _ hm
   have hlt := (Array.getElem?_eq_some_iff.1 e2).1
   injection e1 with e1
   injection e1 with e1
   omega
 ·rcases hlpc _ _ _ x with ⟨_,_,he⟩ | ⟨_,hx'⟩
  ·cases he; exact .inr (by omega)
  ·exact .inl ⟨l,s,r,hx'⟩
 ·rcases hlpc _ _ _ hx with ⟨_,rfl,_⟩ | ⟨_,hx'⟩
  ·exact hj
  ·exact hfree s (h.nmL _ _ hx')
end
end Go.Proofs.Ytmffcpiffkclgaa.ZJM
set_option linter.unusedSimpArgs false
set_option linter.unusedVariables false
namespace Go.Proofs.Ytmffcpiffkclgaa.ZJM
open Go.RowKit
theorem nodupB_spec : ∀ {l : List Nat},nodupB l = true → l.Nodup
 | [],_ => List.nodup_nil
 | x :: r,h => by
  simp only [nodupB,Bool.and_eq_true,Bool.not_eq_true'] at h
  rw [List.nodup_cons]
  refine ⟨fun hm => ?_,nodupB_spec h.2⟩
  have : r.contains x = true := by simpa using hm
  rw [h.1] at this; cases this
def chkCd (P : Program) (nt : Nat) : Option (FuncId × List Rd) → Code → Cd → Bool
 | _,.skip,.skip => true
 | _,.region _ ops draw,.reg cs => !draw && chkOps P nt ops ops.toList cs
 | _,.region _ ops draw,.draw k rows cs => draw && chkOps P nt ops ops.toList cs && (if k = xMode then drawxOk ops cs rows else drawOk ops cs k rows)
 | o,.seq a b,.seq a' b' => chkCd P nt o a a' && chkCd P nt o b b'
 | o,.cond c a b,.cond c' a' b' => opdOk c c' && chkCd P nt o a a' && chkCd P nt o b b'
 | o,.block id a,.block id' a' => id == id' && chkCd P nt o a a'
 | o,.loop a,.loop _ _ _ _ a' => chkCd P nt o a a'
 | some (f0,rds),.rangeFunc g ps assign body,.range g' _ fs f i => f == f0 && opdOk g g' && (match rds[i]? with
   | some rd => decide (rd.ps = ps.toList) && decide (rd.fs = fs) && nodupB rd.ps && rd.ps.all (fun t => decide (t < nt)) && chkCd P nt none assign rd.assign && chkCd P nt none body rd.body
   | none => false)
 | _,.exit id,.exit id' => id == id'
 | _,.ret,.ret => true
 | _,_,_ => false
def resOk (P : Program) : ResultVar → ResC → Bool
 | .tmp t,.t t' _ => t == t'
 | .cell a t,.cell a' ag sz => a == a' && tyAg P t == some ag && tySz P t == some sz
 | _,_ => false
def ressOk (P : Program) : List ResultVar → List ResC → Bool
 | [],[] => true
 | r :: rs,c :: cs => resOk P r c && ressOk P rs cs
 | _,_ => false
def chkFn (P : Program) (f : FuncId) (fn : Func) (c : CFn) : Bool :=
 match fn.body with
 | some b => decide (c.np ≤ fn.ntmps) && decide (fn.name ≠ "runtime.NumGoroutine") && ressOk P fn.results.toList c.res && chkCd P fn.ntmps (some (f,c.rds)) b c.body
 | none => false
def RoOk (P : Program) (fns : FuncId → Option CFn) : OkP := fun f i fs r =>
 ∃ c rd,fns f = some c ∧ c.rds[i]? = some rd ∧ rd.fs = fs ∧ r.params.toList = rd.ps ∧ rd.ps.Nodup ∧ (∀ t ∈ rd.ps,t < r.tmps.size) ∧ (∀ s ∈ fs,s < r.tmps.size) ∧
  chkCd P r.tmps.size none r.assign rd.assign = true ∧ chkCd P r.tmps.size none r.body rd.body = true
section
variable {P : Program} {okP : OkP × Tab} {d nt : Nat} {m0 : Mem} {g0 : Gh} {w0 : World}
def QE (d nt : Nat) (m0 : Mem) (g0 : Gh) (w0 : World) (r : Ex × St) : Exit → Act → World → Prop
 | .normal,a,w => r.1 = .normal ∧ InvE d nt m0 g0 w0 r.2 a w
 | .exit id,a,w => r.1 = .exit id ∧ InvE d nt m0 g0 w0 r.2 a w
 | .ret,a,w => r.1 = .ret ∧ InvE d nt m0 g0 w0 r.2 a w
 | _,_,_ => False
theorem gets_caps {f : List (Nat × PV)} : ∀ {fs : List Nat} {caps : List (Nat × PV)},gets f fs = some caps → caps.length = fs.length ∧ ∀ (j : Nat) (c : Nat × PV) (s : Nat),caps[j]? = some c → fs[j]? = some s → get f s = some c.2
 | [],caps,h => by simp only [gets,Option.some.injEq] at h; subst h; exact ⟨rfl,fun j c s hc => by simp at hc⟩
 | t :: fs,caps,h => by
  simp only [gets] at h
  split at h
  ·rename_i v vs hv hvs
   cases h
   obtain ⟨h1,h2⟩ := gets_caps hvs
   refine ⟨by simp [h1],fun j c s hc hs => ?_⟩
   cases j with
   | zero => simp only [List.getElem?_cons_zero,Option.some.injEq] at hc hs; subst hc; subst hs; exact hv
   | succ j => exact h2 j c s (by simpa using hc) (by simpa using hs)
  ·cases h
theorem leftBy_cases {st : St} {j : Nat} {r : Ex × St} (h : leftBy st j = some r) : ∃ s,get st.own j = some [.lrec s] ∧ s ≠ 1 ∧ r.2 = st.kill (some j) ∧ r.1 = (match s with | 0 => .normal | 2 => .ret | 1 => .normal | k + 3 => .exit k) := by
 unfold leftBy at h
 split at h
 ·rename_i hj; cases h; exact ⟨0,hj,by decide,rfl,rfl⟩
 ·rename_i hj; cases h; exact ⟨2,hj,by decide,rfl,rfl⟩
 ·rename_i k hj; cases h; exact ⟨k + 3,hj,by omega,rfl,rfl⟩
 ·cases h
theorem range_ok {fns : FuncId → Option CFn} (hokP : okP.1 = RoOk P fns) {K : Callee} (hK : Snd P okP K) (hok : OkG okP g0 w0) {f0 : FuncId} {cfn : CFn} (hf0 : fns f0 = some cfn) {g : Operand} {ps : Array Tmp} {assign body : Code} {g' : Opd} {j : Nat} {fs : List Nat} {f : FuncId} {i : Nat}
  (hk : chkCd P nt (some (f0,cfn.rds)) (.rangeFunc g ps assign body) (.range g' j fs f i) = true) {st : St} {r : Ex × St} {a : Act} {w : World} (h : InvE d nt m0 g0 w0 st a w) (he : rangeEv K g' j fs f i st = some r) :
  (Code.rangeFunc g ps assign body).wpIn (Fw none) 0 P (QE d nt m0 g0 w0 r) a w := by
 simp only [chkCd,Bool.and_eq_true,beq_iff_eq] at hk
 obtain ⟨⟨rfl,hg⟩,hk⟩ := hk
 split at hk
 case h_2 => cases hk
 rename_i rd hrd
 simp only [Bool.and_eq_true,decide_eq_true_eq,List.all_eq_true] at hk
 obtain ⟨⟨⟨⟨⟨hps,hfs⟩,hnd⟩,hlt⟩,hka⟩,hkb⟩ := hk
 obtain ⟨gh,om,szm,hi⟩ := h
 unfold rangeEv at he
 split at he
 case h_2 => cases he
 rename_i f1 cap1 caps hgv hcaps hfree
 have hgV := (opd_V hi hg hgv).1
 obtain ⟨firstV,capsV,hgval⟩ : ∃ us vs,a.eval g = .func (.func f1) us vs := by generalize a.eval g = q at hgV; cases hgV <;> exact ⟨_,_,rfl⟩
 split at he
 case h_2 => cases he
 rename_i v b own' m' hKe
 split at he
 case h_2 => cases he
 rename_i hbo hbt
 refine wpIn_rangeFunc fun fn _ => ?_
 let r0 : Loop := { state := .ready,pending := none,fn,tmps := a.tmps,params := ps,assign,body,defers := w.heap.size }
 obtain ⟨g1,hle1,hlp1,hi1⟩ := hi.enter hfree (r0 := r0) ⟨rfl,rfl⟩
 obtain ⟨hcl,hcg⟩ := gets_caps hcaps
 have hntm : a.tmps.size = nt := hi.nt
 have hfslt : ∀ s ∈ fs,s < a.tmps.size := by
  intro s hs
  obtain ⟨jj,hjj⟩ := List.getElem?_of_mem hs
  have hjlt : jj < caps.length := by rw [hcl]; exact (List.getElem?_eq_some_iff.1 hjj).1
  have := hcg jj _ s (List.getElem?_eq_getElem hjlt) hjj
  rw [hntm]; exact (hi.f s _ this).1
 have hroF : g1.ok f i fs r0 := by
  rw [hle1.ok,hi.kp.ok,hok.1,hokP]
  exact ⟨cfn,rd,hf0,hrd,hfs,hps.symm,nodupB_spec hnd,fun t ht => by show t < a.tmps.size; rw [hntm]; exact hlt t ht,hfslt,by show chkCd P a.tmps.size none assign rd.assign = true; rw [hntm]; exact hka,by show chkCd P a.tmps.size none body rd.body = true; rw [hntm]; exact hkb⟩
 have hy : V g1 (.rnd f i fs (caps.map fun p => p.2.untag) st.m.length j) (.func (.yield (w.heap.size + 1)) #[] #[]) := by
  refine .rnd f i fs _ _ j _ r0 (by rw [hi.lv]; exact hlp1) hroF (by simp [hcl]) fun jj c s hc hs => ?_
  rw [List.getElem?_map] at hc
  obtain ⟨p,hp,rfl⟩ := Option.map_eq_some_iff.1 hc
  exact ((hi.f s _ (hcg jj p s hp hs)).2.1.mono hle1).untag
 have hends := hK _ _ _ _ _ _ _ hKe g1 _ (.func (.func f1) firstV capsV) #[.func (.yield (w.heap.size + 1)) #[] #[]] (hok.kp hi1.kp) hi1.rel (by rw [← hgval]; exact hgV.mono hle1) rfl
  (fun jj c hc => by
   cases jj with
   | zero => simp only [List.getElem?_cons_zero,Option.some.injEq] at hc; subst hc; exact hy
   | succ jj => simp at hc) (fun c hc => by simp only [List.mem_singleton] at hc; subst hc; rfl)
 rcases hends with ⟨f2,first2,caps2,fn2,hrf,hfn,hbody,hname,hcall⟩ | ⟨l,r,hrf,_⟩
 case inr => injection hrf with hrf1; cases hrf1
 injection hrf with hrf1 hrf2 hrf3
 injection hrf1 with hrf1
 subst hrf1; subst hrf2; subst hrf3
 refine ⟨w.heap.size + 1,[{ target := .collected w.heap.size,args := #[] }],((w.alloc (.deferred (some []))).alloc (.loop r0)),{ target := .fn (.func f1) capsV,args := firstV ++ #[.func (.yield (w.heap.size + 1)) #[] #[]] },((w.alloc (.deferred (some []))).alloc (.loop r0)),f1,firstV ++ #[.func (.yield (w.heap.size + 1)) #[] #[]] ++ capsV,((w.alloc (.deferred (some []))).alloc (.loop r0)),run_enterLoop_outer fn a.tmps ps assign body,?_,fun _ _ => trivial,?_,fun hh => by simp [Fw] at hh,?_⟩
 ·simp [resolve,Deferred.ofValue,hgval,show ∀ v,a.eval (.const v) = v from fun _ => rfl]
 ·simp [invoke,callFunc,hfn,hname,Option.isNone_iff_eq_none,Option.isSome_iff_ne_none.1 hbody]
 have hcall' : CallsIn (Fw none) 0 P f1 (firstV ++ #[.func (.yield (w.heap.size + 1)) #[] #[]] ++ capsV) ((w.alloc (.deferred (some []))).alloc (.loop r0)) fun e w' => ∃ rv,e = .returned rv ∧ ∃ g',CallPost (((j,[.lrec 0]) :: st.own) :: st.m) g1 ((w.alloc (.deferred (some []))).alloc (.loop r0)) (own' :: m') b v g' w' rv := by
  exact hcall
 refine hcall'.mono ?_
 rintro e w3 ⟨rv,rfl,g2,hp⟩
 obtain ⟨g3,hle3,hi3⟩ := hi1.calledLe hp (dst := none) (fun t ht => by cases ht) (st' := { st with own := own',m := m' }) (by
  unfold unpack
  simp only [hbo,hbt]
  rfl)
 obtain ⟨om3,szm3,hi3⟩ := hi3
 obtain ⟨s,hs1,hs2,hs3,hs4⟩ := leftBy_cases he
 simp only at hs1
 have hlp3 := hle3.lp _ _ _ hlp1
 have hm3 : mget (own' :: m') d j [] = some [.lrec s] := by
  have := hi3.lv
  simp only at this
  rw [← this,mget_own,lget_nil]; exact hs1
 obtain ⟨pn,hheap⟩ := hi3.rel.notLoop hlp3 hm3
 have hst : (turned { r0 with pending := pn } s).state ≠ .busy := by
  match s,hs2 with
  | 0,_ => exact fun hh => LoopState.noConfusion hh
  | 2,_ => exact fun hh => LoopState.noConfusion hh
  | k + 3,_ => exact fun hh => LoopState.noConfusion hh
 refine ⟨_,_,run_endLoop hheap hst,?_⟩
 have hI : InvE d nt m0 g0 w0 r.2 { a with defers := [{ target := .collected w.heap.size,args := #[] }] ++ a.defers } (w3.putObj (w.heap.size + 1) (.loop { turned { r0 with pending := pn } s with state := .exhausted })) := by
  rw [hs3]
  refine ⟨g3,om3,szm3,(hi3.kill j).putDead hheap ⟨d,j,r0,hlp3⟩ fun lv jj r1 zs hl hz => ?_⟩
  simp only [St.kill] at hz
  have hz0 : ∃ zs0,mget (own' :: m') lv jj [] = some zs0 ∧ ¬ (lv = d ∧ jj = j) := by
   have hl3 := hi3.lv
   simp only at hl3
   rw [mget_cons,hl3] at hz
   by_cases hl' : lv = d
   ·rw [if_pos hl',lget_del] at hz
    split at hz
    ·cases hz
    ·rename_i hne
     exact ⟨zs,by rw [mget_cons,hl3,if_pos hl']; exact hz,fun hh => hne hh.2⟩
   ·rw [if_neg hl'] at hz
    exact ⟨zs,by rw [mget_cons,hl3,if_neg hl']; exact hz,fun hh => hl' hh.1⟩
  obtain ⟨zs0,hz0,hne⟩ := hz0
  exact hne (hi3.rel.injL _ _ _ _ _ _ _ _ _ hl hlp3 hz0 hm3)
 match s,hs2,hs4 with
 | 0,_,hs4 => exact ⟨hs4,hI⟩
 | 2,_,hs4 => exact wpIn_ret ⟨hs4,hI⟩
 | k + 3,_,hs4 => exact wpIn_exit ⟨hs4,hI⟩
theorem code_ok (hm : P.follows .mixedOrders = true) {fns : FuncId → Option CFn} (hokP : okP.1 = RoOk P fns) {ro : Option Nat} {K : Callee} (hK : Snd P okP K) (hok : OkG okP g0 w0) (n : Nat) : ∀ {cd : Cd} {c : Code} {o : Option (FuncId × List Rd)} {st : St} {r : Ex × St} {a : Act} {w : World},(∀ p,o = some p → ro = none ∧ ∃ cfn,fns p.1 = some cfn ∧ cfn.rds = p.2) → chkCd P nt o c cd = true → InvE d nt m0 g0 w0 st a w → cd.ev K n st = some r →
  c.wpIn (Fw ro) 0 P (QE d nt m0 g0 w0 r) a w := by
 intro cd
 induction cd with
 | skip =>
  intro c o st r a w ho hk h he
  cases c <;> simp only [chkCd] at hk <;> try (cases hk; done)
  simp only [Cd.ev,Option.some.injEq] at he; subst he
  exact wpIn_skip ⟨rfl,h⟩
 | draw k rows cs =>
  intro c o st r a w ho hk h he
  cases c <;> simp only [chkCd] at hk <;> try (cases hk; done)
  rename_i id ops dr
  simp only [Bool.and_eq_true] at hk
  obtain ⟨⟨rfl,hk⟩,hdr⟩ := hk
  simp only [Cd.ev] at he
  split at he
  ·rename_i st' h1
   cases he
   by_cases hx : k = xMode
   ·rw [if_pos hx] at hdr
    simp only [drawEv,if_pos hx] at h1
    exact drawx_ok hm hK hok hk hdr h h1 fun a' w' hi => ⟨rfl,hi⟩
   ·rw [if_neg hx] at hdr
    exact draw_ok hm hK hok hk hdr h h1 hx fun a' w' hi => ⟨rfl,hi⟩
  ·cases he
 | reg cs =>
  intro c o st r a w ho hk h he
  cases c <;> simp only [chkCd] at hk <;> try (cases hk; done)
  rename_i id ops dr
  simp only [Bool.and_eq_true,Bool.not_eq_true'] at hk
  obtain ⟨rfl,hk⟩ := hk
  simp only [Cd.ev] at he
  split at he
  ·rename_i st' h1
   cases he
   refine wpIn_region ?_
   have := reg_ok (ro := ro) (Q := QE d nt m0 g0 w0 (.normal,st')) hK hok (i := 0) hk (fun j o hj => by simpa using hj) h h1 (fun a' w' hi => ⟨rfl,hi⟩)
   simpa [List.range_eq_range'] using this
  ·cases he
 | seq x y ihx ihy =>
  intro c o st r a w ho hk h he
  cases c <;> simp only [chkCd] at hk <;> try (cases hk; done)
  simp only [Bool.and_eq_true] at hk
  simp only [Cd.ev] at he
  refine wpIn_seq ?_
  split at he
  ·rename_i st1 h1
   refine wpIn_mono (ihx ho hk.1 h h1) ?_
   intro e a' w' hq
   cases e with
   | normal => exact ihy ho hk.2 hq.2 he
   | exit id => exact absurd hq.1 (by simp)
   | ret => exact absurd hq.1 (by simp)
   | goto _ => exact hq.elim
   | panic _ => exact hq.elim
   | outgrown => exact hq.elim
  ·rename_i hne
   refine wpIn_mono (ihx ho hk.1 h he) ?_
   intro e a' w' hq
   cases e with
   | normal => exact absurd (by obtain ⟨r1,r2⟩ := r; simp only [QE] at hq; obtain ⟨rfl,_⟩ := hq; exact he) (hne r.2)
   | exit id => exact hq
   | ret => exact hq
   | goto _ => exact hq.elim
   | panic _ => exact hq.elim
   | outgrown => exact hq.elim
 | cond c0 x y ihx ihy =>
  intro c o st r a w ho hk h he
  cases c <;> simp only [chkCd] at hk <;> try (cases hk; done)
  rename_i cc x' y'
  simp only [Bool.and_eq_true] at hk
  simp only [Cd.ev] at he
  obtain ⟨g,om,szm,hi⟩ := h
  split at he
  ·rename_i hc
   have hv := (opd_V hi hk.1.1 hc).1
   have hb : a.eval cc = .bool true := by generalize a.eval cc = q at hv; cases hv; rfl
   exact wpIn_cond_true hb (ihx ho hk.1.2 ⟨g,om,szm,hi⟩ he)
  ·rename_i hc
   have hv := (opd_V hi hk.1.1 hc).1
   have hb : a.eval cc = .bool false := by generalize a.eval cc = q at hv; cases hv; rfl
   exact wpIn_cond_false hb (ihy ho hk.2 ⟨g,om,szm,hi⟩ he)
  ·cases he
 | block id x ih =>
  intro c o st r a w ho hk h he
  cases c <;> simp only [chkCd] at hk <;> try (cases hk; done)
  rename_i id' x'
  simp only [Bool.and_eq_true,beq_iff_eq] at hk
  obtain ⟨rfl,hk⟩ := hk
  simp only [Cd.ev] at he
  refine wpIn_block ?_
  split at he
  ·rename_i id1 st1 h1
   refine wpIn_mono (ih ho hk h h1) ?_
   intro e a' w' hq
   cases e with
   | normal => exact absurd hq.1 (by simp)
   | exit id2 =>
    have h2 : id1 = id2 := by have := hq.1; simpa using this
    subst h2
    simp only [Exit.inBlock]
    split at he
    ·rename_i hb
     have := beq_iff_eq.1 hb
     subst this
     cases he
     rw [if_pos rfl]; exact ⟨rfl,hq.2⟩
    ·rename_i hb
     cases he
     rw [if_neg (by simpa using hb)]; exact ⟨rfl,hq.2⟩
   | ret => exact absurd hq.1 (by simp)
   | goto _ => exact hq.elim
   | panic _ => exact hq.elim
   | outgrown => exact hq.elim
  ·rename_i hne
   refine wpIn_mono (ih ho hk h he) ?_
   intro e a' w' hq
   cases e with
   | normal => exact hq
   | exit id2 => exact absurd (by obtain ⟨r1,r2⟩ := r; simp only [QE] at hq; obtain ⟨rfl,_⟩ := hq; exact he) (hne id2 r.2)
   | ret => exact hq
   | goto _ => exact hq.elim
   | panic _ => exact hq.elim
   | outgrown => exact hq.elim
 | loop fs ks ts ds x ih =>
  intro c o st r a w ho hk h he
  cases c <;> simp only [chkCd] at hk <;> try (cases hk; done)
  rename_i x'
  simp only [Cd.ev] at he
  refine wpIn_loop_rounds n ?_
  have key : ∀ (m : Nat) (st : St) (a : Act) (w : World),InvE d nt m0 g0 w0 st a w → loopN (maskSt fs ks ts ds) (x.ev K n) m st = some r → Code.roundsIn (Fw ro) 0 P x' (QE d nt m0 g0 w0 r) m a w := by
   intro m
   induction m with
   | zero => intro st a w _ he; simp [loopN] at he
   | succ m ihm =>
    intro st a w h he
    simp only [loopN] at he
    rw [roundsIn_succ]
    split at he
    ·cases he
    ·rename_i st1 hm
     obtain ⟨g,om,szm,hi⟩ := h
     obtain ⟨g',om',hi'⟩ := hi.mask hm
     have hI1 : InvE d nt m0 g0 w0 st1 a w := ⟨g',om',szm,hi'⟩
     split at he
     ·rename_i st2 h2
      refine wpIn_mono (ih ho hk hI1 h2) ?_
      intro e a' w' hq
      cases e with
      | normal => exact ihm st2 a' w' hq.2 he
      | exit id => exact absurd hq.1 (by simp)
      | ret => exact absurd hq.1 (by simp)
      | goto _ => exact hq.elim
      | panic _ => exact hq.elim
      | outgrown => exact hq.elim
     ·rename_i hne
      refine wpIn_mono (ih ho hk hI1 he) ?_
      intro e a' w' hq
      cases e with
      | normal => exact absurd (by obtain ⟨r1,r2⟩ := r; simp only [QE] at hq; obtain ⟨rfl,_⟩ := hq; exact he) (hne r.2)
      | exit id => exact hq
      | ret => exact hq
      | goto _ => exact hq.elim
      | panic _ => exact hq.elim
      | outgrown => exact hq.elim
  exact key n st a w h he
 | range g j fs f i =>
  intro c o st r a w ho hk h he
  cases c with
  | rangeFunc gg ps assign body =>
   cases o with
   | none => simp [chkCd] at hk
   | some p =>
    obtain ⟨f0,rds⟩ := p
    obtain ⟨rfl,cfn,hf0,rfl⟩ := ho _ rfl
    simp only [Cd.ev] at he
    exact range_ok hokP hK hok hf0 hk h he
  | _ => simp [chkCd] at hk
 | exit id =>
  intro c o st r a w ho hk h he
  cases c <;> simp only [chkCd] at hk <;> try (cases hk; done)
  have := beq_iff_eq.1 hk
  subst this
  simp only [Cd.ev,Option.some.injEq] at he; subst he
  exact wpIn_exit ⟨rfl,h⟩
 | ret =>
  intro c o st r a w ho hk h he
  cases c <;> simp only [chkCd] at hk <;> try (cases hk; done)
  simp only [Cd.ev,Option.some.injEq] at he; subst he
  exact wpIn_ret ⟨rfl,h⟩
end
end Go.Proofs.Ytmffcpiffkclgaa.ZJM
