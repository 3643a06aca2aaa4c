/- A store, cell by cell; a new variable. -/
import Derived.Test.YtmffcpiffkclgaaZJ5
set_option linter.unusedSimpArgs false
set_option linter.unusedVariables false
namespace Go.Proofs.Ytmffcpiffkclgaa.ZJM
open Go.RowKit
section
variable {P : Program} {d nt : Nat} {m0 : Mem} {g0 : Gh} {w0 : World} {g : Gh} {om : Nat → Value} {szm : Nat → Nat} {st : St} {a : Act} {w : World}
theorem lget_del {own : Lvl} {sl s : Nat} {p : Path} : lget (del own sl) s p = if s = sl then none else lget own s p := by
 unfold lget
 rw [get_del]
 by_cases h : s = sl
 ·rw [if_pos h,if_pos h]
 ·rw [if_neg h,if_neg h]
theorem Inv.kill (h : Inv d nt m0 g0 w0 g om szm st a w) (sl : Nat) : Inv d nt m0 g0 w0 g om szm (st.kill (some sl)) a w := by
 have hget : ∀ l s p zs,mget (del st.own sl :: st.m) l s p = some zs → mget (st.own :: st.m) l s p = some zs := by
  intro l s p zs hz
  rw [mget_cons] at hz ⊢
  split
  ·rename_i hl
   rw [if_pos hl,lget_del] at hz
   split at hz
   ·cases hz
   ·exact hz
  ·rename_i hl
   rw [if_neg hl] at hz; exact hz
 have hrel : Rel g (del st.own sl :: st.m) w :=
  ⟨h.rel.hG,fun lv s p b o t hb zs hz => h.rel.hM _ _ _ _ _ _ hb _ (hget _ _ _ _ hz),fun lv s l r hb zs hz => h.rel.hL _ _ _ _ hb _ (hget _ _ _ _ hz),fun l s p l' s' p' b o t o' t' zs zs' h1 h2 hz hz' => h.rel.inj _ _ _ _ _ _ _ _ _ _ _ _ _ h1 h2 (hget _ _ _ _ hz) (hget _ _ _ _ hz'),
   fun l s l' s' b r r' zs zs' h1 h2 hz hz' => h.rel.injL _ _ _ _ _ _ _ _ _ h1 h2 (hget _ _ _ _ hz) (hget _ _ _ _ hz'),fun lv s p j v x h1 zs hz => h.rel.ver _ _ _ _ _ _ h1 _ (hget _ _ _ _ hz),fun l s p x hx => h.rel.lv _ _ _ _ hx,fun l s x hx => h.rel.lpv _ _ _ hx,h.rel.bd,h.rel.bdL,h.rel.pre⟩
 have hfree : ∀ s,isFree st s = false → isFree (st.kill (some sl)) s = false := by
  intro s hs
  cases hf : isFree (st.kill (some sl)) s with
  | false => rfl
  | true =>
   obtain ⟨q1,q2⟩ := isFree_iff.1 hf
   simp only [St.kill] at q1 q2
   rw [get_del] at q1
   split at q1
   ·rename_i he; subst he; simp at q2
   ·have : isFree st s = true := isFree_iff.2 ⟨q1,by simp only [List.contains_cons,Bool.or_eq_false_iff] at q2; exact q2.2⟩
    rw [hs] at this; cases this
 exact h.turn (own' := del st.own sl) (dead' := sl :: st.dead) (m' := st.m) (Gh.le.refl g) hrel h.lv (Kp.refl d g w) (fun s p x hx => hfree s (h.nm _ _ _ hx)) (fun s x hx => hfree s (h.nmL _ _ hx)) fun _ _ _ => rfl
theorem getD_set (C : Array Value) (i j : Nat) (rv : Value) (h : i < C.size) : (C.setIfInBounds i rv).getD j undef = if j = i then rv else C.getD j undef := by
 rw [Array.getD_eq_getD_getElem?,Array.getD_eq_getD_getElem?,Array.getElem?_setIfInBounds]
 by_cases hj : j = i
 ·subst hj; simp [h]
 ·rw [if_neg (Ne.symm hj),if_neg hj]
theorem plain_row {lv sl : Nat} {p : Path} {cs : List PV} {C : Array Value} {o : Nat} (h4 : ∀ j c,cs[j]? = some c → MC g lv sl p j c (C.getD (o + j) undef)) (hc : cs.all PV.isCell = true) :
  ∀ j c,cs[j]? = some c → c.isCell = true ∧ c.untag1 = c ∧ V g c (C.getD (o + j) undef) := by
 intro j c hj
 have h1 := List.all_eq_true.1 hc c (getElem?_mem' hj)
 obtain ⟨h2,_,h3⟩ := (MC.plain h1).1 (h4 j c hj)
 exact ⟨h1,h2,h3⟩
theorem Inv.put1 (h : Inv d nt m0 g0 w0 g om szm st a w) {lv sl b o t : Nat} {p : Path} (hb : g.blk lv sl p = some (b,o,t)) {j : Nat} {c : PV} {rv : Value} (hcc : c.isCell = true) (hcu : c.untag1 = c) (hcv : V g c rv) {st' : St} (he : put1 st lv sl p j c = some st')
  {C : Array Value} {E : TypeId} (hh : w.heap[b]? = some (.cells C E (0,0))) {w' : World} (hu : Upd w w' b (C.setIfInBounds (o + j) rv) E) : ∃ g',g.le g' ∧ Inv d nt m0 g0 w0 g' om szm st' a w' := by
 unfold Go.Proofs.Ytmffcpiffkclgaa.ZJM.put1 at he
 split at he
 ·rename_i cs hcs
  split at he
  ·rename_i old hj
   split at he
   ·rename_i c' k hin
    split at he
    ·rename_i hdep
     have hjlt : j < cs.length := (List.getElem?_eq_some_iff.1 hj).1
     obtain ⟨C0,E0,hh0,hsz0,hle0,h40,h50⟩ := h.rel.hM _ _ _ _ _ _ hb _ hcs
     rw [hh] at hh0; cases hh0
     have hij : o + j < C.size := by omega
     have hC : (C.setIfInBounds (o + j) rv).size = C.size := by simp
     have hCj : (C.setIfInBounds (o + j) rv).getD (o + j) undef = rv := by rw [getD_set _ _ _ _ hij,if_pos rfl]
     have hCo : ∀ i,i ≠ o + j → (C.setIfInBounds (o + j) rv).getD i undef = C.getD i undef := fun i hi => by rw [getD_set _ _ _ _ hij,if_neg hi]
     have hmem : ∀ (s1 : St),s1.m = st.m → s1.mem (mset (s1.own :: s1.m) lv sl p (cs.set j c')) = some st' → ∃ own' m',mset (s1.own :: s1.m) lv sl p (cs.set j c') = some (own' :: m') ∧ st' = { s1 with own := own',m := m' } := by
      intro s1 _ hm
      unfold St.mem at hm
      split at hm
      ·rename_i own' m' hmm
       exact ⟨own',m',hmm,(Option.some.inj hm).symm⟩
      ·cases hm
     have plainCase : isPlace old = false → c' = c → k = none → ∃ g',g.le g' ∧ Inv d nt m0 g0 w0 g' om szm st' a w' := by
      rintro ho rfl rfl
      obtain ⟨own',m',hm,rfl⟩ := hmem st rfl he
      refine ⟨g,Gh.le.refl g,h.setPlain hb hcs hm (by simp) hh hu hC fun i e hi => ?_⟩
      by_cases hij : i = j
      ·subst hij
       rw [List.getElem?_set_self hjlt] at hi
       cases hi
       exact .inr ⟨hcc,hcu,hdep,by rw [hCj]; exact hcv,old,hj,ho⟩
      ·rw [List.getElem?_set_ne (Ne.symm hij)] at hi
       exact .inl ⟨hi,hCo _ (by omega)⟩
     have nilCase : ∀ sz',(∀ s,old ≠ .lrec s) → rv = .slice none 0 0 → c' = .vnil (nextVer old) sz' → k = none → ∃ g',g.le g' ∧ Inv d nt m0 g0 w0 g' om szm st' a w' := by
      rintro sz' _ hr rfl rfl
      obtain ⟨own',m',hm,rfl⟩ := hmem st rfl he
      exact ⟨g,Gh.le.refl g,h.setPlace hb hcs hj hm hh hu hC hCo (Gh.le.refl g) rfl rfl rfl (by simp [nextVer]) (fun _ _ _ _ hx => by cases hx) (fun _ _ _ _ hx => by cases hx) (fun l s q y hy => .inl hy) (by rw [hCj]; exact hr) (fun _ _ _ _ hx => by cases hx)⟩
     unfold inC at hin
     split at hin
     ·
      rename_i lv' sl' p' off' n' sz'
      split at hin
      ·rename_i hmv
       simp only [Bool.and_eq_true,beq_iff_eq,List.isEmpty_iff] at hmv
       obtain ⟨rfl,rfl⟩ := hmv
       split at hin
       ·rename_i cs' hcs'
        split at hin
        ·rename_i hcond
         simp only [Bool.and_eq_true,beq_iff_eq,Bool.not_eq_true',Bool.and_eq_false_iff,beq_eq_false_iff_ne] at hcond
         obtain ⟨⟨⟨rfl,hlen⟩,hall⟩,hne⟩ := hcond
         have hne' : ¬ (lv = st.m.length ∧ sl = sl') := fun hh => by rcases hne with h1 | h1; exact h1 hh.1; exact h1 hh.2
         have hres : c' = .vec (nextVer old) n' sz' cs' ∧ k = some sl' ∧ ∀ s,old ≠ .lrec s := by
          split at hin
          ·cases hin
          ·rename_i hol; cases hin; exact ⟨rfl,rfl,fun s hs => hol s hs⟩
         obtain ⟨rfl,rfl,hol⟩ := hres
         cases hcv with
         | slr _ _ _ _ _ _ b1 o1 t1 off1 c1 hb1 ho1 hc1 =>
         have hlr : mget (st.own :: st.m) st.m.length sl' [] = some cs' := by rw [mget_own,lget_nil]; exact hcs'
         obtain ⟨C1,E1,a1,a2,a3,a4,a5⟩ := h.rel.hM _ _ _ _ _ _ hb1 _ hlr
         have a6 := plain_row a4 hall
         have hbb : b1 ≠ b := fun hh => by
          have := h.rel.inj _ _ _ _ _ _ _ _ _ _ _ _ _ (hh ▸ hb1) hb hlr hcs
          exact hne' ⟨this.1.symm,this.2.1.symm⟩
         have hk := h.kill sl'
         have hkm : (st.kill (some sl')).m = st.m := rfl
         have hko : (st.kill (some sl')).own = del st.own sl' := rfl
         obtain ⟨own',m',hm,rfl⟩ := hmem (st.kill (some sl')) rfl he
         have hcs2 : mget ((st.kill (some sl')).own :: (st.kill (some sl')).m) lv sl p = some cs := by
          rw [hkm,hko,mget_cons]
          rw [mget_cons] at hcs
          by_cases hl : lv = st.m.length
          ·rw [if_pos hl] at hcs ⊢
           rw [lget_del,if_neg (fun hs => hne' ⟨hl,hs⟩)]
           exact hcs
          ·rw [if_neg hl] at hcs ⊢; exact hcs
         have hfresh : g.blk lv sl (p ++ [(j,nextVer old)]) = none := by
          cases hg : g.blk lv sl (p ++ [(j,nextVer old)]) with
          | none => rfl
          | some x =>
           obtain ⟨c0,q1,q2⟩ := h.rel.ver _ _ _ _ _ _ hg _ hcs
           rw [hj] at q1; cases q1; omega
         have hle := Gh.key_le (x := (b1,o1,t1)) hfresh
         refine ⟨_,hle,hk.setPlace hb hcs2 hj hm hh hu hC hCo hle rfl rfl rfl (by simp [nextVer]) (fun v n sz ys hx => ?_) (fun v n sz ys hx => ?_) (fun l s q y hy => ?_) ?_ (fun v n sz ys hx b2 o2 t2 hb2 => ?_)⟩
         ·cases hx; exact List.all_eq_true.1 hall
         ·cases hx; exact Nat.le_refl _
         ·rcases Gh.key_cases hy with ⟨rfl,rfl,rfl,rfl⟩ | ⟨_,h3⟩
          ·exact .inr ⟨rfl,rfl,_,rfl,Nat.le_refl _,⟨_,_,_,rfl⟩,_,_,_,_,_,hb1⟩
          ·exact .inl h3
         ·rw [hCj]
          refine ⟨b1,o1,t1,off1,c1,Gh.key_here,rfl,hc1,fun hc => ?_,hlen⟩
          obtain ⟨q1,q2⟩ := ho1 hc
          exact ⟨by omega,by omega⟩
         ·cases hx
          have hh2 : (g.key lv sl (p ++ [(j,nextVer old)]) (b1,o1,t1)).blk lv sl (p ++ [(j,nextVer old)]) = some (b1,o1,t1) := Gh.key_here
          rw [hh2] at hb2
          simp only [Option.some.injEq,Prod.mk.injEq] at hb2
          obtain ⟨rfl,rfl,rfl⟩ := hb2
          refine ⟨C1,E1,by rw [hu.off _ hbb]; exact a1,a2,a3,fun i c hi => ?_,a5,fun l s q o' t' zs hl hz => ?_⟩
          ·obtain ⟨q1,q2,q3⟩ := a6 i c hi
           have hdep' : PV.deps (lv + 1) cs' = true := by simpa [PV.dep] using hdep
           exact ⟨q2,deps_mem hdep' c (getElem?_mem' hi),q3.mono hle⟩
          ·exfalso
           rw [hkm,hko] at hz
           have hz0 : mget (st.own :: st.m) l s q = some zs ∧ ¬ (l = st.m.length ∧ s = sl') := by
            rw [mget_cons] at hz ⊢
            by_cases hl' : l = st.m.length
            ·rw [if_pos hl',lget_del] at hz
             rw [if_pos hl']
             split at hz
             ·cases hz
             ·rename_i hs; exact ⟨hz,fun hh => hs hh.2⟩
            ·rw [if_neg hl'] at hz ⊢
             exact ⟨hz,fun hh => hl' hh.1⟩
           obtain ⟨q1,q2,_⟩ := h.rel.inj _ _ _ _ _ _ _ _ _ _ _ _ _ hl hb1 hz0.1 hlr
           exact hz0.2 ⟨q1,q2⟩
        ·cases hin
       ·cases hin
      ·split at hin
       ·rename_i ver n sz cs0
        split at hin
        ·rename_i hcond
         simp only [Bool.and_eq_true,beq_iff_eq,decide_eq_true_eq] at hcond
         obtain ⟨⟨⟨⟨rfl,rfl⟩,rfl⟩,rfl⟩,hle1⟩ := hcond
         split at hin
         ·rename_i hall
          cases hin
          obtain ⟨own',m',hm,rfl⟩ := hmem st rfl he
          cases hcv with
          | slr _ _ _ _ _ _ b1 o1 t1 off1 c1 hb1 ho1 hc1 =>
          have hlr : mget (st.own :: st.m) lv' sl' (p ++ [(j,ver)]) = some cs0 := by
           rw [mget_append,hcs]
           simp only [Option.bind_some,tget,hj,beq_self_eq_true,if_true]
          obtain ⟨C1,E1,a1,a2,a3,a4,a5⟩ := h.rel.hM _ _ _ _ _ _ hb1 _ hlr
          have a6 := plain_row a4 hall
          have hbb : b1 ≠ b := fun hh => by
           have := (h.rel.inj _ _ _ _ _ _ _ _ _ _ _ _ _ (hh ▸ hb1) hb hlr hcs).2.2
           exact append_snoc_ne _ _ this
          have hfresh : g.blk lv' sl' (p ++ [(j,ver + 1)]) = none := by
           cases hg : g.blk lv' sl' (p ++ [(j,ver + 1)]) with
           | none => rfl
           | some x =>
            obtain ⟨c0,q1,q2⟩ := h.rel.ver _ _ _ _ _ _ hg _ hcs
            rw [hj] at q1; cases q1; simp [nextVer] at q2
          have hle := Gh.key_le (x := (b1,o1 + off',t1)) hfresh
          have hsub : ∀ i c,((cs0.drop off').take (n' * sz'))[i]? = some c → cs0[off' + i]? = some c := fun i c hi => by
           rw [List.getElem?_take] at hi
           split at hi
           ·rw [List.getElem?_drop] at hi; exact hi
           ·cases hi
          refine ⟨_,hle,h.setPlace hb hcs hj hm hh hu hC hCo hle rfl rfl rfl (by simp [nextVer]) (fun v n sz ys hx => ?_) (fun v n sz ys hx => ?_) (fun l s q y hy => ?_) ?_ (fun v n sz ys hx b2 o2 t2 hb2 => ?_)⟩
          ·cases hx; exact fun c hc => List.all_eq_true.1 hall c (List.mem_of_mem_drop (List.mem_of_mem_take hc))
          ·cases hx; simp [nextVer]
          ·rcases Gh.key_cases hy with ⟨rfl,rfl,rfl,rfl⟩ | ⟨_,h3⟩
           ·exact .inr ⟨rfl,rfl,_,rfl,by simp [nextVer],⟨_,_,_,rfl⟩,_,_,_,_,_,hb1⟩
           ·exact .inl h3
          ·rw [hCj]
           refine ⟨b1,o1 + off',t1,off1,c1,Gh.key_here,rfl,hc1,fun hc => ?_,by simp; omega⟩
           obtain ⟨q1,q2⟩ := ho1 hc
           exact ⟨q1,by omega⟩
          ·cases hx
           have hh2 : (g.key lv' sl' (p ++ [(j,ver + 1)]) (b1,o1 + off',t1)).blk lv' sl' (p ++ [(j,ver + 1)]) = some (b1,o1 + off',t1) := Gh.key_here
           rw [hh2] at hb2
           simp only [Option.some.injEq,Prod.mk.injEq] at hb2
           obtain ⟨rfl,rfl,rfl⟩ := hb2
           refine ⟨C1,E1,by rw [hu.off _ hbb]; exact a1,a2,by simp; omega,fun i c hi => ?_,a5,fun l s q o' t' zs hl hz => ?_⟩
           ·obtain ⟨q1,q2,q3⟩ := a6 _ c (hsub i c hi)
            have hdep' : PV.deps (lv' + 1) ((cs0.drop off').take (n' * sz')) = true := by simpa [PV.dep] using hdep
            rw [Nat.add_assoc]
            exact ⟨q2,deps_mem hdep' c (getElem?_mem' hi),q3.mono hle⟩
           ·obtain ⟨q1,q2,q3⟩ := h.rel.inj _ _ _ _ _ _ _ _ _ _ _ _ _ hl hb1 hz hlr
            exact ⟨q1,q2,ver,[],q3⟩
         ·cases hin
        ·cases hin
       ·split at hin
        ·cases hin
        ·rename_i hpl; cases hin; exact plainCase (by simpa using hpl) rfl rfl
     ·
      rename_i oo nl sz' xs
      split at hin
      ·split at hin
       ·cases hin
       ·rename_i hol
        split at hin
        ·rename_i hnl
         cases hin
         subst hnl
         refine nilCase sz' (fun s hs => hol s hs) ?_ rfl rfl
         cases hcv; rfl
        ·cases hin
      ·rename_i hpl; cases hin; exact plainCase (by simpa using hpl) rfl rfl
     ·split at hin
      ·cases hin
      ·rename_i hpl; cases hin; exact plainCase (by simpa using hpl) rfl rfl
    ·cases he
   ·cases he
  ·cases he
 ·cases he
theorem Upd.after {w1 w2 : World} {b : Nat} {C1 C2 : Array Value} {E : TypeId} (h : Upd w w2 b C2 E) (k : Upd w w1 b C1 E) : Upd w1 w2 b C2 E :=
 ⟨h.at_,fun i hi => (h.off i hi).trans (k.off i hi).symm,h.size.trans k.size.symm,h.os.trans k.os.symm,h.tape.trans k.tape.symm,h.output.trans k.output.symm⟩
theorem put1_len {lv sl : Nat} {p : Path} {j : Nat} {c : PV} {st' : St} (he : Go.Proofs.Ytmffcpiffkclgaa.ZJM.put1 st lv sl p j c = some st') : ∃ cs,mget (st.own :: st.m) lv sl p = some cs ∧ j < cs.length := by
 unfold Go.Proofs.Ytmffcpiffkclgaa.ZJM.put1 at he
 split at he
 ·rename_i cs hcs
  split at he
  ·rename_i old hj
   exact ⟨cs,hcs,(List.getElem?_eq_some_iff.1 hj).1⟩
  ·cases he
 ·cases he
theorem splice_cons (C : Array Value) (i : Nat) (v : Value) (r : List Value) (h : i + 1 + r.length ≤ C.size) : splice (C.setIfInBounds i v).toList r (i + 1) = splice C.toList (v :: r) i := by
 refine List.ext_getElem? fun j => ?_
 rw [splice_get (by simp; omega),splice_get (by simp; omega)]
 simp only [List.length_cons,Array.getElem?_toList,Array.getElem?_setIfInBounds]
 by_cases h1 : i + 1 ≤ j ∧ j < i + 1 + r.length
 ·rw [if_pos h1,if_pos (by omega),show j - i = (j - (i + 1)) + 1 by omega,List.getElem?_cons_succ]
 ·rw [if_neg h1]
  by_cases h2 : i = j
  ·subst h2
   rw [if_pos rfl,if_pos (by omega),if_pos (by omega)]; simp
  ·rw [if_neg h2,if_neg (by omega)]
theorem Inv.putCs {lv sl b o t : Nat} {p : Path} {E : TypeId} : ∀ {cs : List PV} {vs : List Value} {j : Nat} {st st' : St} {g : Gh} {w w' : World} {C : Array Value},Inv d nt m0 g0 w0 g om szm st a w → g.blk lv sl p = some (b,o,t) → w.heap[b]? = some (.cells C E (0,0)) →
  cs.length = vs.length → (∀ i c,cs[i]? = some c → c.isCell = true ∧ c.untag1 = c ∧ V g c (vs.getD i undef)) → Go.Proofs.Ytmffcpiffkclgaa.ZJM.putCs lv sl p j cs st = some st' → Upd w w' b (splice C.toList vs (o + j)).toArray E → ∃ g',g.le g' ∧ Inv d nt m0 g0 w0 g' om szm st' a w'
 | [],[],j,st,st',g,w,w',C,h,hb,hh,hl,hV,he,hu => by
  simp only [Go.Proofs.Ytmffcpiffkclgaa.ZJM.putCs,Option.some.injEq] at he; subst he
  have hs : splice C.toList ([] : List Value) (o + j) = C.toList := by simp [splice]
  rw [hs,Array.toArray_toList] at hu
  have hheap : ∀ k,w'.heap[k]? = w.heap[k]? := fun k => by
   by_cases hk : k = b
   ·subst hk; rw [hu.at_,hh]
   ·exact hu.off k hk
  have hcell : ∀ ad,w'.cell? ad = w.cell? ad := fun ad => by simp only [World.cell?,hheap]
  refine ⟨g,Gh.le.refl g,?_⟩
  have hrel : Rel g (st.own :: st.m) w' := h.rel.world (by rw [hu.size]; exact Nat.le_refl _) (fun b o v hb => by rw [hcell]; exact h.rel.hG b o v hb) (fun _ _ _ x => x) rfl rfl rfl (fun k C' E' hk _ => ⟨by rw [hheap]; exact hk,fun _ => rfl⟩) (fun k r hk => by rw [hheap]; exact hk)
  exact h.turn (own' := st.own) (dead' := st.dead) (m' := st.m) (Gh.le.refl g) hrel h.lv ⟨by rw [hu.size]; exact Nat.le_refl _,fun k _ _ => ⟨hheap k,fun _ => rfl⟩,fun _ _ _ x => x,fun _ _ _ _ _ x => x,fun _ _ _ => rfl,fun l s q b' o' t' x => .inl ⟨l,s,q,o',t',x⟩,fun l s b' r x => .inl ⟨l,s,r,x⟩,fun l s q x _ y => ⟨q,x,y⟩,hu.os,hu.tape,hu.output,rfl⟩ h.nm h.nmL (fun _ _ _ => rfl)
 | c :: cs,v :: vs,j,st,st',g,w,w',C,h,hb,hh,hl,hV,he,hu => by
  simp only [Go.Proofs.Ytmffcpiffkclgaa.ZJM.putCs] at he
  split at he
  ·rename_i st1 h1
   obtain ⟨hc1,hc2,hc3⟩ := hV 0 c rfl
   have hc3' : V g c v := by simpa using hc3
   obtain ⟨zs,hzs,hjlt⟩ := put1_len h1
   obtain ⟨C0,E0,hh0,hsz0,hle0,_⟩ := h.rel.hM _ _ _ _ _ _ hb _ hzs
   rw [hh] at hh0; cases hh0
   have hu1 : Upd w (w.setRow b (C.setIfInBounds (o + j) v)) b (C.setIfInBounds (o + j) v) E := Upd.row hh
   obtain ⟨g1,hle1,hi1⟩ := h.put1 hb hc1 hc2 hc3' h1 hh hu1
   have hlen : cs.length = vs.length := by simpa using hl
   have hin : o + j + 1 + vs.length ≤ C.size ∨ vs = [] := by
    cases vs with
    | nil => exact .inr rfl
    | cons v2 vs2 =>
     left
     have key : ∀ (cs : List PV) (j : Nat) (st st' : St) (n : Nat),Go.Proofs.Ytmffcpiffkclgaa.ZJM.putCs lv sl p j cs st = some st' → (∃ zs,mget (st.own :: st.m) lv sl p = some zs ∧ zs.length = n) → cs ≠ [] → j + cs.length ≤ n := by
      intro cs
      induction cs with
      | nil => intro _ _ _ _ _ _ hne; exact absurd rfl hne
      | cons c cs ih =>
       intro j st st' n he hz _
       simp only [Go.Proofs.Ytmffcpiffkclgaa.ZJM.putCs] at he
       split at he
       ·rename_i st1 h1
        obtain ⟨zs,hz1,hz2⟩ := hz
        obtain ⟨zs',hz3,hz4⟩ := put1_len h1
        rw [hz1] at hz3; cases hz3
        by_cases hcs : cs = []
        ·subst hcs; simp; omega
        ·have h2 : ∃ zs,mget (st1.own :: st1.m) lv sl p = some zs ∧ zs.length = n := by
          unfold Go.Proofs.Ytmffcpiffkclgaa.ZJM.put1 at h1
          rw [hz1] at h1
          simp only at h1
          split at h1
          ·split at h1
           ·rename_i c' k _
            split at h1
            ·unfold St.mem at h1
             split at h1
             ·rename_i own' m' hm
              cases h1
              obtain ⟨y,W⟩ := mset_wrote hm
              exact ⟨_,W.here,by simp [hz2]⟩
             ·cases h1
            ·cases h1
           ·cases h1
          ·cases h1
         have := ih (j + 1) st1 st' n he h2 hcs
         simp only [List.length_cons]; omega
       ·cases he
     have := key (c :: cs) j st st' zs.length (by simp only [Go.Proofs.Ytmffcpiffkclgaa.ZJM.putCs,h1]; exact he) ⟨zs,hzs,rfl⟩ (by simp)
     simp only [List.length_cons] at this hlen ⊢
     omega
   have hsp : splice (C.setIfInBounds (o + j) v).toList vs (o + (j + 1)) = splice C.toList (v :: vs) (o + j) := by
    rcases hin with hin | rfl
    ·have := splice_cons C (o + j) v vs (by omega)
     rwa [Nat.add_assoc] at this
    ·have := splice_cons C (o + j) v [] (by simp; omega)
     rwa [Nat.add_assoc] at this
   obtain ⟨g2,hle2,hi2⟩ := Inv.putCs (w' := w') hi1 (hle1.blk _ _ _ _ hb) hu1.at_ hlen (fun i e hi => by
    obtain ⟨q1,q2,q3⟩ := hV (i + 1) e (by simpa using hi)
    exact ⟨q1,q2,by have := q3.mono hle1; simpa using this⟩) he (by rw [hsp]; exact hu.after hu1)
   exact ⟨g2,hle1.trans hle2,hi2⟩
  ·cases he
 | [],_ :: _,_,_,_,_,_,_,_,_,_,_,hl,_,_,_ => by simp at hl
 | _ :: _,[],_,_,_,_,_,_,_,_,_,_,hl,_,_,_ => by simp at hl
theorem vcell_one {u : Value} (h : vcell u = true) : u.oneCell' = true := by cases u <;> first | rfl | (simp [vcell] at h)
theorem vcells {v : PV} {rv : Value} (h : V g v rv) (hc : v.isVal = true) : ∀ u ∈ rv.cells.toList,u.oneCell' = true := by
 obtain ⟨h1,h2⟩ := cells_V h hc
 intro u hu
 obtain ⟨j,hj⟩ := List.getElem?_of_mem hu
 have hlt : j < rv.cells.size := by have := (List.getElem?_eq_some_iff.1 hj).1; simpa using this
 have := h2 j v.cells[j] (List.getElem?_eq_getElem (by omega))
 have h3 := this.vcell (isVal_cells hc _ (List.getElem_mem _))
 have h4 : rv.cells.getD j undef = u := by
  have hj' : rv.cells[j]? = some u := by simpa using hj
  simp [Array.getD_eq_getD_getElem?,hj']
 rw [h4] at h3
 exact vcell_one h3
theorem run_storeVar {t : TypeId} {sz b off : Nat} {C : Array Value} {E : TypeId} {rv : Value} (hs : tySz P t = some sz) (hh : w.heap[b]? = some (.cells C E (0,0))) (hl : rv.cells.size = sz)
  (hle : off + sz ≤ C.size) (h1 : ∀ u ∈ rv.cells.toList,u.oneCell' = true) :
  (Instr.storeAt t (.pointer (some ⟨b,off,none⟩)) rv).run P w = .ok () (w.setRow b (splice C.toList rv.cells.toList off).toArray) := by
 have := run_storeCells_at P b off E rv.cells.toList 0 C w hh (by simp; omega) h1
 simp only [Nat.add_zero] at this
 simp [Instr.storeAt,Instr.sureAddr,storeVar,run_sizeOf hs,hl,this,splice]
theorem untag1_untag1 (c : PV) : c.untag1.untag1 = c.untag1 := by cases c <;> rfl
theorem cells_plain {v : PV} {rv : Value} (h : V g v rv) (hc : v.isVal = true) : ∀ i c,(v.cells.map PV.untag1)[i]? = some c → c.isCell = true ∧ c.untag1 = c ∧ V g c (rv.cells.toList.getD i undef) := by
 intro i c hi
 rw [List.getElem?_map] at hi
 obtain ⟨u,hu,rfl⟩ := Option.map_eq_some_iff.1 hi
 have h1 := (cells_V h hc).2 i u hu
 refine ⟨by rw [isCell_untag1]; exact isVal_cells hc u (getElem?_mem' hu),untag1_untag1 u,?_⟩
 have := h1.untag1
 simpa [List.getD_eq_getElem?_getD,Array.getD_eq_getD_getElem?] using this
theorem store_ok (h : Inv d nt m0 g0 w0 g om szm st a w) {t : TypeId} {sz : Nat} (hs : tySz P t = some sz) {x y : PV} {rx ry : Value} (hx : V g x rx) (hy : V g y ry) {st' : St}
  (he : storeEv st sz x y = some st') : ∃ w' g',(Instr.storeAt t rx ry).run P w = .ok () w' ∧ Inv d nt m0 g0 w0 g' om szm st' a w' := by
 cases x with
 | ptr l s p off =>
  cases hx with
  | ptr _ _ _ _ b o tt hb =>
  simp only [storeEv] at he
  split at he
  ·rename_i cs hcs
   split at he
   ·rename_i hc
    simp only [Bool.and_eq_true,beq_iff_eq,decide_eq_true_eq] at hc
    obtain ⟨⟨hval,hlen⟩,hle⟩ := hc
    obtain ⟨C,E,hh,hsz,hle0,h4,h5⟩ := h.rel.hM _ _ _ _ _ _ hb _ hcs
    obtain ⟨hn,hcv⟩ := cells_V hy hval
    have hpl := cells_plain hy hval
    have hrun := run_storeVar (P := P) hs hh (by omega) (show o + off + sz ≤ C.size by omega) (vcells hy hval)
    have hul : (y.cells.map PV.untag1).length = y.cells.length := by simp
    have hrl : ry.cells.toList.length = y.cells.length := by rw [hn]; simp
    split at he
    ·rename_i hplain
     simp only [Bool.and_eq_true,List.all_eq_true,Bool.not_eq_true'] at hplain
     split at he
     ·rename_i hdep
      unfold St.mem at he
      split at he
      ·rename_i own' m' hm
       cases he
       refine ⟨_,g,hrun,h.setPlain hb hcs hm (splice_length (by omega)) hh (Upd.row hh) (by simp [splice_length (cs := C.toList) (new := ry.cells.toList) (off := o + off) (by simp; omega)]) fun j c hj => ?_⟩
       rw [splice_get (by omega),hul] at hj
       have hC : (splice C.toList ry.cells.toList (o + off)).toArray.getD (o + j) undef = if off ≤ j ∧ j < off + y.cells.length then ry.cells.toList.getD (j - off) undef else C.getD (o + j) undef := by
        rw [Array.getD_eq_getD_getElem?,List.getElem?_toArray,splice_get (by simp; omega),hrl]
        by_cases hr : off ≤ j ∧ j < off + y.cells.length
        ·rw [if_pos hr,if_pos (by omega),List.getD_eq_getElem?_getD,show o + j - (o + off) = j - off by omega]
        ·rw [if_neg hr,if_neg (by omega)]
         simp [Array.getD_eq_getD_getElem?]
       rw [hC]
       by_cases hr : off ≤ j ∧ j < off + y.cells.length
       ·rw [if_pos hr] at hj ⊢
        obtain ⟨q1,q2,q3⟩ := hpl _ c hj
        have hjc : j < cs.length := by omega
        refine .inr ⟨q1,q2,?_,q3,cs[j],List.getElem?_eq_getElem hjc,?_⟩
        ·rw [List.getElem?_map] at hj
         obtain ⟨u,hu,rfl⟩ := Option.map_eq_some_iff.1 hj
         have := deps_mem hdep u (getElem?_mem' hu)
         cases u <;> exact this
        ·refine hplain.2 cs[j] ?_
         refine List.mem_of_getElem? (i := j - off) ?_
         rw [List.getElem?_take_of_lt (by omega),List.getElem?_drop,show off + (j - off) = j by omega]
         exact List.getElem?_eq_getElem hjc
       ·rw [if_neg hr] at hj ⊢
        exact .inl ⟨hj,rfl⟩
      ·cases he
     ·cases he
    ·obtain ⟨g',_,hi⟩ := h.putCs (vs := ry.cells.toList) (w' := w.setRow b (splice C.toList ry.cells.toList (o + off)).toArray) hb hh (by omega) hpl he (Upd.row hh)
     exact ⟨_,g',hrun,hi⟩
   ·cases he
  ·cases he
 | _ => simp [storeEv] at he
theorem Inv.newVar (h : Inv d nt m0 g0 w0 g om szm st a w) {dst : Option Nat} (hd : ∀ t,dst = some t → t < nt) {cs : List PV} {C : Array Value} {E : TypeId} (hl : cs.length = C.size)
  (hc : ∀ j c,cs[j]? = some c → c.isCell = true ∧ V g c (C.getD j undef)) {st' : St} (he : newVar st dst cs = some st') :
  ∃ g',Inv d nt m0 g0 w0 g' om szm st' (a.put dst (.pointer (some ⟨w.heap.size,0,none⟩))) (w.alloc (.cells C E (0,0))) := by
 unfold Go.Proofs.Ytmffcpiffkclgaa.ZJM.newVar at he
 split at he
 ·rename_i dd
  split at he
  ·rename_i hcond
   simp only [Bool.and_eq_true] at hcond
   have hpl : ∀ j c,(cs.map PV.untag1)[j]? = some c → c.isCell = true ∧ c.untag1 = c ∧ V g c (C.getD j undef) := by
    intro j c hj
    rw [List.getElem?_map] at hj
    obtain ⟨u,hu,rfl⟩ := Option.map_eq_some_iff.1 hj
    obtain ⟨q1,q2⟩ := hc j u hu
    exact ⟨by rw [isCell_untag1]; exact q1,untag1_untag1 u,q2.untag1⟩
   obtain ⟨g1,hle1,hi1,hb1⟩ := h.newVar0 (E := E) hcond.1 (cs := cs.map PV.untag1) (C := C) (by simpa using hl) hpl
   have hi2 := hi1.put (dst := some dd) hd (v := .ptr st.m.length dd [] 0) (.ptr _ _ [] 0 w.heap.size 0 C.size (by rw [h.lv]; exact hb1)) (by simp only [Tg]; trivial)
   split at he
   ·cases he; exact ⟨g1,hi2⟩
   ·have hh : (w.alloc (.cells C E (0,0))).heap[w.heap.size]? = some (.cells C E (0,0)) := by rw [heap_alloc_at,if_pos rfl]
    have hsame : splice C.toList C.toList (0 + 0) = C.toList := by simp [splice]
    obtain ⟨g2,_,hi3⟩ := hi2.putCs (vs := C.toList) (w' := w.alloc (.cells C E (0,0))) (by rw [h.lv]; exact hb1) hh (by simpa using hl) (fun i c hi => by
     obtain ⟨q1,q2,q3⟩ := hpl i c hi
     refine ⟨q1,q2,?_⟩
     have := q3.mono hle1
     simpa [List.getD_eq_getElem?_getD,Array.getD_eq_getD_getElem?] using this) he (by rw [hsame,Array.toArray_toList]; exact Upd.same hh)
    exact ⟨g2,hi3⟩
  ·cases he
 ·cases he
end
end Go.Proofs.Ytmffcpiffkclgaa.ZJM
set_option linter.unusedSimpArgs false
set_option linter.unusedVariables false
namespace Go.Proofs.Ytmffcpiffkclgaa.ZJM
open Go.RowKit
section
variable {P : Program} {d nt : Nat} {m0 : Mem} {g0 : Gh} {w0 : World} {g : Gh} {om : Nat → Value} {szm : Nat → Nat} {st : St} {a : Act} {w : World}
theorem Inv.newNil (h : Inv d nt m0 g0 w0 g om szm st a w) {tag : Bool} {dst : Option Nat} (hd : ∀ t,dst = some t → t < nt) {sz e : Nat} {st' : St} (hs : newList st tag dst true sz e [] = some st') :
  ∃ om' szm',Inv d nt m0 g0 w0 g om' szm' st' (a.put dst (.slice none 0 0)) w := by
 cases dst with
 | none => simp [newList] at hs
 | some dd =>
  cases tag with
  | false =>
   simp only [newList,Option.some.injEq] at hs; subst hs
   exact ⟨om,szm,h.put (dst := some dd) hd (v := .lst none true sz []) (.nil none sz) (by simp only [Tg]; trivial)⟩
  | true =>
   simp only [newList] at hs
   split at hs
   ·rename_i hn
    cases hs
    have h1 := h.tag (n := dd) (p := (0,e)) (rv := .slice none 0 0) (sz := sz) (.inl hn) ⟨[],World.ownsRow_nil w _ e sz,fun b hb => by cases hb⟩ (fun k q b _ _ _ hb => by cases hb)
    refine ⟨_,_,h1.put (dst := some dd) hd (v := .lst (some dd) true sz []) (.nil _ sz) ?_⟩
    simp only [Tg,TgC]
    exact ⟨(0,e),by rw [get_cons,if_pos rfl],Nat.le_refl _,fun _ => by simp⟩
   ·cases hs
theorem fill_flat {sz : Nat} : ∀ (vs : List Value) (k : Nat) (C : Array Value),(∀ v ∈ vs,v.cells.size = sz) → (k + vs.length) * sz ≤ C.size →
  ∃ C',Instr.fill (fun i => some (i * sz,sz)) C ((vs.zipIdx k).map fun x => (x.2,x.1)) = some C' ∧ C'.size = C.size ∧
   ∀ j,C'[j]? = if k * sz ≤ j ∧ j < (k + vs.length) * sz then (vs.flatMap (·.cells.toList))[j - k * sz]? else C[j]?
 | [],k,C,_,_ => ⟨C,rfl,rfl,fun j => by rw [if_neg (by simp)]⟩
 | v :: vs,k,C,hs,hC => by
  have hv := hs v (by simp)
  simp only [List.length_cons] at hC
  have hC2 : k * sz + sz + vs.length * sz ≤ C.size := by
   have : (k + (vs.length + 1)) * sz = k * sz + sz + vs.length * sz := by rw [Nat.add_mul,Nat.succ_mul]; omega
   omega
  have hC1 : (v.cells.zipIdx.foldl (fun cs x => cs.setIfInBounds (k * sz + x.2) x.1) C) = (v.cells.toList.zipIdx 0).foldl (fun cs x => cs.setIfInBounds (k * sz + x.2) x.1) C := by
   rw [← Array.foldl_toList,Array.toList_zipIdx]
  obtain ⟨C',h1,h2,h3⟩ := fill_flat vs (k + 1) ((v.cells.toList.zipIdx 0).foldl (fun cs x => cs.setIfInBounds (k * sz + x.2) x.1) C) (fun x hx => hs x (by simp [hx])) (by
   rw [foldl_set_size,show k + 1 + vs.length = k + (vs.length + 1) by omega]; exact hC)
  refine ⟨C',?_,by rw [h2,foldl_set_size],fun j => ?_⟩
  ·simp only [List.zipIdx_cons,List.map_cons,Instr.fill]
   rw [if_neg (by simp [hv]; omega),hC1]
   exact h1
  ·rw [h3 j,foldl_set_get]
   have e1 : (k + 1) * sz = k * sz + sz := Nat.succ_mul k sz
   have e2 : (k + 1 + vs.length) * sz = k * sz + sz + vs.length * sz := by rw [Nat.add_mul,e1]
   have e3 : (k + (vs.length + 1)) * sz = k * sz + sz + vs.length * sz := by rw [Nat.add_mul,Nat.succ_mul]; omega
   have hl : v.cells.toList.length = sz := by simpa using hv
   simp only [List.length_cons,List.flatMap_cons,e1,e2,e3,Nat.add_zero]
   by_cases c1 : k * sz + sz ≤ j ∧ j < k * sz + sz + vs.length * sz
   ·rw [if_pos c1,if_pos (by omega),List.getElem?_append_right (by omega),hl,show j - k * sz - sz = j - (k * sz + sz) by omega]
   ·rw [if_neg c1]
    by_cases c2 : k * sz ≤ j ∧ j < k * sz + sz
    ·rw [if_pos (by omega),if_pos (by omega),List.getElem?_append_left (by omega)]
    ·rw [if_neg (by omega),if_neg (by omega)]
theorem flat_V {sz : Nat} : ∀ {vs : List PV} {rs : List Value},vs.length = rs.length → (∀ v ∈ vs,v.isVal = true ∧ v.cells.length = sz) → (∀ (i : Nat) (v : PV) (r : Value),vs[i]? = some v → rs[i]? = some r → V g v r) →
  (vs.flatMap PV.cells).length = (rs.flatMap (·.cells.toList)).length ∧ ∀ j c,(vs.flatMap PV.cells)[j]? = some c → V g c ((rs.flatMap (·.cells.toList)).getD j undef)
 | [],[],_,_,_ => ⟨rfl,fun j c hj => by simp at hj⟩
 | v :: vs,r :: rs,hl,hs,hV => by
  obtain ⟨h1,h2⟩ := flat_V (vs := vs) (rs := rs) (by simpa using hl) (fun v hv => hs v (by simp [hv])) (fun i v r hv hr => hV (i + 1) v r (by simpa using hv) (by simpa using hr))
  obtain ⟨h3,h4⟩ := cells_V (hV 0 v r rfl rfl) (hs v (by simp)).1
  have hlen : v.cells.length = r.cells.toList.length := by simpa using h3
  refine ⟨by simp only [List.flatMap_cons,List.length_append,h1,hlen],fun j c hj => ?_⟩
  simp only [List.flatMap_cons] at hj ⊢
  by_cases hlt : j < v.cells.length
  ·rw [List.getElem?_append_left hlt] at hj
   have := h4 j c hj
   rw [List.getD_eq_getElem?_getD,List.getElem?_append_left (by omega)]
   simpa [Array.getD_eq_getD_getElem?] using this
  ·rw [List.getElem?_append_right (by omega)] at hj
   have := h2 _ c hj
   rw [List.getD_eq_getElem?_getD,List.getElem?_append_right (by omega),← hlen,← List.getD_eq_getElem?_getD]
   exact this
theorem untag_untag (v : PV) : v.untag.untag = v.untag := by
 cases v with
 | agg cs => simp only [PV.untag,List.map_map]; congr 1; exact List.map_congr_left fun c _ => untag1_untag1 c
 | _ => rfl
theorem isVal_untag (v : PV) : v.untag.isVal = v.isVal := by
 cases v with
 | agg cs =>
  simp only [PV.untag,PV.isVal,List.all_map]
  congr 1
  funext c; exact isCell_untag1 c
 | _ => rfl
theorem cells_untag (v : PV) : v.untag.cells.length = v.cells.length := by
 cases v with
 | agg cs => simp [PV.untag,PV.cells]
 | _ => rfl
theorem sized_spec {sz : Nat} {vs : List PV} (h : sized sz vs = true) : ∀ v ∈ vs.map PV.untag,v.isVal = true ∧ v.cells.length = sz := by
 intro v hv
 obtain ⟨u,hu,rfl⟩ := List.mem_map.1 hv
 have := List.all_eq_true.1 h u hu
 simp only [Bool.and_eq_true,beq_iff_eq] at this
 rw [isVal_untag,cells_untag]
 exact this
theorem run_buildSlice {t E : TypeId} {sz : Nat} {z : Value} (hu : P.underlying t = some (.slice E)) (hs : tySz P E = some sz) (hz : ((P.info? E).bind (·.zero)) = some z) (rs : List Value)
  (hr : ∀ v ∈ rs,v.cells.size = sz) (hmax : rs.length * sz ≤ 2 ^ 24) (w : World) :
  (Instr.buildSlice t rs.length ((rs.zipIdx 0).map fun x => (x.2,x.1)).toArray).run P w =
   .ok (.slice (some ⟨w.heap.size,0,none⟩) rs.length rs.length) (w.alloc (.cells (rs.flatMap (·.cells.toList)).toArray E (0,0))) := by
 obtain ⟨i,hi,hiz⟩ := Option.bind_eq_some_iff.1 hz
 have hzr : ∀ w : World,(zeroValue E).run P w = .ok z w := fun w => by simp [zeroValue,typeInfo,hi,hiz]
 have key : ∀ zc : Array Value,∃ C',Instr.fill (fun i => some (i * sz,sz)) ((Array.range (rs.length * sz)).map (zc[· % zc.size]!)) ((rs.zipIdx 0).map fun x => (x.2,x.1)) = some C' ∧ C' = (rs.flatMap (·.cells.toList)).toArray := by
  intro zc
  obtain ⟨C',h1,h2,h3⟩ := fill_flat rs 0 ((Array.range (rs.length * sz)).map (zc[· % zc.size]!)) hr (by simp)
  refine ⟨C',h1,?_⟩
  apply Array.ext_getElem?
  intro j
  rw [h3 j]
  simp only [Nat.zero_mul,Nat.zero_le,true_and,Nat.zero_add,Nat.sub_zero,List.getElem?_toArray]
  split
  ·rfl
  ·rename_i hlt
   have hfl : (rs.flatMap (·.cells.toList)).length = rs.length * sz := by
    clear h1 h2 h3 hlt hmax
    induction rs with
    | nil => simp
    | cons r rs ih =>
     have := hr r (by simp)
     rw [List.flatMap_cons,List.length_append,ih (fun v hv => hr v (by simp [hv])),List.length_cons,Nat.succ_mul]
     simp; omega
   rw [List.getElem?_eq_none (by omega)]
   simp; omega
 have hnb : ¬ (rs.length * sz > 2 ^ 24) := by omega
 simp only [Instr.buildSlice,Sem.run_bind,run_und hu,Result.andThen_ok,run_sizeOf hs,hnb,if_false]
 have hmk : ∀ C : Array Value,({ w with heap := w.heap.push (.cells C E (0,0)) } : World) = w.alloc (.cells C E (0,0)) := fun _ => rfl
 by_cases h0 : rs.length * sz = 0
 ·obtain ⟨C',h1,rfl⟩ := key #[]
  simp only [h0,if_true,Sem.run_bind,Sem.run_pure,Result.andThen_ok] at h1 ⊢
  rw [h1]
  simp only [newRow,Sem.run_bind,run_newObj,Result.andThen_ok,Sem.run_pure,hmk]
 ·obtain ⟨C',h1,rfl⟩ := key z.cells
  simp only [h0,if_false,Sem.run_bind,hzr,Result.andThen_ok,Sem.run_pure]
  rw [h1]
  simp only [newRow,Sem.run_bind,run_newObj,Result.andThen_ok,Sem.run_pure,hmk]
theorem Inv.lit (h : Inv d nt m0 g0 w0 g om szm st a w) {tag : Bool} {dst : Option Nat} (hd : ∀ t,dst = some t → t < nt) {sz : Nat} {E : TypeId} {vs : List PV} {rs : List Value} (hl : vs.length = rs.length)
  (hsz : sized sz vs = true) (hV : ∀ (i : Nat) (v : PV) (r : Value),vs[i]? = some v → rs[i]? = some r → V g v r) (hmax : rs.length ≤ maxLen) {st' : St}
  (hs : newList st tag dst false sz E (vs.map PV.untag) = some st') :
  ∃ g' om' szm',Inv d nt m0 g0 w0 g' om' szm' st' (a.put dst (.slice (some ⟨w.heap.size,0,none⟩) rs.length rs.length)) (w.alloc (.cells (rs.flatMap (·.cells.toList)).toArray E (0,0))) := by
 have hsp := sized_spec hsz
 have hV' : ∀ (i : Nat) (v : PV) (r : Value),(vs.map PV.untag)[i]? = some v → rs[i]? = some r → V g v r := by
  intro i v r hv hr
  rw [List.getElem?_map] at hv
  obtain ⟨u,hu,rfl⟩ := Option.map_eq_some_iff.1 hv
  exact (hV i u r hu hr).untag
 obtain ⟨hfl,hfv⟩ := flat_V (g := g) (by simpa using hl) hsp hV'
 have hlen := flat_len hsp
 have hrow := h.row (C := (rs.flatMap (·.cells.toList)).toArray) (E := E) (n := (rs.flatMap (·.cells.toList)).length) (fun j v hj hlt => by
  simp only [List.getElem?_toArray] at hj
  obtain ⟨c,hc⟩ : ∃ c,((vs.map PV.untag).flatMap PV.cells)[j]? = some c := ⟨_,List.getElem?_eq_getElem (by omega)⟩
  have h1 := hfv j c hc
  rw [List.getD_eq_getElem?_getD,hj] at h1
  obtain ⟨x,hx,hxc⟩ := List.mem_flatMap.1 (getElem?_mem' hc)
  exact h1.vcell (isVal_cells (hsp x hx).1 c hxc))
 have hle := Gh.row_le h.rel (rs.flatMap (·.cells.toList)).toArray (rs.flatMap (·.cells.toList)).length
 have hval : V (g.row w.heap.size (rs.flatMap (·.cells.toList)).toArray (rs.flatMap (·.cells.toList)).length) (.lst dst false sz (vs.map PV.untag)) (.slice (some ⟨w.heap.size,0,none⟩) rs.length rs.length) := by
  have hl2 : (vs.map PV.untag).length = rs.length := by simpa using hl
  rw [← hl2]
  refine .lst dst sz _ w.heap.size 0 _ (fun j => (rs.flatMap (·.cells.toList)).getD j undef) hsp (fun x hx => by obtain ⟨u,_,rfl⟩ := List.mem_map.1 hx; exact untag_untag u) (fun j hj => ?_) (fun j c hj => (hfv j c hj).mono hle) (Nat.le_refl _)
  simp only [Gh.row,Nat.zero_add,if_true]
  rw [if_pos (by omega)]
  simp [List.getD_eq_getElem?_getD,List.getElem?_eq_getElem (show j < (rs.flatMap (·.cells.toList)).length by omega)]
 cases dst with
 | none => simp [newList] at hs
 | some dd =>
  cases tag with
  | false =>
   simp only [newList,Option.some.injEq] at hs; subst hs
   exact ⟨_,om,szm,hrow.put (dst := some dd) hd (v := .lst none false sz (vs.map PV.untag)) hval.untag1 (by simp only [Tg]; trivial)⟩
  | true =>
   simp only [newList] at hs
   split at hs
   ·rename_i hn
    cases hs
    have hflr : (rs.flatMap (·.cells.toList)).length = rs.length * sz := by rw [← hfl,hlen]; simp [hl]
    have h1 := hrow.tag (n := dd) (p := ((vs.map PV.untag).length,E)) (rv := .slice (some ⟨w.heap.size,0,none⟩) rs.length rs.length) (sz := sz) (.inl hn)
     ⟨rs.flatMap (·.cells.toList),?_,fun b hb => ?_⟩ (fun k q b hk _ hb he => ?_)
    ·refine ⟨_,_,_,h1.put (dst := some dd) hd (v := .lst (some dd) false sz (vs.map PV.untag)) hval ?_⟩
     simp only [Tg,TgC]
     exact ⟨((vs.map PV.untag).length,E),by rw [get_cons,if_pos rfl],Nat.le_refl _,fun _ => by simp⟩
    ·have := World.ownsRow_lit (base := w0.heap.size) (e := E) (size := sz) w (rs.flatMap (·.cells.toList)).toArray rs.length h.kp.size hmax (by simpa using hflr)
     simpa [hl] using this
    ·simp only [Value.ownBlock,Option.some.injEq] at hb
     subst hb
     refine ⟨?_,fun j => ?_⟩
     ·exact h.freeNew
     ·simp only [Gh.row,if_true]
      split
      ·simp
      ·rename_i hlt; rw [List.getElem?_eq_none (by omega)]
    ·simp only [Value.ownBlock,Option.some.injEq] at he
     have := (h.ownLt hk hb).2
     omega
   ·cases hs
theorem maxLen_ge : (9223372036854775807 : Nat) ≤ maxLen := by unfold maxLen; omega
theorem append_run {t ty e : TypeId} {i : TypeInfo} {z : Value} {bytes : Nat} (ht : P.underlying t = some (.slice e)) (hi : P.info? e = some i) (hz : i.zero = some z) (hby : i.bytes = bytes) (hb0 : 0 < bytes)
  (hzs : z.cells.size = i.size) (hsz : 0 < i.size) {base : Nat} {v : Value} {n : Nat} {xs : List Value} (hown : w.ownsRow base e i.size v n xs)
  {ad : Addr} {m c : Nat} {news : List Value} (hl : news.length = m * i.size) (hnews : ∀ j u,news[j]? = some u → w.cell? (ad.add j) = some u) (h1 : ∀ u ∈ news,u.oneCell' = true)
  (hbytes : (n + m) * bytes ≤ 140737488355328) (hbase : base ≤ w.heap.size) (hm : 0 < m) :
  ∃ v' w',(Builtin.append_ #[t,t] ty #[v,.slice (some ad) m c]).run P w = .ok v' w' ∧ w'.ownsRow base e i.size v' (n + m) (xs ++ news) ∧
   ((v'.ownBlock = v.ownBlock ∧ v.ownBlock ≠ none ∧ w.grownBy w' v.ownBlock) ∨ (v'.ownBlock = some w.heap.size ∧ w.grownBy w' none)) := by
 have hlen : n + m ≤ 140737488355328 := Nat.le_trans (Nat.le_mul_of_pos_right _ hb0) hbytes
 have h63 : n + m ≤ maxLen := Nat.le_trans (by omega) maxLen_ge
 obtain ⟨v',w',hr,h2,h3,h4,h5⟩ := run_append_own_at (P := P) w base t ty e i z i.size bytes ht hi hz rfl hby hzs hsz v n xs hown ad m c news hl hnews h1 h63 hbytes hbase
 refine ⟨v',w',hr,h2,?_⟩
 rcases hown.2 with ⟨rfl,rfl⟩ | ⟨gb,cap,cur,rfl,hbg,hg,hnc,hcm,hcs,htake⟩
 ·right
  refine ⟨?_,h3⟩
  rcases h5 with h5 | h5
  ·rcases h2.2 with ⟨_,h0⟩ | ⟨g',cap',cur',rfl,_⟩
   ·omega
   ·simp [Value.ownBlock] at h5
  ·exact h5
 ·by_cases hroom : n + m ≤ cap
  ·left
   rcases h5 with h5 | h5
   ·exact ⟨h5,by simp [Value.ownBlock],h3⟩
   ·exfalso
    have hfit : n * i.size + news.length ≤ cur.size := by rw [hl,hcs,← Nat.add_mul]; exact Nat.mul_le_mul_right _ hroom
    have hr2 := run_append_room (P := P) w t ty e i ht hi gb n cap cur hg ad m c news hl hnews h1 hroom hfit
    rw [hr] at hr2
    injection hr2 with hv hw
    rw [hv] at h5
    simp only [Value.ownBlock,Option.some.injEq] at h5
    have := (Array.getElem?_eq_some_iff.1 hg).1
    omega
  ·right
   have holds : ∀ j u,xs[j]? = some u → w.cell? ((⟨gb,0,none⟩ : Addr).add j) = some u := hown.cells (g := gb) rfl
   have hr2 := run_append_grow (P := P) w t ty e i z ht hi hz ⟨gb,0,none⟩ n cap xs hown.1 holds ad m c news hl hnews (by omega) (by omega) (growslice_fits (by omega) (by rw [hby]; exact hbytes))
   rw [hr] at hr2
   injection hr2 with hv hw
   refine ⟨by rw [hv]; rfl,?_⟩
   rw [hw]
   exact ⟨rfl,rfl,rfl,by simp,fun k hk _ => by rw [Go.heap_alloc_old w.drew _ k hk]; rfl⟩
theorem append_none {t ty e : TypeId} {i : TypeInfo} (ht : P.underlying t = some (.slice e)) (hi : P.info? e = some i) {ad : Option Addr} {n cap : Nat} (hn : n ≤ cap) {x : Value} (hx : x = .slice none 0 0 ∨ ∃ b c,x = .slice (some b) 0 c) :
  (Builtin.append_ #[t,t] ty #[.slice ad n cap,x]).run P w = .ok (.slice ad n cap) w := by
 rcases hx with rfl | ⟨b,c,rfl⟩ <;> cases ad <;>
  simp [Builtin.append_,run_und ht,sizeOf,typeInfo,hi,Builtin.lenOf,hn,Builtin.firstCells,loadCells,loadCellsFrom,storeCells]
theorem Inv.grow (h : Inv d nt m0 g0 w0 g om szm st a w) {e sz n m : Nat} {v v' : Value} {vals news : List Value} {w' : World} (hown : w.ownsRow w0.heap.size e sz v n vals)
  (hb : ∀ b,v.ownBlock = some b → g.free b ∧ ∀ j,g.G b j = vals[j]?) (hown' : w'.ownsRow w0.heap.size e sz v' (n + m) (vals ++ news))
  (hat : (v'.ownBlock = v.ownBlock ∧ v.ownBlock ≠ none ∧ w.grownBy w' v.ownBlock) ∨ (v'.ownBlock = some w.heap.size ∧ w.grownBy w' none)) (hvc : ∀ u ∈ news,vcell u = true)
  {t : Option Nat} (hother : ∀ k q b,get st.tops k = some q → t ≠ some k → (om k).ownBlock = some b → v.ownBlock ≠ some b)
  {tops' : List (Nat × Nat × Nat)} {om' : Nat → Value} {szm' : Nat → Nat}
  (hT : ∀ pv rv,TgC st.tops om szm pv rv → TgC tops' om' szm' pv rv)
  (htops : ∀ k q,get tops' k = some q → (t = some k ∧ q = (n + m,e) ∧ om' k = v' ∧ szm' k = sz) ∨ (t ≠ some k ∧ get st.tops k = some q ∧ om' k = om k ∧ szm' k = szm k)) :
  ∃ g',g.le g' ∧ (∀ b,v'.ownBlock = some b → ∀ j,g'.G b j = (vals ++ news)[j]?) ∧ Inv d nt m0 g0 w0 g' om' szm' { st with tops := tops' } a w' := by
 have hgb : w.grownBy w' v.ownBlock := by
  rcases hat with ⟨_,_,x⟩ | ⟨_,x⟩
  ·exact x
  ·exact ⟨x.os,x.tape,x.output,x.size,fun k hk _ => x.block k hk (by simp)⟩
 have hbt : ∀ b,v'.ownBlock = some b → w0.heap.size ≤ b ∧ b < w'.heap.size := fun b hb => hown'.lt b hb
 have hGold : ∀ b j,v'.ownBlock = some b → ∀ u,g.G b j = some u → vals[j]? = some u := by
  intro b j hb' u hu
  rcases hat with ⟨x,_,_⟩ | ⟨x,_⟩
  ·rw [← (hb b (x ▸ hb')).2 j]; exact hu
  ·rw [x] at hb'; cases hb'; have := h.rel.G_lt hu; omega
 let g' : Gh := { g with G := fun b j => if v'.ownBlock = some b then (vals ++ news)[j]? else g.G b j }
 have hle : g.le g' := by
  refine ⟨fun b o u hu => ?_,fun _ _ _ _ x => x,fun _ _ _ x => x,rfl⟩
  show (if v'.ownBlock = some b then (vals ++ news)[o]? else g.G b o) = some u
  split
  ·rename_i hb'
   have := hGold b o hb' u hu
   rw [List.getElem?_append_left (List.getElem?_eq_some_iff.1 this).1]; exact this
  ·exact hu
 have hg'b : ∀ b,v'.ownBlock = some b → ∀ j,g'.G b j = (vals ++ news)[j]? := fun b hb' j => by show (if v'.ownBlock = some b then _ else _) = _; rw [if_pos hb']
 have hg'o : ∀ b,v'.ownBlock ≠ some b → ∀ j,g'.G b j = g.G b j := fun b hb' j => by show (if v'.ownBlock = some b then _ else _) = _; rw [if_neg hb']
 have hfree : ∀ b,v'.ownBlock = some b → g.free b := by
  intro b he
  rcases hat with ⟨x,_,_⟩ | ⟨x,_⟩
  ·exact (hb b (x ▸ he)).1
  ·rw [x] at he; cases he; exact h.freeNew
 have hsame : ∀ b,b < w.heap.size → v'.ownBlock ≠ some b → w'.heap[b]? = w.heap[b]? := by
  intro b hlt hne
  rcases hat with ⟨x,_,y⟩ | ⟨x,y⟩
  ·exact y.block b hlt (fun e => hne (x.trans e.symm))
  ·exact y.block b hlt (by simp)
 have hcells : ∀ b,v'.ownBlock = some b → ∀ j u,(vals ++ news)[j]? = some u → w'.cell? ⟨b,j,none⟩ = some u := by
  intro b hb' j u hu
  have := hown'.cells hb' j u hu
  rwa [add_at,Nat.zero_add] at this
 have hvv : ∀ u ∈ vals,vcell u = true := by
  intro u hu
  rcases hown.2 with ⟨rfl,hn0⟩ | ⟨gb,cap,cur,rfl,_⟩
  ·have : vals = [] := List.eq_nil_of_length_eq_zero (by rw [hown.1,hn0]; simp)
   rw [this] at hu; cases hu
  ·obtain ⟨j,hj⟩ := List.getElem?_of_mem hu
   exact (h.rel.hG gb j u (by rw [(hb gb rfl).2 j]; exact hj)).2
 have hrel : Rel g' (st.own :: st.m) w' := by
  refine h.rel.world hgb.size (fun b o u hu => ?_) hle.G rfl rfl rfl (fun b C E hbC hlive => ?_) (fun b r hbr => ?_)
  ·by_cases hb' : v'.ownBlock = some b
   ·rw [hg'b b hb'] at hu
    refine ⟨hcells b hb' o u hu,?_⟩
    rcases List.mem_append.1 (getElem?_mem' hu) with hm | hm
    ·exact hvv u hm
    ·exact hvc u hm
   ·rw [hg'o b hb'] at hu
    obtain ⟨x,y⟩ := h.rel.hG b o u hu
    refine ⟨?_,y⟩
    have hlt := h.rel.G_lt hu
    simp only [World.cell?,hsame b hlt hb']
    simpa [World.cell?] using x
  ·obtain ⟨l,s,p,o,tt,cs,h1,_⟩ := hlive
   have hne : v'.ownBlock ≠ some b := fun he => (hfree b he).1 _ _ _ _ _ h1
   exact ⟨by rw [hsame b (Array.getElem?_eq_some_iff.1 hbC).1 hne]; exact hbC,hg'o b hne⟩
  ·have hne : v'.ownBlock ≠ some b := by
    intro he
    rcases hat with ⟨x,y,_⟩ | ⟨x,_⟩
    ·rcases hown.2 with ⟨q,_⟩ | ⟨gb,cap,cur,rfl,_,q,_⟩
     ·rw [q] at y; exact y rfl
     ·have hb2 : gb = b := by have := x ▸ he; simpa [Value.ownBlock] using this
      subst hb2; rw [hbr] at q; cases q
    ·rw [x] at he; cases he; have := (Array.getElem?_eq_some_iff.1 hbr).1; omega
   rw [hsame b (Array.getElem?_eq_some_iff.1 hbr).1 hne]; exact hbr
 refine ⟨g',hle,hg'b,⟨hrel,h.lv,fun t' pv hpv => ?_,h.nt,fun x hx => ?_,h.dn,fun k q hq => ?_,fun k k' q q' hk hq hq' => ?_,?_,h.nm,h.nmL,h.roots⟩⟩
 ·obtain ⟨x,y,z⟩ := h.f t' pv hpv
  exact ⟨x,y.mono hle,Tg.of_cells hT z⟩
 ·obtain ⟨D,h1,h2,h3,h4⟩ := h.df x hx
  have hne : v'.ownBlock ≠ some D := by
   intro he
   rcases hat with ⟨x,y,_⟩ | ⟨x,_⟩
   ·rcases hown.2 with ⟨q,_⟩ | ⟨gb,cap,cur,rfl,_,q,_⟩
    ·rw [q] at y; exact y rfl
    ·have hb2 : gb = D := by have := x ▸ he; simpa [Value.ownBlock] using this
     subst hb2; rw [h2] at q; cases q
   ·rw [x] at he; cases he; have := (Array.getElem?_eq_some_iff.1 h2).1; omega
  exact ⟨D,h1,by rw [hsame D (Array.getElem?_eq_some_iff.1 h2).1 hne]; exact h2,h3,h4⟩
 ·rcases htops k q hq with ⟨_,rfl,ho,hz⟩ | ⟨hne,hq',ho,hz⟩
  ·refine ⟨vals ++ news,by rw [ho,hz]; exact hown',fun b hb' => ?_⟩
   rw [ho] at hb'
   exact ⟨hfree b hb',hg'b b hb'⟩
  ·obtain ⟨vs,x,y⟩ := h.own k q hq'
   have hne' : ∀ b,(om k).ownBlock = some b → v'.ownBlock ≠ some b := by
    intro b hb' he
    rcases hat with ⟨x',_,_⟩ | ⟨x',_⟩
    ·exact hother k q b hq' hne hb' (x' ▸ he)
    ·rw [x'] at he; cases he; have := (x.lt _ hb').2; omega
   refine ⟨vs,by rw [ho,hz]; exact ownsRow_grown x fun b hb' => hsame b (x.lt b hb').2 (hne' b hb'),fun b hb' => ?_⟩
   rw [ho] at hb'
   exact ⟨(y b hb').1,fun j => by rw [hg'o b (hne' b hb')]; exact (y b hb').2 j⟩
 ·have hne' : ∀ j r b,get st.tops j = some r → t ≠ some j → (om j).ownBlock = some b → v'.ownBlock ≠ some b := by
   intro j r b hr hj hb' he
   rcases hat with ⟨x',_,_⟩ | ⟨x',_⟩
   ·exact hother j r b hr hj hb' (x' ▸ he)
   ·rw [x'] at he; cases he; have := (h.ownLt hr hb').2; omega
  rcases htops k q hq with ⟨h1,_,ho,_⟩ | ⟨h1,hq1,ho,_⟩ <;> rcases htops k' q' hq' with ⟨h2,_,ho',_⟩ | ⟨h2,hq2,ho',_⟩
  ·rw [h1] at h2; cases h2; exact absurd rfl hk
  ·rw [ho,ho']
   cases hb' : (om k').ownBlock with
   | none => cases hv' : v'.ownBlock <;> simp
   | some b => exact .inr (hne' k' q' b hq2 h2 hb')
  ·rw [ho,ho']
   cases hb' : (om k).ownBlock with
   | none => exact .inl rfl
   | some b => exact .inr (fun he => hne' k q b hq1 h1 hb' he.symm)
  ·rw [ho,ho']; exact h.apart k k' q q' hk hq1 hq2
 ·refine ⟨Nat.le_trans h.kp.size hgb.size,fun b hb' hn => ?_,fun b o u hu => hle.G _ _ _ (h.kp.G _ _ _ hu),h.kp.blk,h.kp.lpl,h.kp.new,h.kp.newL,h.kp.root,hgb.os.trans h.kp.os,hgb.tape.trans h.kp.tape,hgb.output.trans h.kp.output,h.kp.ok⟩
  have hne : v'.ownBlock ≠ some b := fun he => by have := (hbt b he).1; omega
  obtain ⟨q1,q2⟩ := h.kp.keep b hb' hn
  exact ⟨by rw [hsame b (by have := h.kp.size; omega) hne]; exact q1,fun q => by rw [hg'o b hne]; exact q2 q⟩
end
end Go.Proofs.Ytmffcpiffkclgaa.ZJM
set_option linter.unusedSimpArgs false
set_option linter.unusedVariables false
namespace Go.Proofs.Ytmffcpiffkclgaa.ZJM
open Go.RowKit
section
variable {P : Program} {d nt : Nat} {m0 : Mem} {g0 : Gh} {w0 : World} {g : Gh} {om : Nat → Value} {szm : Nat → Nat} {st : St} {a : Act} {w : World}
def News (g : Gh) (w : World) (sz : Nat) (ys : List PV) (ry : Value) : Prop :=
 ∃ (ad : Addr) (c : Nat) (news : List Value),ry = .slice (some ad) ys.length c ∧ news.length = ys.length * sz ∧ (∀ j u,news[j]? = some u → w.cell? (ad.add j) = some u) ∧
   (∀ u ∈ news,vcell u = true) ∧ ((∀ x ∈ ys,x.isVal = true ∧ x.cells.length = sz) ∧ ∀ x ∈ ys,x.untag = x) ∧ ∀ j c,(ys.flatMap PV.cells)[j]? = some c → V g c (news.getD j undef)
def Src (g : Gh) (w : World) (y : PV) (ry : Value) : Prop :=
 ∀ o nl sz ys,y = .lst o nl sz ys → (ys = [] → ry = .slice none 0 0 ∨ ∃ b c,ry = .slice (some b) 0 c) ∧ (ys ≠ [] → News g w sz ys ry)
theorem newsV {m : Mem} (hR : Rel g m w) {o : Option Nat} {nl : Bool} {sz : Nat} {ys : List PV} {ry : Value} (hy : V g (.lst o nl sz ys) ry) (hne : ys ≠ []) : News g w sz ys ry := by
 cases hy with
 | nil => exact absurd rfl hne
 | emp => exact absurd rfl hne
 | lst _ _ _ b off cap rv hs hu hG hV hc =>
  have hl := flat_len hs
  have hget : ∀ j u,((List.range (ys.length * sz)).map rv)[j]? = some u → j < ys.length * sz ∧ u = rv j := by
   intro j u hu
   rw [List.getElem?_map] at hu
   obtain ⟨k,hk,rfl⟩ := Option.map_eq_some_iff.1 hu
   obtain ⟨h1,h2⟩ := List.getElem?_eq_some_iff.1 hk
   simp at h1 h2
   subst h2
   exact ⟨h1,rfl⟩
  refine ⟨⟨b,off,none⟩,cap,(List.range (ys.length * sz)).map rv,rfl,by simp,fun j u hu => ?_,fun u hu' => ?_,⟨hs,hu⟩,fun j c hj => ?_⟩
  ·obtain ⟨h1,rfl⟩ := hget j u hu
   rw [add_at]
   exact (hR.hG _ _ _ (hG j (by omega))).1
  ·obtain ⟨j,hj⟩ := List.getElem?_of_mem hu'
   obtain ⟨h1,rfl⟩ := hget j u hj
   exact (hR.hG _ _ _ (hG j (by omega))).2
  ·have hlt : j < ys.length * sz := by have := (List.getElem?_eq_some_iff.1 hj).1; omega
   have := hV j c hj
   simpa [List.getD_eq_getElem?_getD,hlt] using this
theorem row_news (h : Inv d nt m0 g0 w0 g om szm st a w) {lv sl : Nat} {p : Path} {off n sz b o t off' c : Nat} (hb : g.blk lv sl p = some (b,o,t)) (ho : c ≠ 0 → off' = o + off ∧ off' + c * sz ≤ t) (hc : n ≤ c) {cs us : List PV}
  (hcs : mget (st.own :: st.m) lv sl p = some cs) (hle : off + n * sz ≤ cs.length) (hu : outCs lv sl p off ((cs.drop off).take (n * sz)) = some us) :
  (chunks sz n us).length = n ∧ (chunks sz n us).flatMap PV.cells = us ∧ (n ≠ 0 → News g w sz (chunks sz n us) (.slice (some ⟨b,off',none⟩) n c)) := by
 obtain ⟨C,E,h1,hC,hl,hun,h2,h3⟩ := h.rel.row hb hcs hle hu
 obtain ⟨k1,k2,k3⟩ := chunks_ok (sz := sz) (n := n) (l := us) (by omega) (fun u hu' => ⟨hC.isC u hu',hun u hu'⟩)
 have k4 : (chunks sz n us).flatMap PV.cells = us := by rw [k3,List.take_of_length_le (by omega)]
 refine ⟨k1,k4,fun hn => ?_⟩
 obtain ⟨q1,q2⟩ := ho (by omega)
 subst q1
 have hcell : ∀ j,j < n * sz → w.cell? ⟨b,o + off + j,none⟩ = some (C.getD (o + off + j) undef) := fun j hj => hC.at_ j (by omega)
 have hget : ∀ j u,((List.range (n * sz)).map fun j => C.getD (o + off + j) undef)[j]? = some u → j < n * sz ∧ u = C.getD (o + off + j) undef := by
  intro j u hj
  rw [List.getElem?_map] at hj
  obtain ⟨k,hk,rfl⟩ := Option.map_eq_some_iff.1 hj
  obtain ⟨h4,h5⟩ := List.getElem?_eq_some_iff.1 hk
  simp at h4 h5
  subst h5
  exact ⟨h4,rfl⟩
 refine ⟨⟨b,o + off,none⟩,c,(List.range (n * sz)).map fun j => C.getD (o + off + j) undef,by rw [k1],by rw [k1]; simp,fun j u hj => ?_,fun u hu' => ?_,⟨fun x hx => (k2 x hx).1,fun x hx => (k2 x hx).2⟩,fun j e hj => ?_⟩
 ·obtain ⟨h4,rfl⟩ := hget j u hj
  rw [add_at]
  exact hcell j h4
 ·obtain ⟨j,hj⟩ := List.getElem?_of_mem hu'
  obtain ⟨h4,rfl⟩ := hget j u hj
  have hj2 : j < us.length := by omega
  exact (hC.v j us[j] (List.getElem?_eq_getElem hj2)).vcell (hC.isC _ (List.getElem_mem _))
 ·rw [k4] at hj
  have hlt : j < n * sz := by rw [← hl]; exact (List.getElem?_eq_some_iff.1 hj).1
  have := hC.v j e hj
  simpa [List.getD_eq_getElem?_getD,hlt] using this
theorem deref_src (h : Inv d nt m0 g0 w0 g om szm st a w) {y y' : PV} {ry : Value} (hy : V g y ry) (hd : derefP st.own st.m y = some y') : Src g w y' ry := by
 cases hy with
 | slr lv sl p off n sz b o t off' c hb ho hc =>
  simp only [derefP] at hd
  split at hd
  ·rename_i cs hcs
   split at hd
   ·rename_i hle
    split at hd
    ·rename_i us hus
     cases hd
     obtain ⟨k1,k2,k3⟩ := row_news h hb ho hc.1 hcs hle hus
     intro o nl sz' ys he
     cases he
     refine ⟨fun hys => .inr ⟨⟨b,off',none⟩,c,?_⟩,fun hys => k3 ?_⟩
     ·have : n = 0 := by rw [← k1,hys]; rfl
      subst this; rfl
     ·intro h0; subst h0; exact hys rfl
    ·cases hd
   ·cases hd
  ·cases hd
 | nil o sz =>
  cases hd
  intro o' nl sz' ys he
  cases he
  exact ⟨fun _ => .inl rfl,fun hne => absurd rfl hne⟩
 | emp sz ad =>
  cases hd
  intro o' nl sz' ys he
  cases he
  exact ⟨fun _ => .inr ⟨_,_,rfl⟩,fun hne => absurd rfl hne⟩
 | lst o sz xs b off cap rv hs hu hG hV hc =>
  cases hd
  intro o' nl sz' ys he
  cases he
  exact ⟨fun he => by subst he; exact .inr ⟨_,_,rfl⟩,fun hne => newsV h.rel (.lst o sz xs b off cap rv hs hu hG hV hc) hne⟩
 | _ => cases hd; intro o' nl sz' ys he; cases he
theorem b2s_src {src dst e : TypeId} (hs : P.underlying src = some (.slice e)) (he : P.underlying e = some (.int .u8)) (hd : P.underlying dst = some .string)
  {x v : PV} {rx : Value} (hx : Src g w x rx) (hv : b2sP x = some v) : ∃ r,(convert src dst rx).run P w = .ok r w ∧ V g v r := by
 cases x with
 | lst o nl sz xs =>
  simp only [b2sP] at hv
  split at hv
  ·rename_i l hl
   cases hv
   have hl' := bytesP_spec hl
   obtain ⟨h0,h1⟩ := hx _ _ _ _ rfl
   by_cases hxs : xs = []
   ·have : l = [] := by subst hxs; cases l with | nil => rfl | cons a l => cases hl'
    subst this
    rcases h0 hxs with rfl | ⟨ad,c,rfl⟩
    ·exact ⟨_,run_convert_bytes_nil w src e hs he 0 0 dst hd,.str _⟩
    ·refine ⟨_,?_,.str _⟩
     rw [run_convert_bytes_string w src dst e _ 0 c hs he hd,run_bytesToString w ad 0 c [] (by simpa using run_loadCells_list (P := P) w ad [] (fun j v hj => by simp at hj)),foldl_push_bytes]
     simp [strOf,ByteArray.empty,ByteArray.emptyWithCapacity]
     rfl
   ·obtain ⟨ad,c,news,rfl,hnl,hnc,hnv,⟨hnx,hnu⟩,hnV⟩ := h1 hxs
    subst hl'
    have hf : ((l.map (PV.int .u8)).flatMap PV.cells) = l.map (PV.int .u8) := by
     clear hl hnl hnc hnv hnx hnu hnV h0 h1 hxs hx
     induction l with
     | nil => rfl
     | cons a l ih => simpa [PV.cells] using ih
    have hsz : sz = 1 := by
     cases l with
     | nil => exact absurd rfl hxs
     | cons a l => have := (hnx (.int .u8 a) (by simp)).2; simpa [PV.cells] using this.symm
    subst hsz
    have hnews : news = l.map (Value.int .u8) := by
     refine List.ext_getElem? fun j => ?_
     by_cases hj : j < l.length
     ·have h2 := hnV j (.int .u8 l[j]) (by rw [hf]; simp [hj])
      have h3 : j < news.length := by rw [hnl]; simpa using hj
      rw [List.getD_eq_getElem?_getD,List.getElem?_eq_getElem h3] at h2
      rw [List.getElem?_eq_getElem h3]
      simp only [Option.getD_some] at h2
      simp only [List.getElem?_map,List.getElem?_eq_getElem hj,Option.map_some,Option.some.injEq]
      cases h2' : news[j] <;> rw [h2'] at h2 <;> cases h2
      rfl
     ·rw [List.getElem?_eq_none (by rw [hnl]; simp; omega),List.getElem?_eq_none (by simp; omega)]
    have hload := run_loadCells_list (P := P) w ad news (fun j v hj => hnc j v hj)
    refine ⟨_,?_,.str _⟩
    rw [run_convert_bytes_string w src dst e _ _ c hs he hd,run_bytesToString w ad _ c l (by rw [hnews] at hload; simpa using hload),foldl_push_bytes]
    simp [strOf,ByteArray.empty,ByteArray.emptyWithCapacity]
    rfl
  ·cases hv
 | _ => simp [b2sP] at hv
theorem grown_V {g' : Gh} {b cap sz : Nat} {xs ys : List PV} {vals news : List Value} (hxs : ∀ x ∈ xs,x.isVal = true ∧ x.cells.length = sz) (hys : ∀ x ∈ ys,x.isVal = true ∧ x.cells.length = sz) (hxu : ∀ x ∈ xs ++ ys,x.untag = x)
  (hlx : vals.length = xs.length * sz) (hly : news.length = ys.length * sz) (hg : ∀ j,g'.G b j = (vals ++ news)[j]?)
  (hx : ∀ j c,(xs.flatMap PV.cells)[j]? = some c → V g' c (vals.getD j undef)) (hy : ∀ j c,(ys.flatMap PV.cells)[j]? = some c → V g' c (news.getD j undef)) (hc : xs.length + ys.length ≤ cap) (o : Option Nat) :
  V g' (.lst o false sz (xs ++ ys)) (.slice (some ⟨b,0,none⟩) (xs.length + ys.length) cap) := by
 have hs : ∀ x ∈ xs ++ ys,x.isVal = true ∧ x.cells.length = sz := by
  intro x hx
  rcases List.mem_append.1 hx with h | h
  ·exact hxs x h
  ·exact hys x h
 have hfx := flat_len hxs
 have hfy := flat_len hys
 rw [← List.length_append]
 refine .lst o sz _ b 0 cap (fun j => (vals ++ news).getD j undef) hs hxu (fun j hj => ?_) (fun j c hj => ?_) (by simpa using hc)
 ·rw [List.flatMap_append,List.length_append,hfx,hfy] at hj
  rw [Nat.zero_add,hg j]
  have : j < (vals ++ news).length := by rw [List.length_append]; omega
  simp [List.getD_eq_getElem?_getD,List.getElem?_eq_getElem this]
 ·rw [List.flatMap_append] at hj
  by_cases hlt : j < (xs.flatMap PV.cells).length
  ·rw [List.getElem?_append_left hlt] at hj
   have := hx j c hj
   rw [List.getD_eq_getElem?_getD,List.getElem?_append_left (by omega),← List.getD_eq_getElem?_getD]
   exact this
  ·rw [List.getElem?_append_right (by omega)] at hj
   have := hy _ c hj
   rw [List.getD_eq_getElem?_getD,List.getElem?_append_right (by omega),hlx,← hfx,← List.getD_eq_getElem?_getD]
   exact this
theorem app_ok (h : Inv d nt m0 g0 w0 g om szm st a w) {t ty e : TypeId} {i : TypeInfo} {z : Value} {bytes sz : Nat} (ht : P.underlying t = some (.slice e)) (hi : P.info? e = some i) (hz : i.zero = some z) (hby : i.bytes = bytes) (hb0 : 0 < bytes)
  (hzs : z.cells.size = i.size) (hsize : i.size = sz) (hsz : 0 < sz) {tag : Bool} {dst : Option Nat} (hd : ∀ t,dst = some t → t < nt) {x y : PV} {rx ry : Value} (hx : V g x rx) (hxt : Tg st.tops om szm x rx) (hy : Src g w y ry) {st' : St}
  (hs : appEv st tag sz bytes e dst x y = some st') :
  ∃ r w' g' om' szm',(Builtin.append_ #[t,t] ty #[rx,ry]).run P w = .ok r w' ∧ Inv d nt m0 g0 w0 g' om' szm' st' (a.put dst r) w' := by
 subst hsize
 cases x with
 | lst o nl sz1 xs =>
  cases y with
  | lst o2 nl2 sz2 ys =>
   simp only [appEv] at hs
   split at hs
   ·rename_i hszz
    simp only [Bool.and_eq_true,beq_iff_eq] at hszz
    obtain ⟨e1,e2⟩ := hszz
    subst e1; subst e2
    split at hs
    ·rename_i hbytes
     cases o with
     | some k =>
      simp only [] at hs
      split at hs
      ·rename_i p hp
       split at hs
       ·rename_i hpe
        simp only [Bool.and_eq_true,beq_iff_eq] at hpe
        split at hs
        ·rename_i dd tops' hup
         cases hs
         obtain ⟨p1,p2⟩ := p
         obtain ⟨q1,q2⟩ := hpe
         simp only at q1 q2
         subst q1; subst q2
         have hxt' : TgC st.tops om szm (.lst (some k) nl i.size xs) rx := hxt
         obtain ⟨p',hp',_,hrx⟩ := hxt'
         rw [hp] at hp'; cases hp'
         obtain ⟨hrx1,hrx2⟩ := hrx rfl
         obtain ⟨vals,hown,hob⟩ := h.own k _ hp
         rw [hrx2,← hrx1] at hown
         rw [← hrx1] at hob
         by_cases hys : ys = []
         ·subst hys
          have hnil : ∃ ad n cap,rx = .slice ad n cap ∧ n ≤ cap := by cases hx <;> exact ⟨_,_,_,rfl,by simp_all⟩
          obtain ⟨ad,n,cap,rfl,hn⟩ := hnil
          have hry : ry = .slice none 0 0 ∨ ∃ b c,ry = .slice (some b) 0 c := (hy _ _ _ _ rfl).1 rfl
          refine ⟨_,w,g,om,szm,append_none ht hi hn hry,?_⟩
          have h1 := h.put (dst := some dd) hd hx hxt
          simp only [List.append_nil,List.isEmpty_nil,Bool.and_true,List.length_nil,Nat.add_zero] at hup ⊢
          have hsame : ∀ s,get tops' s = get st.tops s := by
           intro s
           rw [get_upd hup s]
           split
           ·rename_i he; subst he; exact hp.symm
           ·rfl
          have hT : ∀ pv rv,TgC st.tops om szm pv rv → TgC tops' om szm pv rv := by
           intro pv rv hh
           cases pv with
           | lst o' _ _ _ => cases o' with
            | none => trivial
            | some n' => obtain ⟨q,a1,a2⟩ := hh; exact ⟨q,by rw [hsame]; exact a1,a2⟩
           | _ => trivial
          exact ⟨h1.rel,h1.lv,fun t' v' hv' => let ⟨a1,a2,a3⟩ := h1.f t' v' hv'; ⟨a1,a2,Tg.of_cells hT a3⟩,h1.nt,h1.df,h1.dn,
           fun n' p' hq => h1.own n' p' (by rw [← hq]; exact (hsame n').symm),fun n1 n2 p1 p2 hne h3 h4 => h1.apart n1 n2 p1 p2 hne (by rw [← h3]; exact (hsame n1).symm) (by rw [← h4]; exact (hsame n2).symm),h1.kp,h1.nm,h1.nmL,h1.roots⟩
         ·obtain ⟨ad,c,news,rfl,hnl,hnc,hnv,hnys,hnV⟩ := (hy _ _ _ _ rfl).2 hys
          have hm : 0 < ys.length := List.length_pos_iff.2 hys
          obtain ⟨v',w',hr,hown',hat⟩ := append_run (ty := ty) ht hi hz hby hb0 hzs hsz hown hnl hnc (fun u hu => vcell_one (hnv u hu)) (by unfold maxBytes at hbytes; omega) h.kp.size hm (c := c)
          have hup' := fun s => get_upd hup s
          have hT : ∀ pv rv,TgC st.tops om szm pv rv → TgC tops' (fun j => if j = k then v' else om j) szm pv rv := by
           intro pv rv hh
           cases pv with
           | lst o' nl' sz' xs' => cases o' with
            | none => trivial
            | some n' =>
             obtain ⟨q,a1,a2,a3⟩ := hh
             by_cases he : k = n'
             ·subst he
              rw [hp] at a1; cases a1
              exact ⟨(xs.length + ys.length,p2),by rw [hup',if_pos rfl],by simp only at a2 ⊢; omega,fun hh => by simp only at a2 hh; omega⟩
             ·exact ⟨q,by rw [hup',if_neg he]; exact a1,a2,fun hh => by simp only [Ne.symm he,if_false]; exact a3 hh⟩
           | _ => trivial
          obtain ⟨g',hle,hgb,hinv⟩ := h.grow (t := some k) (tops' := tops') (om' := fun j => if j = k then v' else om j) (szm' := szm) hown (fun b hb => hob b hb) hown' hat hnv
           (fun j q b hj hne hb he => by
            rcases h.apart j k q _ (fun hh => hne (hh ▸ rfl)) hj hp with h2 | h2
            ·rw [h2] at hb; cases hb
            ·rw [← hrx1] at h2; exact h2 (hb.trans he.symm)) hT
           (fun j q hj => by
            rw [hup'] at hj
            by_cases he : k = j
            ·rw [if_pos he] at hj; cases hj; subst he
             exact .inl ⟨rfl,rfl,by simp,hrx2⟩
            ·rw [if_neg he] at hj
             exact .inr ⟨fun hh => he (Option.some.inj hh),hj,by simp [Ne.symm he],rfl⟩)
          have hform : ∃ b cap,v' = .slice (some ⟨b,0,none⟩) (xs.length + ys.length) cap ∧ xs.length + ys.length ≤ cap := by
           rcases hown'.2 with ⟨_,h0⟩ | ⟨b,cap,cur,rfl,_,_,h4,_⟩
           ·omega
           ·exact ⟨b,cap,rfl,h4⟩
          obtain ⟨b,cap,rfl,hcap⟩ := hform
          have hnlf : (nl && ys.isEmpty) = false := by cases ys <;> simp_all
          have hxs : ((∀ x ∈ xs,x.isVal = true ∧ x.cells.length = i.size) ∧ ∀ x ∈ xs,x.untag = x) ∧ ∀ j c,(xs.flatMap PV.cells)[j]? = some c → V g c (vals.getD j undef) := by
           cases hx with
           | nil => exact ⟨⟨(fun x hx => by cases hx),(fun x hx => by cases hx)⟩,(fun j c hj => by simp at hj)⟩
           | lst _ _ _ bx off capx rvx hs hu hG hV hc =>
            refine ⟨⟨hs,hu⟩,fun j c hj => ?_⟩
            have h0 : off = 0 := by
             rcases hown.2 with ⟨hh,_⟩ | ⟨gb,_,_,hh,_⟩
             ·cases hh
             ·cases hh; rfl
            subst h0
            have hlt := (List.getElem?_eq_some_iff.1 hj).1
            have h3 := hG j hlt
            rw [Nat.zero_add,(hob bx rfl).2 j] at h3
            rw [List.getD_eq_getElem?_getD,h3]
            exact hV j c hj
          have hval := grown_V (g' := g') (b := b) (cap := cap) hxs.1.1 hnys.1 (fun x hx => (List.mem_append.1 hx).elim (hxs.1.2 x) (hnys.2 x)) hown.1 hnl (hgb b rfl) (fun j c hj => (hxs.2 j c hj).mono hle) (fun j c hj => (hnV j c hj).mono hle) hcap (some k)
          rw [hnlf]
          refine ⟨_,w',g',_,_,hr,hinv.put (dst := some dd) hd hval ?_⟩
          simp only [Tg,TgC]
          exact ⟨(xs.length + ys.length,p2),by rw [hup',if_pos rfl],by simp,fun _ => ⟨by simp,hrx2⟩⟩
        ·cases hs
       ·cases hs
      ·cases hs
     | none =>
      simp only [] at hs
      split at hs
      ·rename_i hnl
       subst hnl
       have hx0 : xs = [] ∧ rx = .slice none 0 0 := by cases hx; exact ⟨rfl,rfl⟩
       obtain ⟨rfl,rfl⟩ := hx0
       cases dst with
       | none => simp [firstList] at hs
       | some dd =>
        by_cases hys : ys = []
        ·subst hys
         simp only [firstList,Option.some.injEq] at hs
         subst hs
         have hry : ry = .slice none 0 0 ∨ ∃ b c,ry = .slice (some b) 0 c := (hy _ _ _ _ rfl).1 rfl
         exact ⟨_,w,g,om,szm,append_none ht hi (Nat.le_refl 0) hry,h.put (dst := some dd) hd (v := .lst none true i.size []) (.nil none _) (by simp only [Tg]; trivial)⟩
        ·obtain ⟨ad,c,news,rfl,hnl,hnc,hnv,hnys,hnV⟩ := (hy _ _ _ _ rfl).2 hys
         have hm : 0 < ys.length := List.length_pos_iff.2 hys
         have hown0 := World.ownsRow_nil w w0.heap.size e i.size
         obtain ⟨v',w',hr,hown',hat⟩ := append_run (ty := ty) ht hi hz hby hb0 hzs hsz hown0 hnl hnc (fun u hu => vcell_one (hnv u hu)) (by unfold maxBytes at hbytes; simp only [List.length_nil] at hbytes; omega) h.kp.size hm (c := c)
         have hform : ∃ b cap,v' = .slice (some ⟨b,0,none⟩) (0 + ys.length) cap ∧ 0 + ys.length ≤ cap := by
          rcases hown'.2 with ⟨_,h0⟩ | ⟨b,cap,cur,rfl,_,_,h4,_⟩
          ·omega
          ·exact ⟨b,cap,rfl,h4⟩
         obtain ⟨b,cap,rfl,hcap⟩ := hform
         obtain ⟨y0,yr,rfl⟩ : ∃ y0 yr,ys = y0 :: yr := by cases ys with
          | nil => exact absurd rfl hys
          | cons y0 yr => exact ⟨_,_,rfl⟩
         have mkV : ∀ (g' : Gh) (o : Option Nat),g.le g' → (∀ j,g'.G b j = ([] ++ news)[j]?) → V g' (.lst o false i.size (y0 :: yr)) (.slice (some ⟨b,0,none⟩) (0 + (y0 :: yr).length) cap) := by
          intro g' o hle hgb
          have := grown_V (g' := g') (b := b) (cap := cap) (xs := []) (vals := []) (fun x hx => by cases hx) hnys.1 (fun x hx => hnys.2 x (by simpa using hx)) (by simp) hnl hgb (fun j c hj => by simp at hj) (fun j c hj => (hnV j c hj).mono hle) hcap o
          simpa using this
         cases tag with
         | false =>
          simp only [firstList,Option.some.injEq] at hs
          subst hs
          obtain ⟨g',hle,hgb,hinv⟩ := h.grow (t := none) (tops' := st.tops) (om' := om) (szm' := szm) hown0 (fun b hb => by cases hb) hown' hat hnv
           (fun j q b hj _ hb he => by cases he) (fun _ _ x => x) (fun j q hj => .inr ⟨by simp,hj,rfl,rfl⟩)
          exact ⟨_,w',g',om,szm,hr,hinv.put (dst := some dd) hd (mkV g' none hle (hgb b rfl)) (by simp only [Tg]; trivial)⟩
         | true =>
          have hcase : (get st.tops dd = none ∨ ∃ q,get st.tops dd = some q ∧ q.1 = 0 ∧ ((y0 :: yr).length,e).1 ≠ 0) ∧ st' = { st with f := (dd,.lst (some dd) false i.size (y0 :: yr)) :: st.f,tops := (dd,(y0 :: yr).length,e) :: st.tops } := by
           simp only [firstList] at hs
           split at hs
           ·rename_i hn; cases hs; exact ⟨.inl hn,rfl⟩
           ·rename_i p hp
            split at hs
            ·rename_i hp0; cases hs; exact ⟨.inr ⟨p,hp,by simpa using hp0,by simp⟩,rfl⟩
            ·cases hs
          obtain ⟨hn,rfl⟩ := hcase
          have hT : ∀ pv rv,TgC st.tops om szm pv rv → TgC ((dd,(y0 :: yr).length,e) :: st.tops) (fun j => if j = dd then .slice (some ⟨b,0,none⟩) (0 + (y0 :: yr).length) cap else om j) (fun j => if j = dd then i.size else szm j) pv rv :=
           fun pv rv hh => TgC.cons hn (fun k hk => by simp [hk]) hh
          obtain ⟨g',hle,hgb,hinv⟩ := h.grow (t := some dd) (tops' := (dd,(y0 :: yr).length,e) :: st.tops) (om' := fun j => if j = dd then .slice (some ⟨b,0,none⟩) (0 + (y0 :: yr).length) cap else om j) (szm' := fun j => if j = dd then i.size else szm j) hown0 (fun b hb => by cases hb) hown' hat hnv
           (fun j q b hj _ hb he => by cases he) hT
           (fun j q hj => by
            rw [get_cons] at hj
            by_cases he : dd = j
            ·rw [if_pos he] at hj; cases hj; subst he
             exact .inl ⟨rfl,by simp,by simp,by simp⟩
            ·rw [if_neg he] at hj
             exact .inr ⟨fun hh => he (Option.some.inj hh),hj,by simp [Ne.symm he],by simp [Ne.symm he]⟩)
          refine ⟨_,w',g',_,_,hr,hinv.put (dst := some dd) hd (mkV g' (some dd) hle (hgb b rfl)) ?_⟩
          simp only [Tg,TgC]
          exact ⟨((y0 :: yr).length,e),by rw [get_cons,if_pos rfl],Nat.le_refl _,fun _ => by simp⟩
      ·cases hs
    ·cases hs
   ·cases hs
  | _ => simp [appEv] at hs
 | _ => simp [appEv] at hs
theorem gets_get {α : Type} {l : List (Nat × α)} : ∀ {ts : List Nat} {l' : List (Nat × α)},gets l ts = some l' → ∀ t v,get l' t = some v → get l t = some v ∧ ts.contains t = true
 | [],l',h,t,v,hv => by simp only [gets,Option.some.injEq] at h; subst h; simp [get] at hv
 | s :: ts,l',h,t,v,hv => by
  simp only [gets] at h
  split at h
  ·rename_i x xs hx hxs
   cases h
   rw [get_cons] at hv
   by_cases he : s = t
   ·rw [if_pos he] at hv; cases hv; subst he; exact ⟨hx,by simp⟩
   ·rw [if_neg he] at hv
    obtain ⟨a1,a2⟩ := gets_get hxs t v hv
    exact ⟨a1,by simp only [List.contains_cons,a2,Bool.or_true]⟩
  ·cases h
theorem gets_has {α : Type} {l : List (Nat × α)} : ∀ {ts : List Nat} {l' : List (Nat × α)},gets l ts = some l' → ∀ t,ts.contains t = true → get l' t = get l t
 | [],l',h,t,ht => by simp at ht
 | s :: ts,l',h,t,ht => by
  simp only [gets] at h
  split at h
  ·rename_i x xs hx hxs
   cases h
   rw [get_cons]
   by_cases he : s = t
   ·rw [if_pos he]; subst he; exact hx.symm
   ·rw [if_neg he]
    exact gets_has hxs t (by simpa [Ne.symm he] using ht)
  ·cases h
theorem get_mem {α : Type} : ∀ {l : List (Nat × α)} {t : Nat} {v : α},get l t = some v → (t,v) ∈ l
 | [],_,_,h => by simp [get] at h
 | (s,x) :: r,t,v,h => by
  rw [get_cons] at h
  by_cases he : s = t
  ·rw [if_pos he] at h; cases h; subst he; simp
  ·rw [if_neg he] at h; exact List.mem_cons_of_mem _ (get_mem h)
theorem get_map_tops (tops : List (Nat × Nat × Nat)) : ∀ (ts : List Nat) (t : Nat),get (ts.map fun t => (t,(get tops t).getD (0,0))) t = if ts.contains t = true then some ((get tops t).getD (0,0)) else none
 | [],t => by simp [get]
 | s :: ts,t => by
  simp only [List.map_cons]
  rw [get_cons,get_map_tops tops ts t]
  by_cases he : s = t
  ·subst he; simp
  ·simp [he,Ne.symm he]
theorem okn_tag {n : Nat} {ks ts : List Nat} {tops : List (Nat × Nat × Nat)} {om : Nat → Value} {szm : Nat → Nat} {pv : PV} {rv : Value} (hk : pv.okn n ks ts = true) (h : TgC tops om szm pv rv) {om' : Nat → Value} (ho : ∀ k p,get tops k = some p → om' k = om k) :
  TgC (ts.map fun t => (t,(get tops t).getD (0,0))) om' szm pv rv := by
 cases pv with
 | lst o nl sz xs =>
  cases o with
  | none => trivial
  | some k =>
   obtain ⟨p,h1,h2,h3⟩ := h
   simp only [PV.okn,Bool.and_eq_true] at hk
   exact ⟨p,by rw [get_map_tops,if_pos hk.1,h1]; rfl,h2,fun hh => by rw [ho k p h1]; exact h3 hh⟩
 | _ => trivial
end
end Go.Proofs.Ytmffcpiffkclgaa.ZJM
