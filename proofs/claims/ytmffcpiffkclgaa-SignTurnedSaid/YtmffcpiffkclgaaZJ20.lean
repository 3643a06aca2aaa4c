/- What a call hands back. -/
import Derived.Test.YtmffcpiffkclgaaZJ18
set_option linter.unusedSimpArgs false
set_option linter.unusedVariables false
namespace Go.Proofs.Ytmffcpiffkclgaa.ZJM
open Go.RowKit
open Classical
section
variable {P : Program} {d nt : Nat} {m0 : Mem} {g0 : Gh} {w0 : World} {g : Gh} {om : Nat → Value} {szm : Nat → Nat} {st : St} {a : Act} {w : World}
theorem okn_plain {lv : Nat} {ks : List Nat} {c : PV} (h : c.okn lv ks [] = true) : c.untag1 = c := by
 cases c with
 | lst o nl sz xs =>
  cases o with
  | none => rfl
  | some t => simp [PV.okn] at h
 | _ => rfl
theorem okn_noTag {lv : Nat} {ks : List Nat} {v : PV} (h : v.okn lv ks [] = true) : noTag v := by
 cases v with
 | agg cs => exact fun c hc => okn_plain (okns_mem (by simpa [PV.okn] using h) c hc)
 | tup cs => exact fun c hc => okn_plain (okns_mem (by simpa [PV.okn] using h) c hc)
 | _ => exact okn_plain h
def Fz (g : Gh) (d : Nat) (st : St) (b q : Nat) : Prop := ∃ s p o t cs,g.blk d s p = some (b,o,t) ∧ mget (st.own :: st.m) d s p = some cs ∧ o ≤ q ∧ q < o + cs.length
noncomputable def Gh.frz (g : Gh) (d : Nat) (st : St) (w : World) : Gh := { g with G := fun b q => if Fz g d st b q then w.cell? ⟨b,q,none⟩ else g.G b q }
theorem Fz_block (h : Inv d nt m0 g0 w0 g om szm st a w) {b q : Nat} (hf : Fz g d st b q) : ∃ s p o t cs C E,g.blk d s p = some (b,o,t) ∧ mget (st.own :: st.m) d s p = some cs ∧ w.heap[b]? = some (.cells C E (0,0)) ∧ (∀ q,g.G b q = none) ∧ w.cell? ⟨b,q,none⟩ = some (C.getD q undef) ∧ vcell (C.getD q undef) = true := by
 obtain ⟨s,p,o,t,cs,h1,h2,h3,h4⟩ := hf
 obtain ⟨C,E,a1,a2,a3,a4,a5⟩ := h.rel.hM _ _ _ _ _ _ h1 _ h2
 refine ⟨s,p,o,t,cs,C,E,h1,h2,a1,a5,?_,?_⟩
 ·have : q < C.size := by omega
  simp [World.cell?,a1,this]
 ·have hlt : q - o < cs.length := by omega
  have := (a4 (q - o) cs[q - o] (List.getElem?_eq_getElem hlt)).vcell
  rwa [show o + (q - o) = q by omega] at this
theorem Gh.frz_le (h : Inv d nt m0 g0 w0 g om szm st a w) : g.le (g.frz d st w) := by
 refine ⟨fun b q v hv => ?_,fun _ _ _ _ x => x,fun _ _ _ x => x,rfl⟩
 show (if Fz g d st b q then _ else _) = _
 rw [if_neg fun hf => ?_]
 ·exact hv
 ·obtain ⟨s,p,o,t,cs,C,E,_,_,_,h5,_⟩ := Fz_block h hf
  rw [h5] at hv; cases hv
theorem frzR_ok (h : Inv d nt m0 g0 w0 g om szm st a w) {c c' : PV} {rc : Value} (hc : V g c rc) (hf : frzR st.own st.m c = some c') : V (g.frz d st w) c' rc ∧ (c.isCell = true → c'.isCell = true) := by
 have hle := Gh.frz_le h
 cases c with
 | slr lv sl p off n sz =>
  simp only [frzR] at hf
  split at hf
  ·rename_i hl
   have hld : lv = d := by rw [← h.lv]; exact beq_iff_eq.1 hl
   subst hld
   cases hc with
   | slr _ _ _ _ _ _ b o t off' cap hb ho hcap =>
   simp only [derefP] at hf
   split at hf
   ·rename_i cs hcs
    split at hf
    ·rename_i hle2
     split at hf
     ·rename_i us hus
      cases hf
      refine ⟨?_,fun _ => rfl⟩
      obtain ⟨C,E,h1,hC,hl',hun,h2,h3⟩ := h.rel.row hb hcs hle2 hus
      obtain ⟨k1,k2,k3⟩ := chunks_ok (sz := sz) (n := n) (l := us) (by omega) (fun u hu' => ⟨hC.isC u hu',hun u hu'⟩)
      have k4 : (chunks sz n us).flatMap PV.cells = us := by rw [k3,List.take_of_length_le (by omega)]
      have hoff : ∀ j,j < us.length → off' = o + off := fun j hj => (ho (by
       intro h0; subst h0
       have : n = 0 := by omega
       subst this; omega)).1
      have key := V.lst (g := g.frz lv st w) none sz (chunks sz n us) b off' cap (fun j => C.getD (o + off + j) undef) (fun x hx => (k2 x hx).1) (fun x hx => (k2 x hx).2) (fun j hj => by
        rw [k4] at hj
        rw [hoff j hj]
        have hfz : Fz g lv st b (o + off + j) := ⟨sl,p,o,t,cs,hb,hcs,by omega,by omega⟩
        show (if Fz g lv st b (o + off + j) then _ else _) = _
        rw [if_pos hfz]
        exact hC.at_ j hj) (fun j e hj => by
        rw [k4] at hj
        exact (hC.v j e hj).mono hle) (by rw [k1]; exact hcap.1)
      rw [k1] at key
      exact key
     ·cases hf
    ·cases hf
   ·cases hf
  ·cases hf
   exact ⟨hc.mono hle,fun x => x⟩
 | _ => simp only [frzR,Option.some.injEq] at hf; subst hf; exact ⟨hc.mono hle,fun x => x⟩
theorem frzRs_ok (h : Inv d nt m0 g0 w0 g om szm st a w) : ∀ {cs cs' : List PV},frzRs st.own st.m cs = some cs' → cs'.length = cs.length ∧ ∀ (j : Nat) (c' : PV),cs'[j]? = some c' → ∃ c,cs[j]? = some c ∧ frzR st.own st.m c = some c'
 | [],cs',hf => by simp only [frzRs,Option.some.injEq] at hf; subst hf; exact ⟨rfl,fun j c hj => by simp at hj⟩
 | c :: cs,cs',hf => by
  simp only [frzRs] at hf
  split at hf
  ·rename_i c1 r1 h1 h2
   cases hf
   obtain ⟨h3,h4⟩ := frzRs_ok h h2
   refine ⟨by simp [h3],fun j c' hj => ?_⟩
   cases j with
   | zero => simp only [List.getElem?_cons_zero,Option.some.injEq] at hj; subst hj; exact ⟨c,rfl,h1⟩
   | succ j => exact h4 j c' (by simpa using hj)
  ·cases hf
theorem frzV_ok (h : Inv d nt m0 g0 w0 g om szm st a w) {v v' : PV} {rv : Value} (hv : V g v rv) (hf : frzV st.own st.m v = some v') : V (g.frz d st w) v' rv := by
 cases v with
 | agg cs =>
  cases hv with
  | agg _ vs hn hc hV =>
  simp only [frzV] at hf
  obtain ⟨cs',hcs,rfl⟩ := Option.map_eq_some_iff.1 hf
  obtain ⟨h1,h2⟩ := frzRs_ok h hcs
  refine .agg cs' vs (by omega) (fun c hcm => ?_) fun j c' hj => ?_
  ·obtain ⟨j,hj⟩ := List.getElem?_of_mem hcm
   obtain ⟨c0,h3,h4⟩ := h2 j c hj
   exact (frzR_ok h (hV j c0 h3) h4).2 (hc c0 (getElem?_mem' h3))
  ·obtain ⟨c0,h3,h4⟩ := h2 j c' hj
   exact (frzR_ok h (hV j c0 h3) h4).1
 | _ => exact (frzR_ok h hv hf).1
theorem res_run {fn : Func} (h : Inv d nt m0 g0 w0 g om szm st a w) {pro : Bool} :
  ∀ {rs : List ResultVar} {cs : List ResC} {vs : List PV},ressOk P rs cs = true → resEvs st pro cs = some vs →
   ∃ rvs : List Value,(rs.mapM (fun r => match r with | .tmp t => pure (a.tmps.getD t undef) | .cell b t => do loadVar t (← asAddr (a.tmps.getD b undef)) : ResultVar → Sem Value)).run P w = .ok rvs w ∧ rvs.length = vs.length ∧
    ∀ (i : Nat) (v : PV) (r : Value),vs[i]? = some v → rvs[i]? = some r → V (g.frz d st w) v r ∧ (pro = true → V g v r ∧ ((∀ cs,v ≠ .tup cs) → Tg st.tops om szm v r))
 | [],[],vs,_,he => by
  simp only [resEvs,Option.some.injEq] at he; subst he
  exact ⟨[],rfl,rfl,fun i v r hv => by simp at hv⟩
 | r :: rs,c :: cs,vs,hk,he => by
  simp only [ressOk,Bool.and_eq_true] at hk
  simp only [resEvs] at he
  have hle := Gh.frz_le h
  split at he
  ·rename_i v vs' h1 h2
   cases he
   obtain ⟨rvs,h3,h4,h5⟩ := res_run (fn := fn) h hk.2 h2
   have one : ∃ rv,((match r with | .tmp t => pure (a.tmps.getD t undef) | .cell b t => do loadVar t (← asAddr (a.tmps.getD b undef))) : Sem Value).run P w = .ok rv w ∧ V (g.frz d st w) v rv ∧ (pro = true → V g v rv ∧ ((∀ cs,v ≠ .tup cs) → Tg st.tops om szm v rv)) := by
    cases r with
    | tmp t =>
     cases c with
     | t t' keep =>
      have : t = t' := by simpa [resOk] using hk.1
      subst this
      simp only [ResC.ev] at h1
      split at h1
      ·rename_i u hu
       obtain ⟨_,hV,hT⟩ := h.f t u hu
       cases keep with
       | true =>
        cases h1
        exact ⟨_,rfl,hV.mono hle,fun _ => ⟨hV,fun _ => hT⟩⟩
       | false =>
        cases pro with
        | true =>
         cases h1
         refine ⟨_,rfl,hV.untag.mono hle,fun _ => ⟨hV.untag,fun hnt => Tg.untag fun cs he => ?_⟩⟩
         subst he; exact hnt cs rfl
        | false => exact ⟨_,rfl,frzV_ok h hV.untag h1,fun hh => by cases hh⟩
      ·cases h1
     | cell _ _ _ => simp [resOk] at hk
    | cell b t =>
     cases c with
     | t t' keep => simp [resOk] at hk
     | cell b' ag sz =>
      simp only [resOk,Bool.and_eq_true,beq_iff_eq] at hk
      obtain ⟨⟨⟨rfl,ht⟩,hs⟩,_⟩ := hk
      simp only [ResC.ev] at h1
      split at h1
      ·rename_i u hu
       split at h1
       ·rename_i u2 hu2
        have hV := (h.f b u hu).2.1
        obtain ⟨rv,h6,h7,h8⟩ := load_pur h hV ht hs hu2
        refine ⟨rv,?_,?_⟩
        ·have hp : ∃ ad,a.tmps.getD b undef = .pointer (some ad) := by
          cases u <;> simp only [loadP] at hu2 <;> try (cases hu2; done)
          ·generalize a.tmps.getD b undef = q at hV; cases hV; exact ⟨_,rfl⟩
          ·generalize a.tmps.getD b undef = q at hV; cases hV; exact ⟨_,rfl⟩
         obtain ⟨ad,hp⟩ := hp
         rw [hp] at h6
         simp only [hp,asAddr,Sem.run_bind,Sem.run_pure,Result.andThen_ok]
         simpa [Instr.loadAt,Instr.sureAddr] using h6
        ·cases pro with
         | true => cases h1; exact ⟨h7.mono hle,fun _ => ⟨h7,fun _ => Tg_no h8⟩⟩
         | false => exact ⟨frzV_ok h h7 h1,fun hh => by cases hh⟩
       ·cases h1
      ·cases h1
   obtain ⟨rv,h6,h7⟩ := one
   refine ⟨rv :: rvs,?_,by simp [h4],fun i v' r' hv' hr' => ?_⟩
   ·simp only [List.mapM_cons,Sem.run_bind]
    rw [h6]
    simp only [Result.andThen_ok]
    rw [h3]
    rfl
   ·cases i with
    | zero => simp only [List.getElem?_cons_zero,Option.some.injEq] at hv' hr'; subst hv'; subst hr'; exact h7
    | succ i => exact h5 i v' r' (by simpa using hv') (by simpa using hr')
  ·cases he
 | [],_ :: _,_,hk,_ => by simp [ressOk] at hk
 | _ :: _,[],_,hk,_ => by simp [ressOk] at hk
theorem tup_TgC {v : PV} {rv : Value} (h : (∀ cs,v ≠ .tup cs) → Tg st.tops om szm v rv) : TgC st.tops om szm v rv := by
 cases v with
 | lst o nl sz xs => exact h (fun cs hh => by cases hh)
 | _ => trivial
theorem results_ok {fn : Func} (h : Inv d nt m0 g0 w0 g om szm st a w) {pro : Bool}
  {cs : List ResC} (hk : ressOk P fn.results.toList cs = true) {v : PV} (he : resEv st pro cs = some v) : ∃ rv,(results fn a.tmps).run P w = .ok rv w ∧ V (g.frz d st w) v rv ∧ (pro = true → (∀ us,cs.length = 1 → v ≠ .tup us) → V g v rv ∧ Tg st.tops om szm v rv) := by
 simp only [resEv] at he
 split at he
 ·rename_i u hu
  cases he
  obtain ⟨rvs,h1,h2,h3⟩ := res_run (fn := fn) h hk hu
  match rvs,h2 with
  | [rv],_ =>
   obtain ⟨h4,h5⟩ := h3 0 v rv rfl rfl
   have hlen : cs.length = 1 := by
    match cs,hu with
    | [c],_ => rfl
    | [],hu => simp [resEvs] at hu
    | c :: c2 :: cs,hu =>
     exfalso
     simp only [resEvs] at hu
     split at hu
     ·rename_i _ _ _ h6
      simp only [Option.some.injEq,List.cons.injEq] at hu
      obtain ⟨_,rfl⟩ := hu
      split at h6 <;> cases h6
     ·cases hu
   refine ⟨rv,?_,h4,fun hp hn => ⟨(h5 hp).1,(h5 hp).2 fun us he => hn us hlen he⟩⟩
   simp only [results,Sem.run_bind]
   rw [Array.mapM_eq_mapM_toList,Sem.run_map]
   erw [h1]
   simp
 ·rename_i vs hne hu
  cases he
  obtain ⟨rvs,h1,h2,h3⟩ := res_run (fn := fn) h hk hu
  have hl : rvs.length ≠ 1 := by
   intro hh
   match vs,h2 with
   | [x],_ => exact hne x rfl
   | [],h2 => simp [hh] at h2
   | _ :: _ :: _,h2 => simp [hh] at h2
  have hget : ∀ (j : Nat) (c : PV),vs[j]? = some c → ∃ r,rvs[j]? = some r ∧ rvs.toArray.getD j undef = r := by
   intro j c hj
   have hlt : j < rvs.length := by have := (List.getElem?_eq_some_iff.1 hj).1; omega
   exact ⟨rvs[j],List.getElem?_eq_getElem hlt,by simp [hlt]⟩
  refine ⟨.tuple rvs.toArray,?_,.tup _ _ (by simp [h2]) (fun j c hj => ?_),fun hp _ => ⟨.tup _ _ (by simp [h2]) (fun j c hj => ?_),?_⟩⟩
  ·simp only [results,Sem.run_bind]
   rw [Array.mapM_eq_mapM_toList,Sem.run_map]
   erw [h1]
   simp [hl]
  ·obtain ⟨r,h4,h5⟩ := hget j c hj
   rw [h5]; exact (h3 j c r hj h4).1
  ·obtain ⟨r,h4,h5⟩ := hget j c hj
   rw [h5]; exact ((h3 j c r hj h4).2 hp).1
  ·intro vs' hvs j c hj
   cases hvs
   obtain ⟨r,h4,h5⟩ := hget j c hj
   rw [h5]; exact tup_TgC ((h3 j c r hj h4).2 hp).2
 ·cases he
end
end Go.Proofs.Ytmffcpiffkclgaa.ZJM
set_option linter.unusedSimpArgs false
set_option linter.unusedVariables false
namespace Go.Proofs.Ytmffcpiffkclgaa.ZJM
open Go.RowKit
open Classical
section
variable {P : Program} {d nt : Nat} {m0 : Mem} {g0 : Gh} {w0 : World} {g : Gh} {om : Nat → Value} {szm : Nat → Nat} {st : St} {a : Act} {w : World}
theorem post_plain (h : Inv d nt m0 g0 w0 g om szm st a w) (hd : d = m0.length) {v : PV} {rv : Value} (hv : V (g.frz d st w) v rv) (ho : v.okn st.m.length [] [] = true) : ∃ g',CallPost m0 g0 w0 st.m emptyBag v g' w rv := by
 have hlv := h.lv
 have hleF := Gh.frz_le h
 let g' : Gh := { (g.frz d st w) with blk := fun l s p => if l = d then none else g.blk l s p,lp := fun l s => if l = d then none else g.lp l s }
 have hb : ∀ l s p x,g'.blk l s p = some x → l ≠ d ∧ g.blk l s p = some x := by
  intro l s p x hx
  have hx' : (if l = d then none else g.blk l s p) = some x := hx
  split at hx'
  ·cases hx'
  ·rename_i hl; exact ⟨hl,hx'⟩
 have hl : ∀ l s x,g'.lp l s = some x → l ≠ d ∧ g.lp l s = some x := by
  intro l s x hx
  have hx' : (if l = d then none else g.lp l s) = some x := hx
  split at hx'
  ·cases hx'
  ·rename_i hl; exact ⟨hl,hx'⟩
 have hbl : ∀ l s p,l ≠ d → g'.blk l s p = g.blk l s p := fun l s p hl => by show (if l = d then none else _) = _; rw [if_neg hl]
 have hll : ∀ l s,l ≠ d → g'.lp l s = g.lp l s := fun l s hl => by show (if l = d then none else _) = _; rw [if_neg hl]
 have hGF : ∀ b q v,g.G b q = some v → g'.G b q = some v := fun b q v hx => hleF.G _ _ _ hx
 have hm : ∀ l s p zs,mget ([] :: st.m) l s p = some zs → l ≠ d ∧ mget (st.own :: st.m) l s p = some zs := by
  intro l s p zs hz
  rw [mget_cons,hlv] at hz
  by_cases hl' : l = d
  ·rw [if_pos hl'] at hz; simp [lget,get] at hz
  ·rw [if_neg hl'] at hz
   exact ⟨hl',by rw [mget_cons,hlv,if_neg hl']; exact hz⟩
 have hGn : ∀ b q,(∀ q,g.G b q = none) → (∃ l s p o t cs,l ≠ d ∧ g.blk l s p = some (b,o,t) ∧ mget (st.own :: st.m) l s p = some cs) → g'.G b q = none := by
  intro b q hn hlive
  show (if Fz g d st b q then _ else _) = _
  rw [if_neg]
  ·exact hn q
  ·rintro ⟨s1,p1,o1,t1,cs1,h1,h2,_⟩
   obtain ⟨l,s,p,o,t,cs,hne,h3,h4⟩ := hlive
   exact hne (h.rel.inj _ _ _ _ _ _ _ _ _ _ _ _ _ h3 h1 h4 h2).1
 have hrel : Rel g' ([] :: st.m) w := by
  refine ⟨fun b q u hu => ?_,fun lv sl p b o t hx cs hcs => ?_,fun lv sl l0 r hx cs hcs => ?_,fun l s p l' s' p' b o t o' t' cs cs' h1 h2 hz hz' => ?_,fun l s l' s' b r r' cs cs' h1 h2 hz hz' => ?_,fun lv sl p j v x h1 cs hcs => ?_,fun l s p x hx => ?_,fun l s x hx => ?_,fun l s p b o t hx => h.rel.bd _ _ _ _ _ _ (hb _ _ _ _ hx).2,fun l s b r hx => h.rel.bdL _ _ _ _ (hl _ _ _ hx).2,fun lv sl q x y hx => ?_⟩
  ·have hu' : (if Fz g d st b q then w.cell? ⟨b,q,none⟩ else g.G b q) = some u := hu
   split at hu'
   ·rename_i hf
    obtain ⟨s,p,o,t,cs,C,E,_,_,_,_,h6,h7⟩ := Fz_block h hf
    rw [h6] at hu'; cases hu'
    exact ⟨h6,h7⟩
   ·exact h.rel.hG b q u hu'
  ·obtain ⟨h1,h2⟩ := hb _ _ _ _ hx
   obtain ⟨h3,h4⟩ := hm _ _ _ _ hcs
   obtain ⟨C,E,a1,a2,a3,a4,a5⟩ := h.rel.hM _ _ _ _ _ _ h2 _ h4
   have hlt := h.rel.lv _ _ _ _ h2
   simp only [List.length_cons,hlv] at hlt
   refine ⟨C,E,a1,a2,a3,fun j c hj => (a4 j c hj).under (n := d) hGF (fun l s p hl => hbl l s p (by omega)) (fun l s hl => hll l s (by omega)) rfl (by omega),fun q => hGn b q a5 ⟨_,_,_,_,_,_,h1,h2,h4⟩⟩
  ·obtain ⟨h1,h2⟩ := hl _ _ _ hx
   exact h.rel.hL _ _ _ _ h2 _ (hm _ _ _ _ hcs).2
  ·exact h.rel.inj _ _ _ _ _ _ _ _ _ _ _ _ _ (hb _ _ _ _ h1).2 (hb _ _ _ _ h2).2 (hm _ _ _ _ hz).2 (hm _ _ _ _ hz').2
  ·exact h.rel.injL _ _ _ _ _ _ _ _ _ (hl _ _ _ h1).2 (hl _ _ _ h2).2 (hm _ _ _ _ hz).2 (hm _ _ _ _ hz').2
  ·exact h.rel.ver _ _ _ _ _ _ (hb _ _ _ _ h1).2 _ (hm _ _ _ _ hcs).2
  ·have := h.rel.lv _ _ _ _ (hb _ _ _ _ hx).2; simpa using this
  ·have := h.rel.lpv _ _ _ (hl _ _ _ hx).2; simpa using this
  ·obtain ⟨h1,h2⟩ := hb _ _ _ _ hx
   obtain ⟨z,hz⟩ := h.rel.pre _ _ _ _ _ h2
   exact ⟨z,by rw [hbl _ _ _ h1]; exact hz⟩
 refine ⟨g',?_⟩
 subst hd
 refine ⟨hrel,hlv,V.among (g := g.frz m0.length st w) (g' := g') (n := m0.length) (ks := []) (ts := []) (fun _ _ _ x => x) (fun l s p hh => hbl l s p (hh.resolve_right (by simp))) (fun l s hh => hll l s (hh.resolve_right (by simp))) rfl hv (by rw [← hlv]; exact ho),?_,fun s p x hx => absurd rfl (hb _ _ _ _ hx).1,fun s => ?_,h.roots,?_,(fun p hp => by cases hp),List.nodup_nil,fun cs hcs => okn_noTag ho,?_⟩
 ·refine ⟨h.kp.size,fun b hlt hf => ⟨(h.kp.keep b hlt hf).1,fun q => ?_⟩,fun b o u hu => hGF _ _ _ (h.kp.G _ _ _ hu),fun l s p x hl hx => by rw [hbl _ _ _ (by omega)]; exact h.kp.blk _ _ _ _ hl hx,fun l s hl => by rw [hll _ _ (by omega)]; exact h.kp.lpl _ _ hl,fun l s p b o t hx => h.kp.new _ _ _ _ _ _ (hb _ _ _ _ hx).2,fun l s b r hx => h.kp.newL _ _ _ _ (hl _ _ _ hx).2,fun l s p x hl hx => h.kp.root _ _ _ _ hl (hb _ _ _ _ hx).2,h.kp.os,h.kp.tape,h.kp.output,h.kp.ok⟩
  show (if Fz g m0.length st b q then _ else _) = _
  rw [if_neg]
  ·exact (h.kp.keep b hlt hf).2 q
  ·rintro ⟨s1,p1,o1,t1,cs1,h1,h2,_⟩
   exact (h.kp.free hlt hf).1 _ _ _ _ _ h1
 ·show (if m0.length = m0.length then none else _) = none
  rw [if_pos rfl]
 ·rw [← hlv]; exact ho
 ·exact ⟨fun _ => .slice none 0 0,fun _ => 0,Tg_no (okn_noTag ho),(fun n p hp => by cases hp),(fun n n' p p' _ hp => by cases hp)⟩
theorem nameIn_inj {ns : List Nat} : ∀ s s',ns.contains s = true → ns.contains s' = true → nameIn ns s = nameIn ns s' → s = s' := by
 intro s s' h1 h2 he
 have key : ∀ x,ns.contains x = true → ∃ i,idxOf ns x 0 = some i ∧ ns[i]? = some x := by
  intro x hx
  cases hi : idxOf ns x 0 with
  | none => exact absurd (by simpa using hx) (idxOf_none hi)
  | some i => exact ⟨i,rfl,by have := (idxOf_get hi).2; simpa using this⟩
 obtain ⟨i,h3,h4⟩ := key s h1
 obtain ⟨i',h5,h6⟩ := key s' h2
 unfold nameIn at he
 rw [h3,h5] at he
 simp only [Option.getD_some] at he
 subst he
 rw [h4] at h6
 exact Option.some.inj h6
theorem gets_pairs {α : Type} {l : List (Nat × α)} : ∀ {ts : List Nat} {l' : List (Nat × α)},gets l ts = some l' → ∀ p ∈ l',get l p.1 = some p.2 ∧ ts.contains p.1 = true
 | [],l',h,p,hp => by simp only [gets,Option.some.injEq] at h; subst h; cases hp
 | t :: ts,l',h,p,hp => by
  simp only [gets] at h
  split at h
  ·rename_i v vs hv hvs
   cases h
   rcases List.mem_cons.1 hp with rfl | hp
   ·exact ⟨hv,by simp⟩
   ·obtain ⟨h1,h2⟩ := gets_pairs hvs p hp
    exact ⟨h1,by simp only [List.contains_cons,h2,Bool.or_true]⟩
  ·cases h
theorem gets_keys2 {α : Type} {l : List (Nat × α)} : ∀ {ts : List Nat} {l' : List (Nat × α)},gets l ts = some l' → l'.map (·.1) = ts
 | [],l',h => by simp only [gets,Option.some.injEq] at h; subst h; rfl
 | t :: ts,l',h => by
  simp only [gets] at h
  split at h
  ·rename_i v vs hv hvs
   cases h
   simp [gets_keys2 hvs]
  ·cases h
theorem post_bag (h : Inv d nt m0 g0 w0 g om szm st a w) (hd : d = m0.length) {v : PV} {rv : Value} (hv : V g v rv) (ht : Tg st.tops om szm v rv) {ns ts : List Nat} {v' : PV} {bag : Bag} {m' : Mem} (he : bagOf st v ns ts = some (v',bag,m')) :
  ∃ g',CallPost m0 g0 w0 m' bag v' g' w rv := by
 have hlv := h.lv
 unfold bagOf at he
 split at he
 case h_2 => cases he
 rename_i obs tops hobs htops
 split at he
 case isFalse => cases he
 rename_i hchk
 cases he
 simp only [bagChk,Bool.and_eq_true,List.all_eq_true,Bool.not_eq_true'] at hchk
 obtain ⟨⟨⟨⟨⟨c1,c2⟩,c3⟩,c4⟩,c5⟩,c6⟩ := hchk
 rw [hlv] at c1 c3
 have hpairs := gets_pairs hobs
 have hkeys := gets_keys2 hobs
 have hpT := gets_pairs htops
 have hkT := gets_keys2 htops
 have hinj : ∀ s s',ns.contains s = true → ns.contains s' = true → nameIn ns s = nameIn ns s' → s = s' := nameIn_inj
 have hinjT : ∀ s s',ts.contains s = true → ts.contains s' = true → nameIn ts s = nameIn ts s' → s = s' := nameIn_inj
 let ρ := nameIn ns
 have hgo : ∀ k,ns.contains k = true → ∃ cs,get st.own k = some cs ∧ get (obsB st ns obs) (ρ k) = some (PV.rens d d ρ cs) := by
  intro k hk
  have h1 : get (obsB st ns obs) (ρ k) = (get obs k).map (PV.rens d d ρ) := by
   unfold obsB; rw [hlv]
   exact get_map_inj hinj (fun p hp => (hpairs p hp).2) hk
  obtain ⟨x,hx⟩ := key_get (l := obs) (s := k) (by rw [hkeys]; exact hk)
  have h2 := hpairs _ (get_mem hx)
  exact ⟨x,h2.1,by rw [h1,hx]; rfl⟩
 have hnoL : ∀ s x,ns.contains s = true → g.lp d s ≠ some x := by
  intro s x hs hx
  obtain ⟨cs,h1,_⟩ := hgo s hs
  obtain ⟨l,r⟩ := x
  obtain ⟨s0,h2,_⟩ := h.rel.hL _ _ _ _ hx cs (by rw [← hlv,mget_own,lget_nil]; exact h1)
  subst h2
  obtain ⟨y,hy⟩ := key_get (l := obs) (s := s) (by rw [hkeys]; exact hs)
  have h3 := hpairs _ (get_mem hy)
  rw [h1] at h3
  have h4 := (c2 _ (get_mem hy)).2 (.lrec s0) (by have := Option.some.inj h3.1; rw [← this]; simp)
  cases h4
 let g' : Gh := { g with
  blk := fun l s p => if l = d then (match ns.find? fun k => ρ k == s with | some k => g.blk d k p | none => none) else g.blk l s p
  lp := fun l s => if l = d then none else g.lp l s }
 have hb : ∀ l s p x,l ≠ d → g.blk l s p = some x → g'.blk l s p = some x := fun l s p x hl hx => by show (if l = d then _ else _) = _; rw [if_neg hl]; exact hx
 have hr : ∀ l s x,l ≠ d → g.lp l s = some x → g'.lp l s = some x := fun l s x hl hx => by show (if l = d then _ else _) = _; rw [if_neg hl]; exact hx
 have hbn : ∀ s p x,ns.contains s = true → g.blk d s p = some x → g'.blk d (ρ s) p = some x := fun s p x hs hx => by show (if d = d then _ else _) = _; rw [if_pos rfl,find_inj hinj hs]; exact hx
 have hrn : ∀ s x,ns.contains s = true → g.lp d s = some x → g'.lp d (ρ s) = some x := fun s x hs hx => absurd hx (hnoL s x hs)
 have hblk : ∀ l s p x,g'.blk l s p = some x → ∃ l0 s0,From d d ns ρ l s l0 s0 ∧ g.blk l0 s0 p = some x := by
  intro l s p x hx
  have hx' : (if l = d then (match ns.find? fun k => ρ k == s with | some k => g.blk d k p | none => none) else g.blk l s p) = some x := hx
  split at hx'
  ·rename_i hl
   split at hx'
   ·rename_i k hk
    obtain ⟨q1,q2⟩ := find_some hk
    exact ⟨d,k,.inr ⟨rfl,hl,q2,q1⟩,hx'⟩
   ·cases hx'
  ·rename_i hl; exact ⟨l,s,.inl ⟨hl,rfl,rfl⟩,hx'⟩
 have hlp : ∀ l s x,g'.lp l s = some x → ∃ l0 s0,From d d ns ρ l s l0 s0 ∧ g.lp l0 s0 = some x := by
  intro l s x hx
  have hx' : (if l = d then none else g.lp l s) = some x := hx
  split at hx'
  ·cases hx'
  ·rename_i hl; exact ⟨l,s,.inl ⟨hl,rfl,rfl⟩,hx'⟩
 have hlp2 : ∀ l s x,g'.lp l s = some x → l ≠ d ∧ g.lp l s = some x := by
  intro l s x hx
  have hx' : (if l = d then none else g.lp l s) = some x := hx
  split at hx'
  ·cases hx'
  ·rename_i hl; exact ⟨hl,hx'⟩
 have hrel : Rel g' (obsB st ns obs :: st.m) w := by
  refine h.rel.ren (n := d) (n' := d) (ks := ns) (ρ := ρ) (.inl rfl) (by simp [hlv]) (by simp [hlv]) (fun l _ hl => by simpa using hl) rfl rfl hb hbn hr hrn hblk hlp hinj (fun hne => absurd rfl hne) ?_
  intro l s q zs' hz
  rw [mget_cons,hlv] at hz
  by_cases hl : l = d
  ·rw [if_pos hl] at hz
   unfold lget at hz
   split at hz
   ·rename_i cs hcs
    obtain ⟨p,hp,rfl⟩ := get_map_from hcs
    have hk := (hpairs p hp).2
    obtain ⟨cs0,h1,h2⟩ := hgo _ hk
    rw [h2] at hcs
    cases hcs
    rw [tget_rens] at hz
    obtain ⟨z2,hz2,rfl⟩ := Option.map_eq_some_iff.1 hz
    refine ⟨d,p.1,z2,.inr ⟨rfl,hl,rfl,hk⟩,?_,.inr ⟨rfl,rfl,?_⟩⟩
    ·rw [mget_cons,hlv,if_pos rfl]; unfold lget; rw [h1]; exact hz2
    ·have h3 := (c2 p hp).1
     rw [hlv] at h3
     have h4 := (hpairs p hp).1
     rw [h1] at h4
     cases h4
     exact tget_okns h3 hz2
   ·cases hz
  ·rw [if_neg hl] at hz
   exact ⟨l,s,zs',.inl ⟨hl,rfl,rfl⟩,by rw [mget_cons,hlv,if_neg hl]; exact hz,.inl ⟨hl,rfl⟩⟩
 have hV : V g' (renB st v ns ts) rv := by
  unfold renB; rw [hlv]
  exact (V.ren (g := g) (g' := g') (n := d) (n' := d) (ρ := ρ) (ks := ns) (ts := ts) (fun _ _ _ x => x) hb hbn hr hrn rfl hv c1).retag _
 have hfreeG : ∀ b,g.free b → g'.free b := fun b hf => ⟨fun l s p o t hh => by obtain ⟨l0,s0,_,h2⟩ := hblk _ _ _ _ hh; exact hf.1 _ _ _ _ _ h2,fun l s r hh => hf.2 _ _ _ (hlp2 _ _ _ hh).2⟩
 have hTo : ∀ t,ts.contains t = true → ∃ p,get st.tops t = some p ∧ get (topsB ts tops) (nameIn ts t) = some p := by
  intro t htc
  have h1 : get (topsB ts tops) (nameIn ts t) = (get tops t).map fun x => x := by
   unfold topsB
   exact get_map_inj (F := fun x : Nat × Nat => x) hinjT (fun p hp => (hpT p hp).2) htc
  obtain ⟨x,hx⟩ := key_get (l := tops) (s := t) (by rw [hkT]; exact htc)
  have h2 := hpT _ (get_mem hx)
  exact ⟨x,h2.1,by rw [h1,hx]; rfl⟩
 let om' : Nat → Value := fun n => match ts.find? fun t => nameIn ts t == n with | some t => om t | none => .slice none 0 0
 let szm' : Nat → Nat := fun n => match ts.find? fun t => nameIn ts t == n with | some t => szm t | none => 0
 have hom : ∀ t,ts.contains t = true → om' (nameIn ts t) = om t ∧ szm' (nameIn ts t) = szm t := by
  intro t htc
  refine ⟨?_,?_⟩
  ·show (match ts.find? fun i => nameIn ts i == nameIn ts t with | some t => om t | none => _) = _
   rw [find_inj hinjT htc]
  ·show (match ts.find? fun i => nameIn ts i == nameIn ts t with | some t => szm t | none => _) = _
   rw [find_inj hinjT htc]
 have hmemT : ∀ n p,(n,p) ∈ topsB ts tops → ∃ t,ts.contains t = true ∧ n = nameIn ts t ∧ get st.tops t = some p := by
  intro n p hm
  obtain ⟨q,hq,he⟩ := List.mem_map.1 hm
  simp only [Prod.mk.injEq] at he
  obtain ⟨h1,h2⟩ := hpT q hq
  exact ⟨q.1,h2,he.1.symm,by rw [← he.2]; exact h1⟩
 refine ⟨g',?_⟩
 subst hd
 refine ⟨hrel,hlv,hV,?_,fun s p x hx => ?_,fun s => ?_,h.roots,c3,fun p hp => ?_,nodupB_spec c5,fun cs hcs => ?_,om',szm',?_,fun n p hm => ?_,fun n n' p p' hne hm hm' => ?_⟩
 ·have hbelow : ∀ l s p,l < m0.length → g'.blk l s p = g.blk l s p := fun l s p hl => by show (if l = m0.length then _ else _) = _; rw [if_neg (by omega)]
  have hbelowL : ∀ l s,l < m0.length → g'.lp l s = g.lp l s := fun l s hl => by show (if l = m0.length then _ else _) = _; rw [if_neg (by omega)]
  refine ⟨h.kp.size,h.kp.keep,h.kp.G,fun l s p x hl hx => by rw [hbelow l s p hl]; exact h.kp.blk l s p x hl hx,fun l s hl => by rw [hbelowL l s hl]; exact h.kp.lpl l s hl,fun l s p b o t hx => ?_,fun l s b r hx => h.kp.newL _ _ _ _ (hlp2 _ _ _ hx).2,fun l s p x hl hx => ?_,h.kp.os,h.kp.tape,h.kp.output,h.kp.ok⟩
  ·obtain ⟨l0,s0,_,h2⟩ := hblk _ _ _ _ hx
   exact h.kp.new _ _ _ _ _ _ h2
  ·rw [hbelow l s p hl] at hx; exact h.kp.root _ _ _ _ hl hx
 ·obtain ⟨l0,s0,f0,h2⟩ := hblk _ _ _ _ hx
  rcases f0 with ⟨b1,b2,_⟩ | ⟨rfl,_,rfl,hk⟩
  ·exact absurd b2.symm b1
  ·obtain ⟨cs,_,h3⟩ := hgo _ hk
   exact get_some_key h3
 ·show (if m0.length = m0.length then none else _) = none
  rw [if_pos rfl]
 ·have := c4 p hp; rw [hlv] at this; exact this
 ·rw [hcs] at c6 ⊢
  intro c hc
  simp only [noTagB,List.all_eq_true] at c6
  have := c6 c hc
  cases c with
  | lst o nl sz xs => cases o with
   | none => rfl
   | some t => simp [tagOf] at this
  | _ => rfl
 ·
  have hT : ∀ u r,u.okn m0.length ns ts = true → TgC st.tops om szm u r → TgC (topsB ts tops) om' szm' ((u.ren m0.length m0.length ρ).retag1 (nameIn ts)) r := by
   intro u r hok hh
   cases u with
   | lst o nl sz xs =>
    cases o with
    | none => trivial
    | some t =>
     obtain ⟨q,q1,q2,q3⟩ := hh
     have htc : ts.contains t = true := by simp only [PV.okn,Bool.and_eq_true] at hok; exact hok.1
     obtain ⟨p,k1,k2⟩ := hTo t htc
     rw [q1] at k1; cases k1
     obtain ⟨k3,k4⟩ := hom t htc
     refine ⟨q,k2,by rw [rens_length]; exact q2,fun he => ?_⟩
     rw [rens_length] at he
     obtain ⟨q4,q5⟩ := q3 he
     exact ⟨by rw [k3]; exact q4,by rw [k4]; exact q5⟩
   | ptr l s p off => by_cases hl : (l == m0.length) = true <;> simp [PV.ren,hl,PV.retag1,TgC]
   | slr l s p off k sz => by_cases hl : (l == m0.length) = true <;> simp [PV.ren,hl,PV.retag1,TgC]
   | _ => trivial
  unfold renB
  rw [hlv]
  unfold renB at c6
  rw [hlv] at c6
  cases v with
  | agg cs =>
   refine Tg_no ?_
   intro c hc
   simp only [PV.ren,PV.retag,PV.retag1,noTagB,List.all_eq_true] at c6 hc
   have := c6 c hc
   cases c with
   | lst o nl sz xs => cases o with
    | none => rfl
    | some t => simp [tagOf] at this
   | _ => rfl
  | tup cs =>
   intro vs hvs j c hj
   rw [List.getElem?_map,rens_get] at hj
   simp only [Option.map_map] at hj
   obtain ⟨u,hu',rfl⟩ := Option.map_eq_some_iff.1 hj
   exact hT _ _ (okns_mem (by simpa [PV.okn] using c1) u (getElem?_mem' hu')) (ht vs hvs j u hu')
  | ptr l s p off => by_cases hl : (l == m0.length) = true <;> simp [PV.ren,hl,PV.retag,PV.retag1,Tg,TgC]
  | slr l s p off k sz => by_cases hl : (l == m0.length) = true <;> simp [PV.ren,hl,PV.retag,PV.retag1,Tg,TgC]
  | lst o nl sz xs =>
   have := hT (.lst o nl sz xs) _ c1 ht
   cases o <;> exact this
  | _ => exact trivial
 ·obtain ⟨t,htc,rfl,hg⟩ := hmemT n p hm
  obtain ⟨vals,q1,q2⟩ := h.own t p hg
  obtain ⟨k3,k4⟩ := hom t htc
  refine ⟨vals,by rw [k3,k4]; exact q1,fun b hb' => ?_⟩
  rw [k3] at hb'
  exact ⟨hfreeG b (q2 b hb').1,(q2 b hb').2⟩
 ·obtain ⟨t,htc,rfl,hg⟩ := hmemT n p hm
  obtain ⟨t',htc',rfl,hg'⟩ := hmemT n' p' hm'
  rw [(hom t htc).1,(hom t' htc').1]
  exact h.apart t t' p p' (fun hh => hne (by rw [hh])) hg hg'
end
end Go.Proofs.Ytmffcpiffkclgaa.ZJM
set_option linter.unusedSimpArgs false
set_option linter.unusedVariables false
namespace Go.Proofs.Ytmffcpiffkclgaa.ZJM
open Go.RowKit
section
variable {P : Program} {d nt : Nat} {m0 : Mem} {g0 : Gh} {w0 : World} {g : Gh} {om : Nat → Value} {szm : Nat → Nat} {st : St} {a : Act} {w : World}
theorem Inv.shut {T : Array Value} {x : Deferred} {ds : List Deferred} (h : Inv d nt m0 g0 w0 g om szm st { tmps := T,defers := x :: ds } w) :
  ∃ D,x = { target := .collected D,args := #[] } ∧ w.heap[D]? = some (.deferred (some [])) ∧ Inv d nt m0 g0 w0 g om szm st { tmps := T,defers := ds } (w.putObj D (.deferred none)) := by
 obtain ⟨D,h1,h2,h3,h4⟩ := h.df x (by simp)
 refine ⟨D,h1,h2,?_⟩
 have hoth : ∀ b,b ≠ D → (w.putObj D (.deferred none)).heap[b]? = w.heap[b]? := fun b hb => World.putObj_heap_other hb
 have hnd := h.dn
 simp only [List.nodup_cons] at hnd
 refine ⟨h.rel.world (by simp) (fun b o v hb => ?_) (fun _ _ _ x => x) rfl rfl rfl (fun b C E hb _ => ⟨by rw [hoth b fun he => by rw [he,h2] at hb; cases hb]; exact hb,fun _ => rfl⟩) (fun b r hb => by rw [hoth b fun he => by rw [he,h2] at hb; cases hb]; exact hb),h.lv,h.f,h.nt,fun y hy => ?_,hnd.2,fun n p hp => ?_,h.apart,?_,h.nm,h.nmL,h.roots⟩
 ·obtain ⟨q1,q2⟩ := h.rel.hG b o v hb
  have hn : b ≠ D := fun he => by subst he; simp [World.cell?,h2] at q1
  refine ⟨?_,q2⟩
  simp only [World.cell?,hoth b hn]
  simpa [World.cell?] using q1
 ·obtain ⟨D',e1,e2,e3,e4⟩ := h.df y (by simp [hy])
  have hn : D' ≠ D := fun he => by subst he; rw [← h1] at e1; subst e1; exact hnd.1 hy
  exact ⟨D',e1,by rw [hoth D' hn]; exact e2,e3,e4⟩
 ·obtain ⟨vals,q1,q2⟩ := h.own n p hp
  refine ⟨vals,ownsRow_grown q1 fun b hb => hoth b fun he => ?_,q2⟩
  rcases q1.2 with ⟨q3,_⟩ | ⟨gb,cap,cur,q3,_,q4,_⟩
  ·rw [q3] at hb; cases hb
  ·rw [q3] at hb
   simp only [Value.ownBlock,Option.some.injEq] at hb
   subst hb; subst he
   rw [h2] at q4; cases q4
 ·refine ⟨by simpa using h.kp.size,fun b hb hf => ⟨?_,(h.kp.keep b hb hf).2⟩,h.kp.G,h.kp.blk,h.kp.lpl,h.kp.new,h.kp.newL,h.kp.root,h.kp.os,h.kp.tape,h.kp.output,h.kp.ok⟩
  rw [hoth b (by omega)]
  exact (h.kp.keep b hb hf).1
theorem leaves_ok {F : Fence} {n : Nat} {fn : Func} {T : Array Value} {R : Ending → World → Prop} : ∀ {ds : List Deferred} {w : World},Inv d nt m0 g0 w0 g om szm st { tmps := T,defers := ds } w →
  (∀ w',Inv d nt m0 g0 w0 g om szm st { tmps := T,defers := [] } w' → ∃ v,(results fn T).run P w' = .ok v w' ∧ R (.returned v) w') → LeavesInM F n P fn T R ds .returning w
 | [],w,h,hR => hR w h
 | x :: ds,w,h,hR => by
  obtain ⟨D,h1,h2,h3⟩ := h.shut
  exact ⟨by simp,.inl ⟨D,_,by rw [h1],run_takeDeferred h2,leaves_ok h3 hR⟩⟩
theorem get_numbered {α : Type} : ∀ (l : List α) (n t : Nat),get (numbered n l) t = if n ≤ t then l[t - n]? else none
 | [],n,t => by simp [numbered,get]
 | x :: l,n,t => by
  simp only [numbered]
  rw [get_cons,get_numbered l (n + 1) t]
  by_cases h : n = t
  ·subst h; simp
  ·rw [if_neg h]
   by_cases h2 : n ≤ t
   ·rw [if_pos (by omega),if_pos h2,show t - n = (t - (n + 1)) + 1 by omega,List.getElem?_cons_succ]
   ·rw [if_neg (by omega),if_neg h2]
theorem noTag_of {v : PV} (h : v.untag = v) (ht : isTup v = false) : noTag v := by
 cases v with
 | agg cs =>
  simp only [PV.untag,PV.agg.injEq] at h
  intro c hc
  obtain ⟨j,hj⟩ := List.getElem?_of_mem hc
  have := congrArg (fun l => l[j]?) h
  simp only [List.getElem?_map,hj,Option.map_some,Option.some.injEq] at this
  exact this
 | tup => simp [isTup] at ht
 | _ => exact h
theorem isTup_untag (v : PV) : isTup v.untag = isTup v := by cases v <;> rfl
theorem Inv.start0 {m : Mem} (hR : Rel g m w) {F : List (Nat × PV)} {T : Array Value} (hT : T.size = nt) (hF : ∀ t u,get F t = some u → t < nt ∧ V g u (T.getD t undef) ∧ noTag u) :
  Inv m.length nt m g w g (fun _ => .slice none 0 0) (fun _ => 0) { f := F,tops := [],own := [],dead := [],m := m } { tmps := T,defers := [] } w := by
 have hm : ∀ l s p zs,mget ([] :: m) l s p = some zs → mget m l s p = some zs := by
  intro l s p zs hz
  rw [mget_cons] at hz
  split at hz
  ·simp [lget,get] at hz
  ·exact hz
 refine ⟨⟨hR.hG,fun lv sl p b o t hb cs hcs => hR.hM _ _ _ _ _ _ hb _ (hm _ _ _ _ hcs),fun lv sl l r hb cs hcs => hR.hL _ _ _ _ hb _ (hm _ _ _ _ hcs),fun l s p l' s' p' b o t o' t' cs cs' h1 h2 hz hz' => hR.inj _ _ _ _ _ _ _ _ _ _ _ _ _ h1 h2 (hm _ _ _ _ hz) (hm _ _ _ _ hz'),fun l s l' s' b r r' cs cs' h1 h2 hz hz' => hR.injL _ _ _ _ _ _ _ _ _ h1 h2 (hm _ _ _ _ hz) (hm _ _ _ _ hz'),fun lv sl p j v x h1 cs hcs => hR.ver _ _ _ _ _ _ h1 _ (hm _ _ _ _ hcs),fun l s p x hx => Nat.lt_succ_of_lt (hR.lv _ _ _ _ hx),fun l s x hx => Nat.lt_succ_of_lt (hR.lpv _ _ _ hx),hR.bd,hR.bdL,hR.pre⟩,rfl,fun t u hu => ?_,hT,fun x hx => (by cases hx),List.nodup_nil,fun n p hp => (by simp [get] at hp),fun n n' p p' _ hp => (by simp [get] at hp),Kp.refl _ _ _,fun s p x hx => ?_,fun s x hx => ?_,fun _ _ _ => rfl⟩
 ·obtain ⟨h1,h2,h3⟩ := hF t u hu
  exact ⟨h1,h2,Tg_no h3⟩
 ·have := hR.lv _ _ _ _ hx; omega
 ·have := hR.lpv _ _ _ hx; omega
theorem Inv.start {m : Mem} (hR : Rel g m w) {F : List (Nat × PV)} {T : Array Value} (hT : T.size = nt) (hF : ∀ t u,get F t = some u → t < nt ∧ V g u (T.getD t undef) ∧ noTag u) :
  InvE m.length nt m g w { f := F,tops := [],own := [],dead := [],m := m } { tmps := T,defers := [] } w := ⟨_,_,_,Inv.start0 hR hT hF⟩
theorem fold_params : ∀ (L : List (Nat × Value)) (T : Array Value),(L.map (·.1)).Nodup → (L.foldl (fun T p => T.setIfInBounds p.1 p.2) T).size = T.size ∧
  ∀ t,t < T.size → (L.foldl (fun T p => T.setIfInBounds p.1 p.2) T).getD t undef = match get L t with | some v => v | none => T.getD t undef
 | [],T,_ => ⟨rfl,fun t _ => rfl⟩
 | (k,v) :: L,T,hn => by
  simp only [List.map_cons,List.nodup_cons] at hn
  obtain ⟨h1,h2⟩ := fold_params L (T.setIfInBounds k v) hn.2
  refine ⟨by simpa using h1,fun t ht => ?_⟩
  simp only [List.foldl_cons]
  rw [h2 t (by simpa using ht),get_cons]
  by_cases hk : k = t
  ·subst hk
   have hnone : get L k = none := get_none_key (by simpa using hn.1)
   rw [if_pos rfl,hnone]
   simp [Array.getD_eq_getD_getElem?,Array.getElem?_setIfInBounds,ht]
  ·rw [if_neg hk]
   cases get L t with
   | some x => rfl
   | none => simp [Array.getD_eq_getD_getElem?,Array.getElem?_setIfInBounds,hk]
theorem zipf_get : ∀ {ps : List Nat} {args : List PV} {ra : List Value},args.length = ps.length → ra.length = ps.length → (∀ (j : Nat) (c : PV) (r : Value),args[j]? = some c → ra[j]? = some r → V g c r) → ∀ t,
  (∀ u,get (zipf ps args) t = some u → ∃ r,get (ps.zip ra) t = some r ∧ V g u r ∧ u ∈ args ∧ t ∈ ps) ∧ (get (zipf ps args) t = none → get (ps.zip ra) t = none)
 | [],[],ra,_,h2,_,t => by
  refine ⟨fun u hu => by simp [zipf,get] at hu,fun _ => by simp [get]⟩
 | p :: ps,c :: args,r :: ra,h1,h2,hV,t => by
  obtain ⟨h3,h4⟩ := zipf_get (ps := ps) (args := args) (ra := ra) (by simpa using h1) (by simpa using h2) (fun j c' r' hc hr => hV (j + 1) c' r' (by simpa using hc) (by simpa using hr)) t
  simp only [zipf,List.zip_cons_cons]
  rw [get_cons,get_cons]
  by_cases hp : p = t
  ·rw [if_pos hp,if_pos hp]
   exact ⟨fun u hu => by cases hu; exact ⟨r,rfl,hV 0 c r rfl rfl,by simp,by simp [hp]⟩,fun hh => by cases hh⟩
  ·rw [if_neg hp,if_neg hp]
   refine ⟨fun u hu => ?_,h4⟩
   obtain ⟨r',k1,k2,k3,k4⟩ := h3 u hu
   exact ⟨r',k1,k2,by simp [k3],by simp [k4]⟩
 | [],_ :: _,_,h1,_,_,_ => by simp at h1
 | _ :: _,[],_,h1,_,_,_ => by simp at h1
 | _ :: _,_,[],_,h2,_,_ => by simp at h2
def Knows (P : Program) (fns : FuncId → Option CFn) : Prop := ∀ f c,fns f = some c → ∃ fn,P.funcs[f]? = some fn ∧ chkFn P f fn c = true
def Prims (P : Program) (okP : OkP × Tab) (prim : FuncId → Option (List PV → Mem → Option (PV × Bag × Mem))) : Prop :=
 ∀ f F,prim f = some F → ∀ args m v bag m',F args m = some (v,bag,m') → ∀ g w (ra : Array Value),OkG okP g w → Rel g m w → args.length = ra.size → (∀ j c,args[j]? = some c → V g c (ra.getD j undef)) → (∀ c ∈ args,c.untag = c) →
  ∃ fn,P.funcs[f]? = some fn ∧ fn.body.isSome = true ∧ fn.name ≠ "runtime.NumGoroutine" ∧ CallsIn Fence.wide 0 P f ra w fun e w' => ∃ rv,e = .returned rv ∧ ∃ g',CallPost m g w m' bag v g' w' rv
theorem ret_ok {fn : Func} {m : Mem} (h : Inv d nt m g0 w0 g om szm st a w) (hd : d = m.length) {pro : Bool} {cs : List ResC} (hk : ressOk P fn.results.toList cs = true) {v : PV} {bag : Bag} {m' : Mem} (he : retEv st pro cs = some (v,bag,m')) :
  ∃ rv,(results fn a.tmps).run P w = .ok rv w ∧ ∃ g',CallPost m g0 w0 m' bag v g' w rv := by
 unfold retEv at he
 split at he
 ·rename_i u hu
  split at he
  ·rename_i hok
   cases he
   obtain ⟨rv,h1,h2,_⟩ := results_ok (fn := fn) h hk hu
   obtain ⟨g',h3⟩ := post_plain h hd h2 hok
   exact ⟨rv,h1,g',h3⟩
  ·unfold bagEv at he
   split at he
   ·rename_i u2 hu2
    split at he
    ·cases he
    ·rename_i htup
     obtain ⟨rv,h1,_,h2⟩ := results_ok (fn := fn) h hk hu2
     obtain ⟨h3,h4⟩ := h2 rfl (fun us hl hh => by subst hh; simp [isTup,hl] at htup)
     obtain ⟨g',h5⟩ := post_bag h hd h3 h4 he
     exact ⟨rv,h1,g',h5⟩
   ·cases he
 ·cases he
theorem round_snd (hm : P.follows .mixedOrders = true) {fns : FuncId → Option CFn} {K : Callee} {T : Tab} (hK : Snd P (RoOk P fns,T) K) {k : Nat} {rd : Rd} {fs : List Nat} {cap args : List PV} {lv j l : Nat} {r : Loop} {m : Mem} {ra : Array Value} (hokg : OkG (RoOk P fns,T) g w) (hR : Rel g m w)
  (hlp : g.lp lv j = some (l,r)) (hps : r.params.toList = rd.ps) (hnd : rd.ps.Nodup) (hpl : ∀ t ∈ rd.ps,t < r.tmps.size) (hfl : ∀ s ∈ fs,s < r.tmps.size) (hka : chkCd P r.tmps.size none r.assign rd.assign = true) (hkb : chkCd P r.tmps.size none r.body rd.body = true)
  (hcl : cap.length = fs.length) (hcV : ∀ (i : Nat) (c : PV) (s : Nat),cap[i]? = some c → fs[i]? = some s → V g c (r.tmps.getD s undef)) (hal : args.length = rd.ps.length) (hl : args.length = ra.size) (hargs : ∀ i c,args[i]? = some c → V g c (ra.getD i undef)) (hun : ∀ c ∈ args,c.untag = c)
  (hms : (mget m lv j []).isSome = true) (htup : ∀ v ∈ args ++ cap,isTup v = false) {st1 st2 : St} {ex : Ex} {m1 m2 : Mem}
  (h1 : rd.assign.ev K k { f := zipf rd.ps args ++ zipf fs (cap.map PV.untag),tops := [],own := [],dead := [],m := m } = some (.normal,st1)) (h2 : mget st1.m lv j [] = some [.lrec 0]) (h3 : mset st1.m lv j [] [.lrec 1] = some m1)
  (h4 : rd.body.ev K k { st1 with m := m1 } = some (ex,st2)) (h5 : mset st2.m lv j [] [.lrec (recOf ex)] = some m2) :
  Ends P (.func (.yield l) #[] #[]) ra w fun rv w' => ∃ g',CallPost m g w m2 emptyBag (.bool (recOf ex == 0)) g' w' rv := by
 obtain ⟨cs0,hcs0⟩ := Option.isSome_iff_exists.1 hms
 obtain ⟨s0,rfl,pn0,hh0⟩ := hR.hL _ _ _ _ hlp _ hcs0
 have hlvm : lv < m.length := hR.lpv _ _ _ hlp
 have hpsz : ra.size = r.params.size := by rw [← hl,hal,← hps]; simp
 refine .inr ⟨l,turned { r with pending := pn0 } s0,rfl,hh0,hpsz,?_⟩
 let T : Array Value := (rd.ps.zip ra.toList).foldl (fun T p => T.setIfInBounds p.1 p.2) r.tmps
 have hTeq : (r.params.zip ra).foldl (fun tmps (t,a) => tmps.setIfInBounds t a) r.tmps = T := by
  show (r.params.zip ra).foldl (fun tmps (t,a) => tmps.setIfInBounds t a) r.tmps = (rd.ps.zip ra.toList).foldl (fun T p => T.setIfInBounds p.1 p.2) r.tmps
  rw [← Array.foldl_toList,Array.toList_zip,hps]
 have hzl : (rd.ps.zip ra.toList).map (·.1) = rd.ps := by
  rw [List.map_fst_zip]; simp; omega
 obtain ⟨hT1,hT2⟩ := fold_params (rd.ps.zip ra.toList) r.tmps (by rw [hzl]; exact hnd)
 have hI : InvE m.length r.tmps.size m g w { f := zipf rd.ps args ++ zipf fs (cap.map PV.untag),tops := [],own := [],dead := [],m := m } { tmps := T,defers := [] } w := by
  refine Inv.start hR hT1 fun t u hu => ?_
  rw [get_append] at hu
  obtain ⟨k1,k2⟩ := zipf_get (g := g) (ps := rd.ps) (args := args) (ra := ra.toList) hal (by simp; omega) (fun i c rr hc hr => by
   have := hargs i c hc
   have hr' : ra[i]? = some rr := by simpa using hr
   rw [Array.getD_eq_getD_getElem?,hr'] at this; exact this) t
  cases hz : get (zipf rd.ps args) t with
  | some u' =>
   rw [hz] at hu
   simp only [Option.some.injEq] at hu
   subst hu
   obtain ⟨rr,q1,q2,q3,q4⟩ := k1 u' hz
   have hlt := hpl t q4
   refine ⟨hlt,?_,noTag_of (hun u' q3) (htup u' (by simp [q3]))⟩
   rw [hT2 t hlt,q1]; exact q2
  | none =>
   rw [hz] at hu
   simp only at hu
   have hnone := k2 hz
   have hsp : ∀ {fs : List Nat} {cap : List PV},cap.length = fs.length → (∀ (i : Nat) (c : PV) (s : Nat),cap[i]? = some c → fs[i]? = some s → V g c (r.tmps.getD s undef)) → (∀ v ∈ cap,isTup v = false) → ∀ u,get (zipf fs (cap.map PV.untag)) t = some u → t ∈ fs ∧ V g u (r.tmps.getD t undef) ∧ noTag u := by
    intro fs
    induction fs with
    | nil => intro cap _ _ _ u hu; simp [zipf,get] at hu
    | cons s fs ih =>
     intro cap hcl hcV hct u hu
     cases cap with
     | nil => simp at hcl
     | cons c cap =>
      simp only [List.map_cons,zipf] at hu
      rw [get_cons] at hu
      by_cases hs : s = t
      ·rw [if_pos hs] at hu
       cases hu
       subst hs
       exact ⟨by simp,(hcV 0 c s rfl rfl).untag,noTag_of (untag_untag c) (by rw [isTup_untag]; exact hct c (by simp))⟩
      ·rw [if_neg hs] at hu
       obtain ⟨q1,q2⟩ := ih (by simpa using hcl) (fun i c' s' hc hs' => hcV (i + 1) c' s' (by simpa using hc) (by simpa using hs')) (fun v hv => hct v (by simp [hv])) u hu
       exact ⟨by simp [q1],q2⟩
   obtain ⟨q1,q2,q3⟩ := hsp hcl hcV (fun v hv => htup v (by simp [hv])) u hu
   have hlt := hfl t q1
   refine ⟨hlt,?_,q3⟩
   rw [hT2 t hlt,hnone]; exact q2
 refine roundIn_of_wpIn trivial ?_
 show r.assign.wpIn (Fw (some l)) 0 P _ { tmps := (r.params.zip ra).foldl (fun tmps (t,a) => tmps.setIfInBounds t a) r.tmps,defers := [] } w
 rw [hTeq]
 refine wpIn_mono (code_ok hm rfl (ro := some l) hK hokg k (o := none) (fun p hp => by cases hp) hka hI h1) ?_
 intro e1 a1 w1 hq
 have hmc : ∀ (own : Lvl) (mm : Mem),mm.length = m.length → mget (own :: mm) lv j [] = mget mm lv j [] := fun own mm hlen => by rw [mget_cons,if_neg (by omega)]
 have hsc : ∀ (own : Lvl) (mm mm' : Mem) (x : List PV),mm.length = m.length → mset mm lv j [] x = some mm' → mset (own :: mm) lv j [] x = some (own :: mm') := fun own mm mm' x hlen hx => by
  simp only [mset]
  rw [if_neg (by simp only [beq_iff_eq]; omega),hx]
 cases e1 with
 | normal =>
  obtain ⟨_,g1,om1,szm1,hi1⟩ := hq
  have hlp1 : g1.lp lv j = some (l,r) := by rw [hi1.kp.lpl lv j hlvm]; exact hlp
  have hm1 : mget (st1.own :: st1.m) lv j [] = some [.lrec 0] := by rw [hmc _ _ hi1.lv]; exact h2
  obtain ⟨pn1,hh1⟩ := hi1.rel.notLoop hlp1 hm1
  have hi2 := hi1.setRec hlp1 hm1 (hsc st1.own st1.m m1 _ hi1.lv h3) none
  refine ⟨_,run_beginRound hh1 rfl,?_⟩
  show r.body.wpIn (Fw (some l)) 0 P _ a1 (w1.putObj l (.loop (turned { r with pending := none } 1)))
  refine wpIn_mono (code_ok hm rfl (ro := some l) hK hokg k (o := none) (fun p hp => by cases hp) hkb ⟨g1,om1,szm1,hi2⟩ h4) ?_
  intro e2 a2 w2 hq2
  have fin : InvE m.length r.tmps.size m g w st2 a2 w2 → ∀ (jump : Option Code) (b : Bool),b = jump.isNone → b = (recOf ex == 0) → (∀ (r' : Loop),{ turned { r with pending := r'.pending } 0 with state := if jump.isNone then .ready else .done,pending := jump } = turned { r with pending := none } (recOf ex)) →
    ∃ v w',(Instr.endRound l jump).run P w2 = .ok v w' ∧ ∃ rv,Ending.returned v = .returned rv ∧ ∃ g',CallPost m g w m2 emptyBag (.bool (recOf ex == 0)) g' w' rv := by
   rintro ⟨g3,om3,szm3,hi3⟩ jump b hb1 hb2 hturn
   have hlp3 : g3.lp lv j = some (l,r) := by rw [hi3.kp.lpl lv j hlvm]; exact hlp
   obtain ⟨y,W⟩ := mset_wrote h5
   have hm3 : mget (st2.own :: st2.m) lv j [] = some y := by rw [hmc _ _ hi3.lv]; exact W.old
   obtain ⟨s3,rfl,pn3,hh3⟩ := hi3.rel.hL _ _ _ _ hlp3 _ hm3
   have hi4 := hi3.setRec hlp3 hm3 (hsc st2.own st2.m m2 _ hi3.lv h5) none
   have hend := run_endRound (P := P) jump hh3
   have hobj : ({ turned { r with pending := pn3 } s3 with state := if jump.isNone then .ready else .done,pending := jump } : Loop) = turned { r with pending := none } (recOf ex) := by
    rw [← hturn r]; rfl
   rw [hobj] at hend
   obtain ⟨g',hp⟩ := post_plain hi4 rfl (v := .bool (recOf ex == 0)) (rv := .bool jump.isNone) (by rw [← hb2,hb1]; exact .bool _) rfl
   exact ⟨_,_,hend,_,rfl,g',hp⟩
  cases e2 with
  | normal =>
   obtain ⟨he,hi⟩ := hq2
   simp only at he
   subst he
   exact fin hi none true rfl rfl fun r' => rfl
  | ret =>
   obtain ⟨he,hi⟩ := hq2
   simp only at he
   subst he
   exact fin hi (some .ret) false rfl rfl fun r' => rfl
  | exit id =>
   obtain ⟨he,hi⟩ := hq2
   simp only at he
   subst he
   exact fin hi (some (.exit id)) false rfl (by simp [recOf]) fun r' => rfl
  | goto _ => exact hq2.elim
  | panic _ => exact hq2.elim
  | outgrown => exact hq2.elim
 | exit id => exact absurd hq.1 (by simp)
 | ret => exact absurd hq.1 (by simp)
 | goto _ => exact hq.elim
 | panic _ => exact hq.elim
 | outgrown => exact hq.elim
theorem apply_snd (hm : P.follows .mixedOrders = true) {E : Env} (hF : Knows P E.fns) {T : Tab} (hP : Prims P (RoOk P E.fns,T) E.prim) : ∀ k,Snd P (RoOk P E.fns,T) (apply E k)
 | 0 => fun pr fv args m v bag m' h => by simp [apply] at h
 | k + 1 => by
  intro pr fv args m v bag m' he g w rf ra hokg hR hf hl hargs hun
  simp only [apply] at he
  split at he
  ·rename_i f cap
   split at he
   ·rename_i as hbnd
    cases hf with
    | fn _ _ vs hn hV =>
     cases cap with
     | nil => cases hbnd
     | cons x r =>
      have h0 := hV 0 x rfl
      cases x <;> first | (cases hbnd; done) | (cases h0; done)
    | bfn _ cap' vs hn hV =>
     cases hbnd
     have hsz : vs.size = as.length := hn.symm
     have hE := apply_snd hm hF hP k pr (.fn f []) (as.map PV.untag ++ args) m v bag m' he g w (.func (.func f) #[] #[]) (vs ++ ra) hokg hR (.fn f [] #[] rfl (fun j c hj => by simp at hj)) (by simp [hsz,hl]) (fun j c hj => by
       by_cases h1 : j < as.length
       ·rw [List.getElem?_append_left (by simpa using h1),List.getElem?_map] at hj
        obtain ⟨u0,hu0,rfl⟩ := Option.map_eq_some_iff.1 hj
        have := (hV j u0 hu0).untag
        rw [Array.getD_eq_getD_getElem?,Array.getElem?_append_left (by omega),← Array.getD_eq_getD_getElem?]
        exact this
       ·rw [List.getElem?_append_right (by simpa using h1),List.length_map] at hj
        have := hargs _ c hj
        rw [Array.getD_eq_getD_getElem?,Array.getElem?_append_right (by omega),hsz,← Array.getD_eq_getD_getElem?]
        exact this) (fun c hc => by
       rcases List.mem_append.1 hc with hc | hc
       ·obtain ⟨u0,_,rfl⟩ := List.mem_map.1 hc
        exact untag_untag u0
       ·exact hun c hc)
     rcases hE with ⟨f',first',caps',fn,h1,h2,h3,h4,h5⟩ | ⟨l',r',h1,_⟩
     ·injection h1 with e1 e2 e3
      injection e1 with e1
      subst e1; subst e2; subst e3
      exact .inl ⟨f,vs,#[],fn,rfl,h2,h3,h4,by simpa using h5⟩
     ·injection h1 with e1; cases e1
   rename_i hbnd
   split at he
   ·rename_i F hprim
    split at he
    ·rename_i hcap
     have hcap' : cap = [] := by simpa using hcap
     subst hcap'
     cases hf with
     | fn _ _ vs hn hV =>
     have hvs : vs = #[] := by apply Array.ext'; simpa using hn.symm
     subst hvs
     obtain ⟨fn,h1,h2,h3,h4⟩ := hP f F hprim args m v bag m' he g w ra hokg hR hl hargs hun
     exact .inl ⟨f,#[],#[],fn,rfl,h1,h2,h3,by simpa using h4⟩
    ·cases he
   ·split at he
    ·rename_i c hc
     obtain ⟨fn,hfn,hck⟩ := hF f c hc
     simp only [chkFn] at hck
     split at hck
     ·rename_i b hb
      simp only [Bool.and_eq_true,decide_eq_true_eq] at hck
      obtain ⟨⟨⟨hnp,hname⟩,hres⟩,hcd⟩ := hck
      split at he
      ·rename_i hcond
       simp only [Bool.and_eq_true,beq_iff_eq,List.all_eq_true,Bool.not_eq_true'] at hcond
       obtain ⟨hlen',htup⟩ := hcond
       cases hf with
       | bfn _ cap' vs hn hV => cases hbnd
       | fn _ _ vs hn hV =>
       have hsz : (ra ++ vs).size = c.np := by rw [Array.size_append,← hl,← hn,← List.length_append]; exact hlen'
       have hget : ∀ (t : Nat) (u : PV),(args ++ cap.map PV.untag)[t]? = some u → t < c.np ∧ V g u ((ra ++ vs).getD t undef) ∧ noTag u := by
        intro t u hu
        have hlt : t < c.np := by have := (List.getElem?_eq_some_iff.1 hu).1; simp only [List.length_append,List.length_map] at this hlen'; omega
        refine ⟨hlt,?_⟩
        by_cases h1 : t < args.length
        ·rw [List.getElem?_append_left h1] at hu
         have hmem := getElem?_mem' hu
         refine ⟨?_,noTag_of (hun u hmem) (htup u (by simp [hmem]))⟩
         have := hargs t u hu
         rw [Array.getD_eq_getD_getElem?,Array.getElem?_append_left (by omega),← Array.getD_eq_getD_getElem?]
         exact this
        ·rw [List.getElem?_append_right (by omega),List.getElem?_map] at hu
         obtain ⟨u0,hu0,rfl⟩ := Option.map_eq_some_iff.1 hu
         have hmem := getElem?_mem' hu0
         refine ⟨?_,noTag_of (untag_untag u0) (by rw [isTup_untag]; exact htup u0 (by simp [hmem]))⟩
         have := (hV _ u0 hu0).untag
         rw [Array.getD_eq_getD_getElem?,Array.getElem?_append_right (by omega),← hl,← Array.getD_eq_getD_getElem?]
         exact this
       have hI : InvE m.length fn.ntmps m g w { f := numbered 0 (args ++ cap.map PV.untag),tops := [],own := [],dead := [],m := m } { tmps := (ra ++ vs) ++ Array.replicate (fn.ntmps - (ra ++ vs).size) undef,defers := [] } w := by
        refine Inv.start hR ?_ fun t u hu => ?_
        ·simp only [Array.size_append,Array.size_replicate] at hsz ⊢
         omega
        ·rw [get_numbered,if_pos (Nat.zero_le _),Nat.sub_zero] at hu
         obtain ⟨h1,h2,h3⟩ := hget t u hu
         refine ⟨by omega,?_,h3⟩
         rw [Array.getD_eq_getD_getElem?,Array.getElem?_append_left (by omega),← Array.getD_eq_getD_getElem?]
         exact h2
       refine .inl ⟨f,#[],vs,fn,rfl,hfn,by rw [hb]; rfl,hname,?_⟩
       rw [Array.empty_append]
       have fin : ∀ (e : Ex) (st : St),(e = .normal ∨ e = .ret) → c.body.ev (apply E k) k { f := numbered 0 (args ++ cap.map PV.untag),tops := [],own := [],dead := [],m := m } = some (e,st) → retEv st pr c.res = some (v,bag,m') →
         CallsIn Fence.wide 0 P f (ra ++ vs) w fun e w' => ∃ rv,e = .returned rv ∧ ∃ g',CallPost m g w m' bag v g' w' rv := by
        intro e st he1 hbody hret
        refine callsIn_of_wp_marks hfn hb trivial (wpIn_mono (code_ok hm rfl (ro := none) (apply_snd hm hF hP k) hokg k (o := some (f,c.rds)) (fun p hp => by cases hp; exact ⟨rfl,c,hc,rfl⟩) hcd hI hbody) ?_)
        intro ex a' w' hq
        have post : InvE m.length fn.ntmps m g w st a' w' → LeavesInM Fence.wide 0 P fn a'.tmps (fun e w' => ∃ rv,e = .returned rv ∧ ∃ g',CallPost m g w m' bag v g' w' rv) a'.defers .returning w' := by
         rintro ⟨g1,om,szm,hi⟩
         obtain ⟨T,ds⟩ := a'
         refine leaves_ok hi fun w'' hi' => ?_
         obtain ⟨rv,h1,g',h2⟩ := ret_ok (fn := fn) hi' rfl hres hret
         exact ⟨rv,h1,rv,rfl,g',h2⟩
        cases ex with
        | normal => exact post hq.2
        | ret => exact post hq.2
        | exit id => rcases he1 with rfl | rfl <;> exact absurd hq.1 (by simp)
        | goto _ => exact hq.elim
        | panic _ => exact hq.elim
        | outgrown => exact hq.elim
       split at he
       ·rename_i st hbody; exact fin _ st (.inl rfl) hbody he
       ·rename_i st hbody; exact fin _ st (.inr rfl) hbody he
       ·cases he
      ·cases he
     ·cases hck
    ·cases he
  ·rename_i f i fs cap lv j
   split at he
   ·rename_i c hc
    split at he
    ·rename_i rd hrd
     split at he
     ·rename_i hcond
      simp only [Bool.and_eq_true,decide_eq_true_eq,beq_iff_eq,List.all_eq_true,Bool.not_eq_true'] at hcond
      obtain ⟨⟨⟨⟨h1,h2⟩,h3⟩,h4⟩,h5⟩ := hcond
      cases hf with
      | rnd _ _ _ _ _ _ l r hlp hok hn hV =>
      rw [hokg.1] at hok
      obtain ⟨c',rd',k1,k2,k3,k4,k5,k6,k7,k8,k9⟩ := hok
      rw [hc] at k1; cases k1
      rw [hrd] at k2; cases k2
      split at he
      ·rename_i st1 e1
       split at he
       ·rename_i e2
        split at he
        ·rename_i m1 e3
         split at he
         ·rename_i ex st2 e4
          split at he
          ·rename_i m2 e5
           cases he
           exact round_snd hm (apply_snd hm hF hP k) hokg hR hlp k4 k5 k6 k7 k8 k9 hn hV h2 hl hargs hun h4 h5 e1 e2 e3 e4 e5
          ·cases he
         ·cases he
        ·cases he
       ·cases he
      ·cases he
     ·cases he
    ·cases he
   ·cases he
  ·cases he
end
end Go.Proofs.Ytmffcpiffkclgaa.ZJM
