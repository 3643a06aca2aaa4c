/- A loop's head: what is kept; names that turn. -/
import Derived.Test.YtmffcpiffkclgaaZJ7B
set_option linter.unusedSimpArgs false
set_option linter.unusedVariables false
namespace Go.Proofs.Ytmffcpiffkclgaa.ZJM
open Go.RowKit
theorem tget_okns {n : Nat} {ks ts : List Nat} : ∀ {p : Path} {cs zs : List PV},PV.okns n ks ts cs = true → tget cs p = some zs → PV.okns n ks ts zs = true
 | [],cs,zs,h,hz => by simp only [tget,Option.some.injEq] at hz; subst hz; exact h
 | q :: p,cs,zs,h,hz => by
  simp only [tget] at hz
  split at hz
  ·rename_i hc
   split at hz
   ·have := okns_mem h _ (getElem?_mem' hc)
    simp only [PV.okn] at this
    exact tget_okns this hz
   ·cases hz
  ·cases hz
theorem MC.among {g g' : Gh} {n : Nat} {ks ts : List Nat} (hG : ∀ b o v,g.G b o = some v → g'.G b o = some v)
  (hb : ∀ l s p,(l ≠ n ∨ ks.contains s = true) → g'.blk l s p = g.blk l s p) (hr : ∀ l s,(l ≠ n ∨ ks.contains s = true) → g'.lp l s = g.lp l s) (hk : g'.ok = g.ok) {lv sl : Nat} {p : Path} {j : Nat} (hls : lv ≠ n ∨ ks.contains sl = true) {c : PV} {rv : Value}
  (h : MC g lv sl p j c rv) (ho : c.okn n ks ts = true) : MC g' lv sl p j c rv := by
 cases c with
 | vec ver m sz cs => obtain ⟨b,o,t,o',c,h1,h2⟩ := h; exact ⟨b,o,t,o',c,by rw [hb _ _ _ hls]; exact h1,h2⟩
 | vnil => exact h
 | vfrz ver sz xs => exact ⟨h.1,V.among hG hb hr hk (ks := ks) (ts := ts) h.2 (by simpa [PV.okn] using ho)⟩
 | gone => exact h
 | lrec => exact h.elim
 | _ => exact ⟨h.1,h.2.1,h.2.2.1,V.among hG hb hr hk h.2.2.2 ho⟩
theorem MC.under {g g' : Gh} {n : Nat} (hG : ∀ b o v,g.G b o = some v → g'.G b o = some v) (hb : ∀ l s p,l < n → g'.blk l s p = g.blk l s p) (hr : ∀ l s,l < n → g'.lp l s = g.lp l s) (hk : g'.ok = g.ok) {lv sl : Nat} {p : Path} {j : Nat} (hl : lv < n) {c : PV} {rv : Value}
  (h : MC g lv sl p j c rv) : MC g' lv sl p j c rv := by
 cases c with
 | vec ver m sz cs => obtain ⟨b,o,t,o',c,h1,h2⟩ := h; exact ⟨b,o,t,o',c,by rw [hb _ _ _ hl]; exact h1,h2⟩
 | vnil => exact h
 | vfrz ver sz xs => exact ⟨h.1,V.under (n := n) hG hb hr hk h.2 (by simp only [PV.dep]; exact deps_mono (by omega) xs h.1)⟩
 | gone => exact h
 | lrec => exact h.elim
 | _ => exact ⟨h.1,h.2.1,h.2.2.1,V.under (n := n) hG hb hr hk h.2.2.2 (dep_mono (by omega) _ h.2.2.1)⟩
section
variable {P : Program} {d nt : Nat} {m0 : Mem} {g0 : Gh} {w0 : World} {g : Gh} {om : Nat → Value} {szm : Nat → Nat} {st : St} {a : Act} {w : World}
theorem Inv.keep0 (h : Inv d nt m0 g0 w0 g om szm st a w) {fs ks ts : List Nat} {st' : St} (hs : keepSt0 fs ks ts st = some st') (hok : okSt ks ts st' = true) : ∃ g' om',Inv d nt m0 g0 w0 g' om' szm st' a w ∧
  (∀ s p x,g'.blk d s p = some x → ks.contains s = true) ∧ (∀ s x,g'.lp d s = some x → ks.contains s = true) := by
 simp only [keepSt0] at hs
 split at hs
 ·rename_i f' own' hf ho
  cases hs
  simp only [okSt,Bool.and_eq_true,List.all_eq_true] at hok
  obtain ⟨hokf,hoko⟩ := hok
  let g' : Gh := { g with blk := fun l s p => if l = d ∧ ks.contains s = false then none else g.blk l s p,lp := fun l s => if l = d ∧ ks.contains s = false then none else g.lp l s }
  let om' : Nat → Value := fun k => if (get st.tops k).isSome then om k else .slice none 0 0
  have hom : ∀ k p,get st.tops k = some p → om' k = om k := fun k p hk => by show (if _ then _ else _) = _; rw [hk]; rfl
  have hle' : ∀ l s p x,g'.blk l s p = some x → g.blk l s p = some x ∧ (l = d → ks.contains s = true) := by
   intro l s p b hb
   have hb' : (if l = d ∧ ks.contains s = false then none else g.blk l s p) = some b := hb
   split at hb'
   ·cases hb'
   ·rename_i hn
    refine ⟨hb',fun hl => ?_⟩
    cases hc : ks.contains s with
    | true => rfl
    | false => exact absurd ⟨hl,hc⟩ hn
  have hleL : ∀ l s x,g'.lp l s = some x → g.lp l s = some x ∧ (l = d → ks.contains s = true) := by
   intro l s b hb
   have hb' : (if l = d ∧ ks.contains s = false then none else g.lp l s) = some b := hb
   split at hb'
   ·cases hb'
   ·rename_i hn
    refine ⟨hb',fun hl => ?_⟩
    cases hc : ks.contains s with
    | true => rfl
    | false => exact absurd ⟨hl,hc⟩ hn
  have hneg : ∀ l s,(l ≠ d ∨ ks.contains s = true) → ¬ (l = d ∧ ks.contains s = false) := by
   rintro l s hls ⟨h1,h2⟩
   rcases hls with h3 | h3
   ·exact h3 h1
   ·rw [h2] at h3; cases h3
  have hkeep : ∀ l s p,(l ≠ d ∨ ks.contains s = true) → g'.blk l s p = g.blk l s p := fun l s p hls => by show (if _ then _ else _) = _; rw [if_neg (hneg l s hls)]
  have hkeepL : ∀ l s,(l ≠ d ∨ ks.contains s = true) → g'.lp l s = g.lp l s := fun l s hls => by show (if _ then _ else _) = _; rw [if_neg (hneg l s hls)]
  have hgetown : ∀ s cs,get own' s = some cs → get st.own s = some cs ∧ ks.contains s = true := fun s cs => gets_get ho s cs
  have hlvE : st.m.length = d := h.lv
  have hmget : ∀ l s p zs,mget (own' :: st.m) l s p = some zs → mget (st.own :: st.m) l s p = some zs ∧ (l = d → ks.contains s = true ∧ PV.okns d ks [] zs = true) := by
   intro l s p zs hz
   rw [mget_cons,hlvE] at hz ⊢
   by_cases he : l = d
   ·rw [if_pos he] at hz ⊢
    unfold lget at hz ⊢
    cases hg : get own' s with
    | none => rw [hg] at hz; cases hz
    | some cs =>
     rw [hg] at hz
     obtain ⟨q1,q2⟩ := hgetown s cs hg
     rw [q1]
     have q3 := hoko _ (get_mem hg)
     simp only [hlvE] at q3
     exact ⟨hz,fun _ => ⟨q2,tget_okns q3 hz⟩⟩
   ·rw [if_neg he] at hz ⊢
    exact ⟨hz,fun hh => absurd hh he⟩
  have hV : ∀ v rv,V g v rv → v.okn d ks ts = true → V g' v rv := fun v rv hv hk => V.among (g := g) (g' := g') (n := d) (ks := ks) (ts := ts) (fun _ _ _ x => x) hkeep hkeepL rfl hv hk
  have hbelow : ∀ l s p,l < d → g'.blk l s p = g.blk l s p := fun l s p hl => hkeep l s p (.inl (by omega))
  have hbelowL : ∀ l s,l < d → g'.lp l s = g.lp l s := fun l s hl => hkeepL l s (.inl (by omega))
  have hfreeG : ∀ b,g.free b → g'.free b := fun b hb => ⟨fun l s p o t hh => hb.1 _ _ _ _ _ (hle' _ _ _ _ hh).1,fun l s r hh => hb.2 _ _ _ (hleL _ _ _ hh).1⟩
  have hfr : ∀ s,ks.contains s = true → isFree st s = false → isFree { st with f := f',own := own',dead := [],tops := ts.map fun t => (t,(get st.tops t).getD (0,0)) } s = false := by
   intro s hc _
   have q1 : get own' s = get st.own s := gets_has ho s hc
   have q2 : get own' s ≠ none := by
    have key : ∀ (l : List Nat) (o : Lvl),gets st.own l = some o → l.contains s = true → get o s ≠ none := by
     intro l
     induction l with
     | nil => intro o _ hh; simp at hh
     | cons t l ih =>
      intro o hh hc'
      simp only [gets] at hh
      split at hh
      ·rename_i x xs hx hxs
       cases hh
       rw [get_cons]
       by_cases ht : t = s
       ·rw [if_pos ht]; simp
       ·rw [if_neg ht]
        exact ih xs hxs (by simpa [Ne.symm ht] using hc')
      ·cases hh
    exact key ks own' ho hc
   cases hfr : isFree { st with f := f',own := own',dead := [],tops := ts.map fun t => (t,(get st.tops t).getD (0,0)) } s with
   | false => rfl
   | true => exact absurd (isFree_iff.1 hfr).1 q2
  refine ⟨g',om',⟨⟨fun b o v hb => h.rel.hG b o v hb,fun lv sl p b o t hb zs hz => ?_,fun lv sl l r hb zs hz => ?_,fun l s p l' s' p' b o t o' t' zs zs' h1 h2 hz hz' => ?_,fun l s l' s' b r r' zs zs' h1 h2 hz hz' => ?_,fun lv sl p j v x h1 zs hz => ?_,fun l s p x hx => ?_,fun l s x hx => ?_,fun l s p b o t hx => ?_,fun l s b r hx => ?_,fun lv sl q x y h1 => ?_⟩,
   h.lv,fun t v hv => ?_,h.nt,fun x hx => ?_,h.dn,fun n p hp => ?_,fun n n' p p' hne hp hp' => ?_,?_,fun s p x hx => ?_,fun s x hx => ?_,h.roots⟩,fun s p x hx => (hle' _ _ _ _ hx).2 rfl,fun s x hx => (hleL _ _ _ hx).2 rfl⟩
  ·obtain ⟨hb1,hb2⟩ := hle' _ _ _ _ hb
   obtain ⟨hz1,hz2⟩ := hmget _ _ _ _ hz
   obtain ⟨C,E,a1,a2,a3,a4,a5⟩ := h.rel.hM _ _ _ _ _ _ hb1 _ hz1
   refine ⟨C,E,a1,a2,a3,fun j c hj => ?_,a5⟩
   by_cases he : lv = d
   ·obtain ⟨q1,q2⟩ := hz2 he
    exact (a4 j c hj).among (g := g) (g' := g') (n := d) (ks := ks) (ts := []) (fun _ _ _ x => x) hkeep hkeepL rfl (.inr q1) (okns_mem q2 c (getElem?_mem' hj))
   ·have hlt := h.rel.lv _ _ _ _ hb1
    simp only [List.length_cons,hlvE] at hlt
    exact (a4 j c hj).under (g := g) (g' := g') (n := d) (fun _ _ _ x => x) hbelow hbelowL rfl (by omega)
  ·exact h.rel.hL _ _ _ _ (hleL _ _ _ hb).1 _ (hmget _ _ _ _ hz).1
  ·exact h.rel.inj _ _ _ _ _ _ _ _ _ _ _ _ _ (hle' _ _ _ _ h1).1 (hle' _ _ _ _ h2).1 (hmget _ _ _ _ hz).1 (hmget _ _ _ _ hz').1
  ·exact h.rel.injL _ _ _ _ _ _ _ _ _ (hleL _ _ _ h1).1 (hleL _ _ _ h2).1 (hmget _ _ _ _ hz).1 (hmget _ _ _ _ hz').1
  ·exact h.rel.ver _ _ _ _ _ _ (hle' _ _ _ _ h1).1 _ (hmget _ _ _ _ hz).1
  ·exact h.rel.lv _ _ _ _ (hle' _ _ _ _ hx).1
  ·exact h.rel.lpv _ _ _ (hleL _ _ _ hx).1
  ·exact h.rel.bd _ _ _ _ _ _ (hle' _ _ _ _ hx).1
  ·exact h.rel.bdL _ _ _ _ (hleL _ _ _ hx).1
  ·obtain ⟨q1,q2⟩ := hle' _ _ _ _ h1
   obtain ⟨z,hz⟩ := h.rel.pre _ _ _ _ _ q1
   refine ⟨z,?_⟩
   rw [hkeep]
   ·exact hz
   ·by_cases he : lv = d
    ·exact .inr (q2 he)
    ·exact .inl he
  ·have hv' := (gets_get hf t v hv).1
   obtain ⟨x,y,z⟩ := h.f t v hv'
   have h1 := hokf _ (get_mem hv)
   simp only [hlvE] at h1
   refine ⟨x,hV _ _ y h1,?_⟩
   cases v with
   | agg cs => exact fun vs hvs j c hj => okn_tag (okns_mem (by simpa [PV.okn] using h1) c (getElem?_mem' hj)) (z vs hvs j c hj) hom
   | tup cs => exact fun vs hvs j c hj => okn_tag (okns_mem (by simpa [PV.okn] using h1) c (getElem?_mem' hj)) (z vs hvs j c hj) hom
   | _ => simp only [Tg] at z ⊢; exact okn_tag h1 z hom
  ·obtain ⟨D,q1,q2,q3,q4⟩ := h.df x hx
   exact ⟨D,q1,q2,q3,hfreeG D q4⟩
  ·rw [get_map_tops] at hp
   split at hp
   ·simp only [Option.some.injEq] at hp
    cases hn : get st.tops n with
    | some q =>
     rw [hn] at hp
     simp only [Option.getD_some] at hp
     subst hp
     obtain ⟨vals,x,y⟩ := h.own n q hn
     refine ⟨vals,by rw [hom n q hn]; exact x,fun b hb => ?_⟩
     rw [hom n q hn] at hb
     exact ⟨hfreeG b (y b hb).1,(y b hb).2⟩
    | none =>
     rw [hn] at hp
     simp only [Option.getD_none] at hp
     subst hp
     have : om' n = .slice none 0 0 := by show (if _ then _ else _) = _; rw [hn]; rfl
     rw [Own,this]
     exact ⟨[],World.ownsRow_nil w _ _ _,fun b hb => by cases hb⟩
   ·cases hp
  ·cases hn : get st.tops n with
   | none => left; show (if _ then _ else _ : Value).ownBlock = none; rw [hn]; rfl
   | some q =>
    cases hn' : get st.tops n' with
    | none =>
     have h2 : om' n' = .slice none 0 0 := by show (if _ then _ else _) = _; rw [hn']; rfl
     rw [h2]
     cases hb : (om' n).ownBlock <;> simp [Value.ownBlock]
    | some q' => rw [hom n q hn,hom n' q' hn']; exact h.apart n n' q q' hne hn hn'
  ·refine ⟨h.kp.size,h.kp.keep,h.kp.G,fun l s p x hl hx => by rw [hbelow l s p hl]; exact h.kp.blk l s p x hl hx,fun l s hl => by rw [hbelowL l s hl]; exact h.kp.lpl l s hl,fun l s p b o t hb => h.kp.new _ _ _ _ _ _ (hle' _ _ _ _ hb).1,fun l s b r hb => h.kp.newL _ _ _ _ (hleL _ _ _ hb).1,
    fun l s p x hl hx => h.kp.root _ _ _ _ hl (hle' _ _ _ _ hx).1,h.kp.os,h.kp.tape,h.kp.output,h.kp.ok⟩
  ·obtain ⟨q1,q2⟩ := hle' _ _ _ _ hx
   exact hfr s (q2 rfl) (h.nm _ _ _ q1)
  ·obtain ⟨q1,q2⟩ := hleL _ _ _ hx
   exact hfr s (q2 rfl) (h.nmL _ _ q1)
 ·cases hs
end
theorem rens_length {lv lv' : Nat} {ρ : Nat → Nat} : ∀ l : List PV,(PV.rens lv lv' ρ l).length = l.length
 | [] => rfl
 | x :: r => by simp [PV.rens,rens_length r]
theorem rens_get {lv lv' : Nat} {ρ : Nat → Nat} : ∀ (l : List PV) (j : Nat),(PV.rens lv lv' ρ l)[j]? = (l[j]?).map (PV.ren lv lv' ρ)
 | [],j => by simp [PV.rens]
 | x :: r,0 => by simp [PV.rens]
 | x :: r,j + 1 => by simp [PV.rens,rens_get r j]
theorem rens_append {lv lv' : Nat} {ρ : Nat → Nat} : ∀ l r : List PV,PV.rens lv lv' ρ (l ++ r) = PV.rens lv lv' ρ l ++ PV.rens lv lv' ρ r
 | [],r => rfl
 | x :: l,r => by simp [PV.rens,rens_append l r]
theorem rens_mem {lv lv' : Nat} {ρ : Nat → Nat} {l : List PV} {x : PV} (h : x ∈ PV.rens lv lv' ρ l) : ∃ y ∈ l,x = y.ren lv lv' ρ := by
 obtain ⟨j,hj⟩ := List.getElem?_of_mem h
 rw [rens_get] at hj
 obtain ⟨y,hy,rfl⟩ := Option.map_eq_some_iff.1 hj
 exact ⟨y,getElem?_mem' hy,rfl⟩
theorem ren_isCell {lv lv' : Nat} {ρ : Nat → Nat} (x : PV) : (x.ren lv lv' ρ).isCell = x.isCell := by
 cases x <;> simp only [PV.ren] <;> first | rfl | (split <;> rfl)
theorem ren_cells {lv lv' : Nat} {ρ : Nat → Nat} (x : PV) : (x.ren lv lv' ρ).cells = PV.rens lv lv' ρ x.cells := by
 cases x with
 | ptr l s p off => by_cases hl : (l == lv) = true <;> simp [PV.ren,PV.cells,PV.rens,hl]
 | slr l s p off n sz => by_cases hl : (l == lv) = true <;> simp [PV.ren,PV.cells,PV.rens,hl]
 | _ => simp only [PV.ren,PV.cells,PV.rens]
theorem ren_isVal {lv lv' : Nat} {ρ : Nat → Nat} (x : PV) : (x.ren lv lv' ρ).isVal = x.isVal := by
 have key : ∀ l : List PV,(PV.rens lv lv' ρ l).all PV.isCell = l.all PV.isCell := by
  intro l
  induction l with
  | nil => rfl
  | cons c r ih => simp only [PV.rens,List.all_cons,ih,ren_isCell]
 cases x with
 | ptr l s p off => by_cases hl : (l == lv) = true <;> simp [PV.ren,PV.isVal,hl,PV.isCell]
 | slr l s p off n sz => by_cases hl : (l == lv) = true <;> simp [PV.ren,PV.isVal,hl,PV.isCell]
 | agg cs => simp only [PV.ren,PV.isVal]; exact key _
 | _ => rfl
theorem ren_untag1 {lv lv' : Nat} {ρ : Nat → Nat} (x : PV) : (x.ren lv lv' ρ).untag1 = x.untag1.ren lv lv' ρ := by
 cases x with
 | ptr l s p off => by_cases hl : (l == lv) = true <;> simp [PV.ren,PV.untag1,hl]
 | slr l s p off n sz => by_cases hl : (l == lv) = true <;> simp [PV.ren,PV.untag1,hl]
 | _ => rfl
theorem ren_untag {lv lv' : Nat} {ρ : Nat → Nat} (x : PV) : (x.ren lv lv' ρ).untag = x.untag.ren lv lv' ρ := by
 have key : ∀ l : List PV,(PV.rens lv lv' ρ l).map PV.untag1 = PV.rens lv lv' ρ (l.map PV.untag1) := by
  intro l
  induction l with
  | nil => rfl
  | cons c r ih => simp only [PV.rens,List.map_cons,ih,ren_untag1]
 cases x with
 | ptr l s p off => by_cases hl : (l == lv) = true <;> simp [PV.ren,PV.untag,PV.untag1,hl]
 | slr l s p off n sz => by_cases hl : (l == lv) = true <;> simp [PV.ren,PV.untag,PV.untag1,hl]
 | agg cs => simp only [PV.ren,PV.untag,key]
 | _ => rfl
theorem flat_rens {lv lv' : Nat} {ρ : Nat → Nat} : ∀ l : List PV,(PV.rens lv lv' ρ l).flatMap PV.cells = PV.rens lv lv' ρ (l.flatMap PV.cells)
 | [] => rfl
 | x :: r => by simp only [PV.rens,List.flatMap_cons,flat_rens r,ren_cells,rens_append]
theorem V.ren {g g' : Gh} {n n' : Nat} {ks ts : List Nat} {ρ : Nat → Nat} (hG : ∀ b o v,g.G b o = some v → g'.G b o = some v) (hb : ∀ l s p x,l ≠ n → g.blk l s p = some x → g'.blk l s p = some x) (hbn : ∀ s p x,ks.contains s = true → g.blk n s p = some x → g'.blk n' (ρ s) p = some x)
  (hr : ∀ l s x,l ≠ n → g.lp l s = some x → g'.lp l s = some x) (hrn : ∀ s x,ks.contains s = true → g.lp n s = some x → g'.lp n' (ρ s) = some x) (hk : g'.ok = g.ok) {v : PV} {rv : Value} (h : V g v rv) : v.okn n ks ts = true → V g' (v.ren n n' ρ) rv := by
 induction h with
 | bool b => exact fun _ => .bool b
 | int k n => exact fun _ => .int k n
 | str s => exact fun _ => .str s
 | nil o sz => exact fun _ => .nil o sz
 | lst o sz xs b off cap rv hs hu hG' _ hc ih =>
  intro hd
  simp only [PV.okn,Bool.and_eq_true] at hd
  simp only [PV.ren]
  rw [← rens_length (lv := n) (lv' := n') (ρ := ρ) xs]
  refine .lst o sz _ b off cap rv (fun x hx => ?_) (fun x hx => ?_) (fun j hj => ?_) (fun j c hj => ?_) (by rw [rens_length]; exact hc)
  ·obtain ⟨y,hy,rfl⟩ := rens_mem hx
   obtain ⟨q1,q2⟩ := hs y hy
   exact ⟨by rw [ren_isVal]; exact q1,by rw [ren_cells,rens_length]; exact q2⟩
  ·obtain ⟨y,hy,rfl⟩ := rens_mem hx
   rw [ren_untag,hu y hy]
  ·rw [flat_rens,rens_length] at hj; exact hG _ _ _ (hG' j hj)
  ·rw [flat_rens,rens_get] at hj
   obtain ⟨y,hy,rfl⟩ := Option.map_eq_some_iff.1 hj
   refine ih j y hy ?_
   obtain ⟨x,hx,hxc⟩ := List.mem_flatMap.1 (getElem?_mem' hy)
   exact cells_okn (okns_mem hd.2 x hx) y hxc
 | emp sz a => exact fun _ => .emp sz a
 | agg cs vs hn hc _ ih =>
  intro hd
  simp only [PV.okn] at hd
  refine .agg _ vs (by rw [rens_length]; exact hn) (fun c hc' => ?_) fun j c hj => ?_
  ·obtain ⟨y,hy,rfl⟩ := rens_mem hc'
   rw [ren_isCell]; exact hc y hy
  ·rw [rens_get] at hj
   obtain ⟨y,hy,rfl⟩ := Option.map_eq_some_iff.1 hj
   exact ih j y hy (okns_mem hd y (getElem?_mem' hy))
 | tup cs vs hn _ ih =>
  intro hd
  simp only [PV.okn] at hd
  refine .tup _ vs (by rw [rens_length]; exact hn) fun j c hj => ?_
  rw [rens_get] at hj
  obtain ⟨y,hy,rfl⟩ := Option.map_eq_some_iff.1 hj
  exact ih j y hy (okns_mem hd y (getElem?_mem' hy))
 | nilp => exact fun _ => .nilp
 | ptr lv sl p off b o t h =>
  intro hd
  simp only [PV.okn,Bool.or_eq_true,bne_iff_ne] at hd
  simp only [PV.ren]
  by_cases hl : lv = n
  ·subst hl
   rw [if_pos (by simp)]
   exact .ptr _ _ p off b o t (hbn _ _ _ (hd.resolve_left (by simp)) h)
  ·rw [if_neg (by simpa using hl)]
   exact .ptr _ _ p off b o t (hb _ _ _ _ hl h)
 | slr lv sl p off n0 sz b o t off' c h ho hc =>
  intro hd
  simp only [PV.okn,Bool.or_eq_true,bne_iff_ne] at hd
  simp only [PV.ren]
  by_cases hl : lv = n
  ·subst hl
   rw [if_pos (by simp)]
   exact .slr _ _ p off n0 sz b o t off' c (hbn _ _ _ (hd.resolve_left (by simp)) h) ho hc
  ·rw [if_neg (by simpa using hl)]
   exact .slr _ _ p off n0 sz b o t off' c (hb _ _ _ _ hl h) ho hc
 | elp x off b base rv hx hu hG' _ ih =>
  intro hd
  simp only [PV.okn] at hd
  refine .elp _ off b base rv (by rw [ren_isVal]; exact hx) (by rw [ren_untag,hu]) (fun j hj => ?_) fun j c hj => ?_
  ·rw [ren_cells,rens_length] at hj; exact hG _ _ _ (hG' j hj)
  ·rw [ren_cells,rens_get] at hj
   obtain ⟨y,hy,rfl⟩ := Option.map_eq_some_iff.1 hj
   exact ih j y hy (cells_okn hd y (getElem?_mem' hy))
 | fn f cap vs hn _ ih =>
  intro hd
  simp only [PV.okn] at hd
  refine .fn f _ vs (by rw [rens_length]; exact hn) fun j c hj => ?_
  rw [rens_get] at hj
  obtain ⟨y,hy,rfl⟩ := Option.map_eq_some_iff.1 hj
  exact ih j y hy (okns_mem hd y (getElem?_mem' hy))
 | bfn f cap vs hn _ ih =>
  intro hd
  simp only [PV.okn] at hd
  refine .bfn f (PV.rens n n' ρ cap) vs (by rw [rens_length]; exact hn) fun j c hj => ?_
  rw [rens_get] at hj
  obtain ⟨y,hy,rfl⟩ := Option.map_eq_some_iff.1 hj
  exact ih j y hy (okns_mem hd y (List.mem_cons_of_mem _ (getElem?_mem' hy)))
 | rnd f i fs cap lv sl l r h hok hn _ ih =>
  intro hd
  simp only [PV.okn,Bool.and_eq_true,Bool.or_eq_true,bne_iff_ne] at hd
  simp only [PV.ren]
  have hV : ∀ (j : Nat) (c : PV) (s : Nat),(PV.rens n n' ρ cap)[j]? = some c → fs[j]? = some s → V g' c (r.tmps.getD s undef) := by
   intro j c s hj hs
   rw [rens_get] at hj
   obtain ⟨y,hy,rfl⟩ := Option.map_eq_some_iff.1 hj
   exact ih j y s hy hs (okns_mem hd.2 y (getElem?_mem' hy))
  by_cases hl : lv = n
  ·subst hl
   simp only [beq_self_eq_true,if_true]
   exact .rnd f i fs _ _ _ l r (hrn _ _ (hd.1.resolve_left (by simp)) h) (hk ▸ hok) (by rw [rens_length]; exact hn) hV
  ·have hl' : ¬ ((lv == n) = true) := by simpa using hl
   simp only [hl',if_false]
   exact .rnd f i fs _ _ _ l r (hr _ _ _ hl h) (hk ▸ hok) (by rw [rens_length]; exact hn) hV
 | nilfn => exact fun _ => .nilfn
 | nilif => exact fun _ => .nilif
 | ifc t v rv _ ih => exact fun hd => .ifc t _ rv (ih (by simpa [PV.okn] using hd))
 | und => exact fun _ => .und
end Go.Proofs.Ytmffcpiffkclgaa.ZJM
set_option linter.unusedSimpArgs false
set_option linter.unusedVariables false
namespace Go.Proofs.Ytmffcpiffkclgaa.ZJM
open Go.RowKit
mutual
theorem ren_id {n n' : Nat} {ρ : Nat → Nat} : ∀ v : PV,v.dep n = true → v.ren n n' ρ = v
 | .lst o nl sz xs,h => by simp only [PV.dep] at h; simp only [PV.ren,rens_id xs h]
 | .agg cs,h => by simp only [PV.dep] at h; simp only [PV.ren,rens_id cs h]
 | .tup vs,h => by simp only [PV.dep] at h; simp only [PV.ren,rens_id vs h]
 | .ptr lv _ _ _,h => by simp only [PV.dep,decide_eq_true_eq] at h; simp only [PV.ren]; rw [if_neg (by simp; omega)]
 | .slr lv _ _ _ _ _,h => by simp only [PV.dep,decide_eq_true_eq] at h; simp only [PV.ren]; rw [if_neg (by simp; omega)]
 | .elp x _,h => by simp only [PV.dep] at h; simp only [PV.ren,ren_id x h]
 | .fn _ cap,h => by simp only [PV.dep] at h; simp only [PV.ren,rens_id cap h]
 | .rnd f i fs cap lv sl,h => by
  simp only [PV.dep,Bool.and_eq_true,decide_eq_true_eq] at h
  have hl : ¬ ((lv == n) = true) := by simp; omega
  simp only [PV.ren,rens_id cap h.2,hl,if_false]
  simp
 | .ifc _ v,h => by simp only [PV.dep] at h; simp only [PV.ren,ren_id v h]
 | .vec _ _ _ cs,h => by simp only [PV.dep] at h; simp only [PV.ren,rens_id cs h]
 | .vfrz _ _ xs,h => by simp only [PV.dep] at h; simp only [PV.ren,rens_id xs h]
 | .bool _,_ | .int _ _,_ | .str _,_ | .nilp,_ | .nilfn,_ | .nilif,_ | .und,_ | .vnil _ _,_ | .gone _ _,_ | .lrec _,_ => rfl
theorem rens_id {n n' : Nat} {ρ : Nat → Nat} : ∀ vs : List PV,PV.deps n vs = true → PV.rens n n' ρ vs = vs
 | [],_ => rfl
 | v :: r,h => by
  simp only [PV.deps,Bool.and_eq_true] at h
  simp only [PV.rens,ren_id v h.1,rens_id r h.2]
end
mutual
theorem ren_dep {n n' : Nat} {ρ : Nat → Nat} (hn : n' = n ∨ n' + 1 = n) : ∀ v : PV,v.dep (n + 1) = true → (v.ren n n' ρ).dep (n' + 1) = true
 | .lst o nl sz xs,h => by simp only [PV.dep] at h; simp only [PV.ren,PV.dep]; exact rens_dep hn xs h
 | .agg cs,h => by simp only [PV.dep] at h; simp only [PV.ren,PV.dep]; exact rens_dep hn cs h
 | .tup vs,h => by simp only [PV.dep] at h; simp only [PV.ren,PV.dep]; exact rens_dep hn vs h
 | .ptr lv s p off,h => by
  simp only [PV.dep,decide_eq_true_eq] at h
  by_cases hl : (lv == n) = true
  ·simp [PV.ren,hl,PV.dep]
  ·simp only [PV.ren,hl,if_false,PV.dep,decide_eq_true_eq]
   simp only [beq_iff_eq] at hl
   simp only [Bool.false_eq_true,if_false,PV.dep,decide_eq_true_eq]; omega
 | .slr lv s p off k sz,h => by
  simp only [PV.dep,decide_eq_true_eq] at h
  by_cases hl : (lv == n) = true
  ·simp [PV.ren,hl,PV.dep]
  ·simp only [PV.ren,hl,if_false,PV.dep,decide_eq_true_eq]
   simp only [beq_iff_eq] at hl
   simp only [Bool.false_eq_true,if_false,PV.dep,decide_eq_true_eq]; omega
 | .elp x _,h => by simp only [PV.dep] at h; simp only [PV.ren,PV.dep]; exact ren_dep hn x h
 | .fn _ cap,h => by simp only [PV.dep] at h; simp only [PV.ren,PV.dep]; exact rens_dep hn cap h
 | .rnd f i fs cap lv sl,h => by
  simp only [PV.dep,Bool.and_eq_true,decide_eq_true_eq] at h
  simp only [PV.ren,PV.dep,Bool.and_eq_true,decide_eq_true_eq]
  refine ⟨?_,rens_dep hn cap h.2⟩
  by_cases hl : lv = n
  ·subst hl; simp
  ·have hl' : ¬ ((lv == n) = true) := by simpa using hl
   simp only [hl']
   simp; omega
 | .ifc _ v,h => by simp only [PV.dep] at h; simp only [PV.ren,PV.dep]; exact ren_dep hn v h
 | .vec _ _ _ cs,h => by simp only [PV.dep] at h; simp only [PV.ren,PV.dep]; exact rens_dep hn cs h
 | .vfrz _ _ xs,h => by simp only [PV.dep] at h; simp only [PV.ren,PV.dep]; exact rens_dep hn xs h
 | .bool _,_ | .int _ _,_ | .str _,_ | .nilp,_ | .nilfn,_ | .nilif,_ | .und,_ | .vnil _ _,_ | .gone _ _,_ | .lrec _,_ => rfl
theorem rens_dep {n n' : Nat} {ρ : Nat → Nat} (hn : n' = n ∨ n' + 1 = n) : ∀ vs : List PV,PV.deps (n + 1) vs = true → PV.deps (n' + 1) (PV.rens n n' ρ vs) = true
 | [],_ => rfl
 | v :: r,h => by
  simp only [PV.deps,Bool.and_eq_true] at h
  simp only [PV.rens,PV.deps,Bool.and_eq_true]
  exact ⟨ren_dep hn v h.1,rens_dep hn r h.2⟩
end
theorem tget_rens {n n' : Nat} {ρ : Nat → Nat} : ∀ (p : Path) (cs : List PV),tget (PV.rens n n' ρ cs) p = (tget cs p).map (PV.rens n n' ρ)
 | [],cs => rfl
 | q :: p,cs => by
  simp only [tget,rens_get]
  cases hc : cs[q.1]? with
  | none => rfl
  | some c =>
   cases c with
   | vec v k sz zs =>
    simp only [Option.map_some,PV.ren]
    by_cases hv : (q.2 == v) = true
    ·rw [if_pos hv,if_pos hv]; exact tget_rens p zs
    ·rw [if_neg hv,if_neg hv]; rfl
   | ptr l s p off => by_cases hl : (l == n) = true <;> simp [PV.ren,hl]
   | slr l s p off k sz => by_cases hl : (l == n) = true <;> simp [PV.ren,hl]
   | _ => rfl
theorem nextVer_ren {n n' : Nat} {ρ : Nat → Nat} (c : PV) : nextVer (c.ren n n' ρ) = nextVer c := by
 cases c with
 | ptr l s p off => by_cases hl : (l == n) = true <;> simp [PV.ren,hl,nextVer]
 | slr l s p off k sz => by_cases hl : (l == n) = true <;> simp [PV.ren,hl,nextVer]
 | _ => rfl
theorem MC.ren {g g' : Gh} {n n' : Nat} {ks : List Nat} {ρ : Nat → Nat} (hn : n' = n ∨ n' + 1 = n) (hG : ∀ b o v,g.G b o = some v → g'.G b o = some v) (hb : ∀ l s p x,l ≠ n → g.blk l s p = some x → g'.blk l s p = some x) (hbn : ∀ s p x,ks.contains s = true → g.blk n s p = some x → g'.blk n' (ρ s) p = some x)
  (hr : ∀ l s x,l ≠ n → g.lp l s = some x → g'.lp l s = some x) (hrn : ∀ s x,ks.contains s = true → g.lp n s = some x → g'.lp n' (ρ s) = some x) (hk : g'.ok = g.ok) {sl : Nat} {p : Path} {j : Nat} {c : PV} {rv : Value} (hsl : ks.contains sl = true)
  (h : MC g n sl p j c rv) (ho : c.okn n ks [] = true) : MC g' n' (ρ sl) p j (c.ren n n' ρ) rv := by
 have plainCase : c.isCell = true → MC g' n' (ρ sl) p j (c.ren n n' ρ) rv := by
  intro hc
  obtain ⟨q1,q2,q3⟩ := (MC.plain hc).1 h
  exact (MC.plain (by rw [ren_isCell]; exact hc)).2 ⟨by rw [ren_untag1,q1],ren_dep hn c q2,V.ren hG hb hbn hr hrn hk q3 ho⟩
 cases c with
 | vec ver m sz cs =>
  obtain ⟨b,o,t,o',c,h1,h2,h3,h4,h5⟩ := h
  exact ⟨b,o,t,o',c,hbn _ _ _ hsl h1,h2,h3,h4,by rw [rens_length]; exact h5⟩
 | vnil => exact h
 | vfrz ver sz xs =>
  have := V.ren hG hb hbn hr hrn hk h.2 (by simpa [PV.okn] using ho)
  exact ⟨rens_dep hn xs h.1,by simpa only [PV.ren] using this⟩
 | gone => exact h
 | lrec => exact h.elim
 | _ => exact plainCase h.1
theorem MC.renOld {g g' : Gh} {n : Nat} (hG : ∀ b o v,g.G b o = some v → g'.G b o = some v) (hb : ∀ l s p x,l < n → g.blk l s p = some x → g'.blk l s p = some x)
  (hr : ∀ l s x,l < n → g.lp l s = some x → g'.lp l s = some x) (hk : g'.ok = g.ok) {lv sl : Nat} {p : Path} {j : Nat} (hl : lv < n) {c : PV} {rv : Value} (h : MC g lv sl p j c rv) : MC g' lv sl p j c rv := by
 let g2 : Gh := { g' with blk := fun l s p => if l < n then g.blk l s p else none,lp := fun l s => if l < n then g.lp l s else none }
 have h2 : MC g2 lv sl p j c rv := h.under (g := g) (g' := g2) (n := n) hG (fun l s p hl => by show (if _ then _ else _) = _; rw [if_pos hl]) (fun l s hl => by show (if _ then _ else _) = _; rw [if_pos hl]) hk hl
 have hle2 : g2.le g' := by
  refine ⟨fun _ _ _ x => x,fun l s p x hx => ?_,fun l s x hx => ?_,rfl⟩
  ·have hx' : (if l < n then g.blk l s p else none) = some x := hx
   split at hx'
   ·rename_i hl'; exact hb _ _ _ _ hl' hx'
   ·cases hx'
  ·have hx' : (if l < n then g.lp l s else none) = some x := hx
   split at hx'
   ·rename_i hl'; exact hr _ _ _ hl' hx'
   ·cases hx'
 exact h2.mono hle2
def From (n n' : Nat) (ks : List Nat) (ρ : Nat → Nat) (l s l0 s0 : Nat) : Prop := (l0 ≠ n ∧ l = l0 ∧ s = s0) ∨ (l0 = n ∧ l = n' ∧ s = ρ s0 ∧ ks.contains s0 = true)
theorem Rel.ren {g g' : Gh} {M M' : Mem} {w : World} {n n' : Nat} {ks : List Nat} {ρ : Nat → Nat} (hR : Rel g M w) (hn : n' = n ∨ n' + 1 = n) (hMn : M.length = n + 1) (hM' : n' < M'.length) (hML : ∀ l,l ≠ n → l < M.length → l < M'.length)
  (hG : g'.G = g.G) (hk : g'.ok = g.ok) (hb : ∀ l s p x,l ≠ n → g.blk l s p = some x → g'.blk l s p = some x) (hbn : ∀ s p x,ks.contains s = true → g.blk n s p = some x → g'.blk n' (ρ s) p = some x)
  (hr : ∀ l s x,l ≠ n → g.lp l s = some x → g'.lp l s = some x) (hrn : ∀ s x,ks.contains s = true → g.lp n s = some x → g'.lp n' (ρ s) = some x)
  (hblk : ∀ l s p x,g'.blk l s p = some x → ∃ l0 s0,From n n' ks ρ l s l0 s0 ∧ g.blk l0 s0 p = some x) (hlp : ∀ l s x,g'.lp l s = some x → ∃ l0 s0,From n n' ks ρ l s l0 s0 ∧ g.lp l0 s0 = some x)
  (hinj : ∀ s s',ks.contains s = true → ks.contains s' = true → ρ s = ρ s' → s = s') (hfresh : n' ≠ n → ∀ s,ks.contains s = true → (∀ p x,g.blk n' (ρ s) p ≠ some x) ∧ (∀ x,g.lp n' (ρ s) ≠ some x) ∧ ∀ q zs,mget M n' (ρ s) q ≠ some zs)
  (hget : ∀ l s q zs',mget M' l s q = some zs' → ∃ l0 s0 zs,From n n' ks ρ l s l0 s0 ∧ mget M l0 s0 q = some zs ∧ ((l0 ≠ n ∧ zs' = zs) ∨ (l0 = n ∧ zs' = PV.rens n n' ρ zs ∧ PV.okns n ks [] zs = true))) : Rel g' M' w := by
 have uniq : ∀ l s l0 s0 l1 s1,From n n' ks ρ l s l0 s0 → From n n' ks ρ l s l1 s1 → (n' ≠ n → l0 = n' → ∀ s,ks.contains s = true → s0 ≠ ρ s) → (n' ≠ n → l1 = n' → ∀ s,ks.contains s = true → s1 ≠ ρ s) → l0 = l1 ∧ s0 = s1 := by
  intro l s l0 s0 l1 s1 h0 h1 e0 e1
  rcases h0 with ⟨a1,a2,a3⟩ | ⟨a1,a2,a3,a4⟩ <;> rcases h1 with ⟨b1,b2,b3⟩ | ⟨b1,b2,b3,b4⟩
  ·exact ⟨a2.symm.trans b2,a3.symm.trans b3⟩
  ·exfalso
   have hl : l0 = n' := a2.symm.trans b2
   exact e0 (fun h => a1 (hl.trans h)) hl s1 b4 (a3.symm.trans b3)
  ·exfalso
   have hl : l1 = n' := b2.symm.trans a2
   exact e1 (fun h => b1 (hl.trans h)) hl s0 a4 (b3.symm.trans a3)
  ·exact ⟨a1.trans b1.symm,hinj _ _ a4 b4 (a3.symm.trans b3)⟩
 have eB : ∀ {l0 s0 p x},g.blk l0 s0 p = some x → (n' ≠ n → l0 = n' → ∀ s,ks.contains s = true → s0 ≠ ρ s) := fun {l0 s0 p x} hg hne hl s hs he => by subst hl; subst he; exact (hfresh hne s hs).1 _ _ hg
 have eL : ∀ {l0 s0 x},g.lp l0 s0 = some x → (n' ≠ n → l0 = n' → ∀ s,ks.contains s = true → s0 ≠ ρ s) := fun {l0 s0 x} hg hne hl s hs he => by subst hl; subst he; exact (hfresh hne s hs).2.1 _ hg
 have eM : ∀ {l0 s0 q zs},mget M l0 s0 q = some zs → (n' ≠ n → l0 = n' → ∀ s,ks.contains s = true → s0 ≠ ρ s) := fun {l0 s0 q zs} hg hne hl s hs he => by subst hl; subst he; exact (hfresh hne s hs).2.2 _ _ hg
 have hto : ∀ l s l' s' l0 s0,From n n' ks ρ l s l0 s0 → From n n' ks ρ l' s' l0 s0 → l = l' ∧ s = s' := by
  intro l s l' s' l0 s0 h0 h1
  rcases h0 with ⟨a1,a2,a3⟩ | ⟨a1,a2,a3,a4⟩ <;> rcases h1 with ⟨b1,b2,b3⟩ | ⟨b1,b2,b3,b4⟩
  ·exact ⟨a2.trans b2.symm,a3.trans b3.symm⟩
  ·exact absurd b1 a1
  ·exact absurd a1 b1
  ·exact ⟨a2.trans b2.symm,a3.trans b3.symm⟩
 have hGle : ∀ b o v,g.G b o = some v → g'.G b o = some v := fun b o v h => by rw [hG]; exact h
 refine ⟨fun b o v hv => by rw [hG] at hv; exact hR.hG b o v hv,fun lv sl p b o t hb' zs' hz' => ?_,fun lv sl l r hb' zs' hz' => ?_,fun l s p l' s' p' b o t o' t' zs zs' h1 h2 hz hz' => ?_,fun l s l' s' b r r' zs zs' h1 h2 hz hz' => ?_,fun lv sl p j v x h1 zs' hz' => ?_,fun l s p x hx => ?_,fun l s x hx => ?_,fun l s p b o t hx => ?_,fun l s b r hx => ?_,fun lv sl q x y h1 => ?_⟩
 ·obtain ⟨l0,s0,f0,g0⟩ := hblk _ _ _ _ hb'
  obtain ⟨l1,s1,zs,f1,m1,hz1⟩ := hget _ _ _ _ hz'
  obtain ⟨rfl,rfl⟩ := uniq _ _ _ _ _ _ f0 f1 (eB g0) (eM m1)
  obtain ⟨C,E,a1,a2,a3,a4,a5⟩ := hR.hM _ _ _ _ _ _ g0 _ m1
  rcases hz1 with ⟨hne,rfl⟩ | ⟨rfl,rfl,hok⟩
  ·have hll : lv = l0 ∧ sl = s0 := by
    rcases f0 with ⟨_,b2,b3⟩ | ⟨b1,_⟩
    ·exact ⟨b2,b3⟩
    ·exact absurd b1 hne
   obtain ⟨rfl,rfl⟩ := hll
   have hlt := hR.lv _ _ _ _ g0
   refine ⟨C,E,a1,a2,a3,fun j c hj => (a4 j c hj).renOld (n := n) hGle (fun l s p x hl hx => hb _ _ _ _ (by omega) hx) (fun l s x hl hx => hr _ _ _ (by omega) hx) hk (by omega),fun q => by rw [hG]; exact a5 q⟩
  ·have hll : lv = n' ∧ sl = ρ s0 ∧ ks.contains s0 = true := by
    rcases f0 with ⟨b1,_⟩ | ⟨_,b2,b3,b4⟩
    ·exact absurd rfl b1
    ·exact ⟨b2,b3,b4⟩
   obtain ⟨rfl,rfl,hks⟩ := hll
   refine ⟨C,E,a1,a2,by rw [rens_length]; exact a3,fun j c hj => ?_,fun q => by rw [hG]; exact a5 q⟩
   rw [rens_get] at hj
   obtain ⟨c0,hc0,rfl⟩ := Option.map_eq_some_iff.1 hj
   exact (a4 j c0 hc0).ren hn hGle hb hbn hr hrn hk hks (okns_mem hok c0 (getElem?_mem' hc0))
 ·obtain ⟨l0,s0,f0,g0⟩ := hlp _ _ _ hb'
  obtain ⟨l1,s1,zs,f1,m1,hz1⟩ := hget _ _ _ _ hz'
  obtain ⟨rfl,rfl⟩ := uniq _ _ _ _ _ _ f0 f1 (eL g0) (eM m1)
  obtain ⟨s,rfl,pn,q2⟩ := hR.hL _ _ _ _ g0 _ m1
  refine ⟨s,?_,pn,q2⟩
  rcases hz1 with ⟨_,rfl⟩ | ⟨_,rfl,_⟩ <;> rfl
 ·obtain ⟨l0,s0,f0,g0⟩ := hblk _ _ _ _ h1
  obtain ⟨l1,s1,z1,f1,m1,_⟩ := hget _ _ _ _ hz
  obtain ⟨rfl,rfl⟩ := uniq _ _ _ _ _ _ f0 f1 (eB g0) (eM m1)
  obtain ⟨l2,s2,f2,g2⟩ := hblk _ _ _ _ h2
  obtain ⟨l3,s3,z3,f3,m3,_⟩ := hget _ _ _ _ hz'
  obtain ⟨rfl,rfl⟩ := uniq _ _ _ _ _ _ f2 f3 (eB g2) (eM m3)
  obtain ⟨rfl,rfl,rfl⟩ := hR.inj _ _ _ _ _ _ _ _ _ _ _ _ _ g0 g2 m1 m3
  obtain ⟨q1,q2⟩ := hto _ _ _ _ _ _ f0 f2
  exact ⟨q1,q2,rfl⟩
 ·obtain ⟨l0,s0,f0,g0⟩ := hlp _ _ _ h1
  obtain ⟨l1,s1,z1,f1,m1,_⟩ := hget _ _ _ _ hz
  obtain ⟨rfl,rfl⟩ := uniq _ _ _ _ _ _ f0 f1 (eL g0) (eM m1)
  obtain ⟨l2,s2,f2,g2⟩ := hlp _ _ _ h2
  obtain ⟨l3,s3,z3,f3,m3,_⟩ := hget _ _ _ _ hz'
  obtain ⟨rfl,rfl⟩ := uniq _ _ _ _ _ _ f2 f3 (eL g2) (eM m3)
  obtain ⟨rfl,rfl⟩ := hR.injL _ _ _ _ _ _ _ _ _ g0 g2 m1 m3
  exact hto _ _ _ _ _ _ f0 f2
 ·obtain ⟨l0,s0,f0,g0⟩ := hblk _ _ _ _ h1
  obtain ⟨l1,s1,z1,f1,m1,hz1⟩ := hget _ _ _ _ hz'
  obtain ⟨rfl,rfl⟩ := uniq _ _ _ _ _ _ f0 f1 (eB g0) (eM m1)
  obtain ⟨c,q1,q2⟩ := hR.ver _ _ _ _ _ _ g0 _ m1
  rcases hz1 with ⟨_,rfl⟩ | ⟨_,rfl,_⟩
  ·exact ⟨c,q1,q2⟩
  ·exact ⟨c.ren n n' ρ,by rw [rens_get,q1]; rfl,by rw [nextVer_ren]; exact q2⟩
 ·obtain ⟨l0,s0,f0,g0⟩ := hblk _ _ _ _ hx
  rcases f0 with ⟨b1,b2,_⟩ | ⟨_,b2,_⟩
  ·subst b2; exact hML _ b1 (hR.lv _ _ _ _ g0)
  ·subst b2; exact hM'
 ·obtain ⟨l0,s0,f0,g0⟩ := hlp _ _ _ hx
  rcases f0 with ⟨b1,b2,_⟩ | ⟨_,b2,_⟩
  ·subst b2; exact hML _ b1 (hR.lpv _ _ _ g0)
  ·subst b2; exact hM'
 ·obtain ⟨l0,s0,f0,g0⟩ := hblk _ _ _ _ hx
  exact hR.bd _ _ _ _ _ _ g0
 ·obtain ⟨l0,s0,f0,g0⟩ := hlp _ _ _ hx
  exact hR.bdL _ _ _ _ g0
 ·obtain ⟨l0,s0,f0,g0⟩ := hblk _ _ _ _ h1
  obtain ⟨z,hz⟩ := hR.pre _ _ _ _ _ g0
  rcases f0 with ⟨b1,rfl,rfl⟩ | ⟨rfl,rfl,rfl,b4⟩
  ·exact ⟨z,hb _ _ _ _ b1 hz⟩
  ·exact ⟨z,hbn _ _ _ b4 hz⟩
end Go.Proofs.Ytmffcpiffkclgaa.ZJM
