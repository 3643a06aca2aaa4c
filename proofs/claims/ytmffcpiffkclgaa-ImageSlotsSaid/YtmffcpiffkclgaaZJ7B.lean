/- A store, cell by cell; a new variable. -/
import Derived.Test.YtmffcpiffkclgaaZJ5
set_option linter.unusedSimpArgs false
set_option linter.unusedVariables false
namespace Go.Proofs.Ytmffcpiffkclgaa.ZJM
open Go.RowKit

section
variable {P : Program} {d nt : Nat} {m0 : Mem} {g0 : Gh} {w0 : World} {g : Gh} {om : Nat → Value} {szm : Nat → Nat} {st : St} {a : Act} {w : World}

theorem lget_del {own : Lvl} {sl s : Nat} {p : Path} : lget (del own sl) s p = if s = sl then none else lget own s p := by
  unfold lget
  rw [get_del]
  by_cases h : s = sl
  · rw [if_pos h, if_pos h]
  · rw [if_neg h, if_neg h]
/-- A variable of our own is no more. -/
theorem Inv.kill (h : Inv d nt m0 g0 w0 g om szm st a w) (sl : Nat) : Inv d nt m0 g0 w0 g om szm (st.kill (some sl)) a w := by
  have hget : ∀ l s p zs, mget (del st.own sl :: st.m) l s p = some zs → mget (st.own :: st.m) l s p = some zs := by
    intro l s p zs hz
    rw [mget_cons] at hz ⊢
    split
    · rename_i hl
      rw [if_pos hl, lget_del] at hz
      split at hz
      · cases hz
      · exact hz
    · rename_i hl
      rw [if_neg hl] at hz; exact hz
  have hrel : Rel g (del st.own sl :: st.m) w :=
    ⟨h.rel.hG, fun lv s p b o t hb zs hz => h.rel.hM _ _ _ _ _ _ hb _ (hget _ _ _ _ hz), fun lv s l r hb zs hz => h.rel.hL _ _ _ _ hb _ (hget _ _ _ _ hz), fun l s p l' s' p' b o t o' t' zs zs' h1 h2 hz hz' => h.rel.inj _ _ _ _ _ _ _ _ _ _ _ _ _ h1 h2 (hget _ _ _ _ hz) (hget _ _ _ _ hz'),
      fun l s l' s' b r r' zs zs' h1 h2 hz hz' => h.rel.injL _ _ _ _ _ _ _ _ _ h1 h2 (hget _ _ _ _ hz) (hget _ _ _ _ hz'), fun lv s p j v x h1 zs hz => h.rel.ver _ _ _ _ _ _ h1 _ (hget _ _ _ _ hz), fun l s p x hx => h.rel.lv _ _ _ _ hx, fun l s x hx => h.rel.lpv _ _ _ hx, h.rel.bd, h.rel.bdL, h.rel.pre⟩
  have hfree : ∀ s, isFree st s = false → isFree (st.kill (some sl)) s = false := by
    intro s hs
    cases hf : isFree (st.kill (some sl)) s with
    | false => rfl
    | true =>
      obtain ⟨q1, q2⟩ := isFree_iff.1 hf
      simp only [St.kill] at q1 q2
      rw [get_del] at q1
      split at q1
      · rename_i he; subst he; simp at q2
      · have : isFree st s = true := isFree_iff.2 ⟨q1, by simp only [List.contains_cons, Bool.or_eq_false_iff] at q2; exact q2.2⟩
        rw [hs] at this; cases this
  exact h.turn (own' := del st.own sl) (dead' := sl :: st.dead) (m' := st.m) (Gh.le.refl g) hrel h.lv (Kp.refl d g w) (fun s p x hx => hfree s (h.nm _ _ _ hx)) (fun s x hx => hfree s (h.nmL _ _ hx)) fun _ _ _ => rfl

theorem getD_set (C : Array Value) (i j : Nat) (rv : Value) (h : i < C.size) : (C.setIfInBounds i rv).getD j undef = if j = i then rv else C.getD j undef := by
  rw [Array.getD_eq_getD_getElem?, Array.getD_eq_getD_getElem?, Array.getElem?_setIfInBounds]
  by_cases hj : j = i
  · subst hj; simp [h]
  · rw [if_neg (Ne.symm hj), if_neg hj]
theorem plain_row {lv sl : Nat} {p : Path} {cs : List PV} {C : Array Value} {o : Nat} (h4 : ∀ j c, cs[j]? = some c → MC g lv sl p j c (C.getD (o + j) undef)) (hc : cs.all PV.isCell = true) :
    ∀ j c, cs[j]? = some c → c.isCell = true ∧ c.untag1 = c ∧ V g c (C.getD (o + j) undef) := by
  intro j c hj
  have h1 := List.all_eq_true.1 hc c (getElem?_mem' hj)
  obtain ⟨h2, _, h3⟩ := (MC.plain h1).1 (h4 j c hj)
  exact ⟨h1, h2, h3⟩

theorem Inv.put1 (h : Inv d nt m0 g0 w0 g om szm st a w) {lv sl b o t : Nat} {p : Path} (hb : g.blk lv sl p = some (b, o, t)) {j : Nat} {c : PV} {rv : Value} (hcc : c.isCell = true) (hcu : c.untag1 = c) (hcv : V g c rv) {st' : St} (he : put1 st lv sl p j c = some st')
    {C : Array Value} {E : TypeId} (hh : w.heap[b]? = some (.cells C E (0, 0))) {w' : World} (hu : Upd w w' b (C.setIfInBounds (o + j) rv) E) : ∃ g', g.le g' ∧ Inv d nt m0 g0 w0 g' om szm st' a w' := by
  unfold Go.Proofs.Ytmffcpiffkclgaa.ZJM.put1 at he
  split at he
  · rename_i cs hcs
    split at he
    · rename_i old hj
      split at he
      · rename_i c' k hin
        split at he
        · rename_i hdep
          have hjlt : j < cs.length := (List.getElem?_eq_some_iff.1 hj).1
          obtain ⟨C0, E0, hh0, hsz0, hle0, h40, h50⟩ := h.rel.hM _ _ _ _ _ _ hb _ hcs
          rw [hh] at hh0; cases hh0
          have hij : o + j < C.size := by omega
          have hC : (C.setIfInBounds (o + j) rv).size = C.size := by simp
          have hCj : (C.setIfInBounds (o + j) rv).getD (o + j) undef = rv := by rw [getD_set _ _ _ _ hij, if_pos rfl]
          have hCo : ∀ i, i ≠ o + j → (C.setIfInBounds (o + j) rv).getD i undef = C.getD i undef := fun i hi => by rw [getD_set _ _ _ _ hij, if_neg hi]
          -- the new memory
          have hmem : ∀ (s1 : St), s1.m = st.m → s1.mem (mset (s1.own :: s1.m) lv sl p (cs.set j c')) = some st' → ∃ own' m', mset (s1.own :: s1.m) lv sl p (cs.set j c') = some (own' :: m') ∧ st' = { s1 with own := own', m := m' } := by
            intro s1 _ hm
            unfold St.mem at hm
            split at hm
            · rename_i own' m' hmm
              exact ⟨own', m', hmm, (Option.some.inj hm).symm⟩
            · cases hm
          have plainCase : isPlace old = false → c' = c → k = none → ∃ g', g.le g' ∧ Inv d nt m0 g0 w0 g' om szm st' a w' := by
            rintro ho rfl rfl
            obtain ⟨own', m', hm, rfl⟩ := hmem st rfl he
            refine ⟨g, Gh.le.refl g, h.setPlain hb hcs hm (by simp) hh hu hC fun i e hi => ?_⟩
            by_cases hij : i = j
            · subst hij
              rw [List.getElem?_set_self hjlt] at hi
              cases hi
              exact .inr ⟨hcc, hcu, hdep, by rw [hCj]; exact hcv, old, hj, ho⟩
            · rw [List.getElem?_set_ne (Ne.symm hij)] at hi
              exact .inl ⟨hi, hCo _ (by omega)⟩
          have nilCase : ∀ sz', (∀ s, old ≠ .lrec s) → rv = .slice none 0 0 → c' = .vnil (nextVer old) sz' → k = none → ∃ g', g.le g' ∧ Inv d nt m0 g0 w0 g' om szm st' a w' := by
            rintro sz' _ hr rfl rfl
            obtain ⟨own', m', hm, rfl⟩ := hmem st rfl he
            exact ⟨g, Gh.le.refl g, h.setPlace hb hcs hj hm hh hu hC hCo (Gh.le.refl g) rfl rfl rfl (by simp [nextVer]) (fun _ _ _ _ hx => by cases hx) (fun _ _ _ _ hx => by cases hx) (fun l s q y hy => .inl hy) (by rw [hCj]; exact hr) (fun _ _ _ _ hx => by cases hx)⟩
          unfold inC at hin
          split at hin
          · -- a slice of a row
            rename_i lv' sl' p' off' n' sz'
            split at hin
            · rename_i hmv
              simp only [Bool.and_eq_true, beq_iff_eq, List.isEmpty_iff] at hmv
              obtain ⟨rfl, rfl⟩ := hmv
              split at hin
              · rename_i cs' hcs'
                split at hin
                · rename_i hcond
                  simp only [Bool.and_eq_true, beq_iff_eq, Bool.not_eq_true', Bool.and_eq_false_iff, beq_eq_false_iff_ne] at hcond
                  obtain ⟨⟨⟨rfl, hlen⟩, hall⟩, hne⟩ := hcond
                  have hne' : ¬ (lv = st.m.length ∧ sl = sl') := fun hh => by rcases hne with h1 | h1; exact h1 hh.1; exact h1 hh.2
                  have hres : c' = .vec (nextVer old) n' sz' cs' ∧ k = some sl' ∧ ∀ s, old ≠ .lrec s := by
                    split at hin
                    · cases hin
                    · rename_i hol; cases hin; exact ⟨rfl, rfl, fun s hs => hol s hs⟩
                  obtain ⟨rfl, rfl, hol⟩ := hres
                  cases hcv with
                  | slr _ _ _ _ _ _ b1 o1 t1 off1 c1 hb1 ho1 hc1 =>
                  have hlr : mget (st.own :: st.m) st.m.length sl' [] = some cs' := by rw [mget_own, lget_nil]; exact hcs'
                  obtain ⟨C1, E1, a1, a2, a3, a4, a5⟩ := h.rel.hM _ _ _ _ _ _ hb1 _ hlr
                  have a6 := plain_row a4 hall
                  have hbb : b1 ≠ b := fun hh => by
                    have := h.rel.inj _ _ _ _ _ _ _ _ _ _ _ _ _ (hh ▸ hb1) hb hlr hcs
                    exact hne' ⟨this.1.symm, this.2.1.symm⟩
                  have hk := h.kill sl'
                  have hkm : (st.kill (some sl')).m = st.m := rfl
                  have hko : (st.kill (some sl')).own = del st.own sl' := rfl
                  obtain ⟨own', m', hm, rfl⟩ := hmem (st.kill (some sl')) rfl he
                  have hcs2 : mget ((st.kill (some sl')).own :: (st.kill (some sl')).m) lv sl p = some cs := by
                    rw [hkm, hko, mget_cons]
                    rw [mget_cons] at hcs
                    by_cases hl : lv = st.m.length
                    · rw [if_pos hl] at hcs ⊢
                      rw [lget_del, if_neg (fun hs => hne' ⟨hl, hs⟩)]
                      exact hcs
                    · rw [if_neg hl] at hcs ⊢; exact hcs
                  have hfresh : g.blk lv sl (p ++ [(j, nextVer old)]) = none := by
                    cases hg : g.blk lv sl (p ++ [(j, nextVer old)]) with
                    | none => rfl
                    | some x =>
                      obtain ⟨c0, q1, q2⟩ := h.rel.ver _ _ _ _ _ _ hg _ hcs
                      rw [hj] at q1; cases q1; omega
                  have hle := Gh.key_le (x := (b1, o1, t1)) hfresh
                  refine ⟨_, hle, hk.setPlace hb hcs2 hj hm hh hu hC hCo hle rfl rfl rfl (by simp [nextVer]) (fun v n sz ys hx => ?_) (fun v n sz ys hx => ?_) (fun l s q y hy => ?_) ?_ (fun v n sz ys hx b2 o2 t2 hb2 => ?_)⟩
                  · cases hx; exact List.all_eq_true.1 hall
                  · cases hx; exact Nat.le_refl _
                  · rcases Gh.key_cases hy with ⟨rfl, rfl, rfl, rfl⟩ | ⟨_, h3⟩
                    · exact .inr ⟨rfl, rfl, _, rfl, Nat.le_refl _, ⟨_, _, _, rfl⟩, _, _, _, _, _, hb1⟩
                    · exact .inl h3
                  · rw [hCj]
                    refine ⟨b1, o1, t1, off1, c1, Gh.key_here, rfl, hc1, fun hc => ?_, hlen⟩
                    obtain ⟨q1, q2⟩ := ho1 hc
                    exact ⟨by omega, by omega⟩
                  · cases hx
                    have hh2 : (g.key lv sl (p ++ [(j, nextVer old)]) (b1, o1, t1)).blk lv sl (p ++ [(j, nextVer old)]) = some (b1, o1, t1) := Gh.key_here
                    rw [hh2] at hb2
                    simp only [Option.some.injEq, Prod.mk.injEq] at hb2
                    obtain ⟨rfl, rfl, rfl⟩ := hb2
                    refine ⟨C1, E1, by rw [hu.off _ hbb]; exact a1, a2, a3, fun i c hi => ?_, a5, fun l s q o' t' zs hl hz => ?_⟩
                    · obtain ⟨q1, q2, q3⟩ := a6 i c hi
                      have hdep' : PV.deps (lv + 1) cs' = true := by simpa [PV.dep] using hdep
                      exact ⟨q2, deps_mem hdep' c (getElem?_mem' hi), q3.mono hle⟩
                    · exfalso
                      rw [hkm, hko] at hz
                      have hz0 : mget (st.own :: st.m) l s q = some zs ∧ ¬ (l = st.m.length ∧ s = sl') := by
                        rw [mget_cons] at hz ⊢
                        by_cases hl' : l = st.m.length
                        · rw [if_pos hl', lget_del] at hz
                          rw [if_pos hl']
                          split at hz
                          · cases hz
                          · rename_i hs; exact ⟨hz, fun hh => hs hh.2⟩
                        · rw [if_neg hl'] at hz ⊢
                          exact ⟨hz, fun hh => hl' hh.1⟩
                      obtain ⟨q1, q2, _⟩ := h.rel.inj _ _ _ _ _ _ _ _ _ _ _ _ _ hl hb1 hz0.1 hlr
                      exact hz0.2 ⟨q1, q2⟩
                · cases hin
              · cases hin
            · split at hin
              · rename_i ver n sz cs0
                split at hin
                · rename_i hcond
                  simp only [Bool.and_eq_true, beq_iff_eq, decide_eq_true_eq] at hcond
                  obtain ⟨⟨⟨⟨rfl, rfl⟩, rfl⟩, rfl⟩, hle1⟩ := hcond
                  split at hin
                  · rename_i hall
                    cases hin
                    obtain ⟨own', m', hm, rfl⟩ := hmem st rfl he
                    cases hcv with
                    | slr _ _ _ _ _ _ b1 o1 t1 off1 c1 hb1 ho1 hc1 =>
                    have hlr : mget (st.own :: st.m) lv' sl' (p ++ [(j, ver)]) = some cs0 := by
                      rw [mget_append, hcs]
                      simp only [Option.bind_some, tget, hj, beq_self_eq_true, if_true]
                    obtain ⟨C1, E1, a1, a2, a3, a4, a5⟩ := h.rel.hM _ _ _ _ _ _ hb1 _ hlr
                    have a6 := plain_row a4 hall
                    have hbb : b1 ≠ b := fun hh => by
                      have := (h.rel.inj _ _ _ _ _ _ _ _ _ _ _ _ _ (hh ▸ hb1) hb hlr hcs).2.2
                      exact append_snoc_ne _ _ this
                    have hfresh : g.blk lv' sl' (p ++ [(j, ver + 1)]) = none := by
                      cases hg : g.blk lv' sl' (p ++ [(j, ver + 1)]) with
                      | none => rfl
                      | some x =>
                        obtain ⟨c0, q1, q2⟩ := h.rel.ver _ _ _ _ _ _ hg _ hcs
                        rw [hj] at q1; cases q1; simp [nextVer] at q2
                    have hle := Gh.key_le (x := (b1, o1 + off', t1)) hfresh
                    have hsub : ∀ i c, ((cs0.drop off').take (n' * sz'))[i]? = some c → cs0[off' + i]? = some c := fun i c hi => by
                      rw [List.getElem?_take] at hi
                      split at hi
                      · rw [List.getElem?_drop] at hi; exact hi
                      · cases hi
                    refine ⟨_, hle, h.setPlace hb hcs hj hm hh hu hC hCo hle rfl rfl rfl (by simp [nextVer]) (fun v n sz ys hx => ?_) (fun v n sz ys hx => ?_) (fun l s q y hy => ?_) ?_ (fun v n sz ys hx b2 o2 t2 hb2 => ?_)⟩
                    · cases hx; exact fun c hc => List.all_eq_true.1 hall c (List.mem_of_mem_drop (List.mem_of_mem_take hc))
                    · cases hx; simp [nextVer]
                    · rcases Gh.key_cases hy with ⟨rfl, rfl, rfl, rfl⟩ | ⟨_, h3⟩
                      · exact .inr ⟨rfl, rfl, _, rfl, by simp [nextVer], ⟨_, _, _, rfl⟩, _, _, _, _, _, hb1⟩
                      · exact .inl h3
                    · rw [hCj]
                      refine ⟨b1, o1 + off', t1, off1, c1, Gh.key_here, rfl, hc1, fun hc => ?_, by simp; omega⟩
                      obtain ⟨q1, q2⟩ := ho1 hc
                      exact ⟨q1, by omega⟩
                    · cases hx
                      have hh2 : (g.key lv' sl' (p ++ [(j, ver + 1)]) (b1, o1 + off', t1)).blk lv' sl' (p ++ [(j, ver + 1)]) = some (b1, o1 + off', t1) := Gh.key_here
                      rw [hh2] at hb2
                      simp only [Option.some.injEq, Prod.mk.injEq] at hb2
                      obtain ⟨rfl, rfl, rfl⟩ := hb2
                      refine ⟨C1, E1, by rw [hu.off _ hbb]; exact a1, a2, by simp; omega, fun i c hi => ?_, a5, fun l s q o' t' zs hl hz => ?_⟩
                      · obtain ⟨q1, q2, q3⟩ := a6 _ c (hsub i c hi)
                        have hdep' : PV.deps (lv' + 1) ((cs0.drop off').take (n' * sz')) = true := by simpa [PV.dep] using hdep
                        rw [Nat.add_assoc]
                        exact ⟨q2, deps_mem hdep' c (getElem?_mem' hi), q3.mono hle⟩
                      · obtain ⟨q1, q2, q3⟩ := h.rel.inj _ _ _ _ _ _ _ _ _ _ _ _ _ hl hb1 hz hlr
                        exact ⟨q1, q2, ver, [], q3⟩
                  · cases hin
                · cases hin
              · split at hin
                · cases hin
                · rename_i hpl; cases hin; exact plainCase (by simpa using hpl) rfl rfl
          · -- a list
            rename_i oo nl sz' xs
            split at hin
            · split at hin
              · cases hin
              · rename_i hol
                split at hin
                · rename_i hnl
                  cases hin
                  subst hnl
                  refine nilCase sz' (fun s hs => hol s hs) ?_ rfl rfl
                  cases hcv; rfl
                · cases hin
            · rename_i hpl; cases hin; exact plainCase (by simpa using hpl) rfl rfl
          · split at hin
            · cases hin
            · rename_i hpl; cases hin; exact plainCase (by simpa using hpl) rfl rfl
        · cases he
      · cases he
    · cases he
  · cases he
theorem Upd.after {w1 w2 : World} {b : Nat} {C1 C2 : Array Value} {E : TypeId} (h : Upd w w2 b C2 E) (k : Upd w w1 b C1 E) : Upd w1 w2 b C2 E :=
  ⟨h.at_, fun i hi => (h.off i hi).trans (k.off i hi).symm, h.size.trans k.size.symm, h.os.trans k.os.symm, h.tape.trans k.tape.symm, h.output.trans k.output.symm⟩
theorem put1_len {lv sl : Nat} {p : Path} {j : Nat} {c : PV} {st' : St} (he : Go.Proofs.Ytmffcpiffkclgaa.ZJM.put1 st lv sl p j c = some st') : ∃ cs, mget (st.own :: st.m) lv sl p = some cs ∧ j < cs.length := by
  unfold Go.Proofs.Ytmffcpiffkclgaa.ZJM.put1 at he
  split at he
  · rename_i cs hcs
    split at he
    · rename_i old hj
      exact ⟨cs, hcs, (List.getElem?_eq_some_iff.1 hj).1⟩
    · cases he
  · cases he
theorem splice_cons (C : Array Value) (i : Nat) (v : Value) (r : List Value) (h : i + 1 + r.length ≤ C.size) : splice (C.setIfInBounds i v).toList r (i + 1) = splice C.toList (v :: r) i := by
  refine List.ext_getElem? fun j => ?_
  rw [splice_get (by simp; omega), splice_get (by simp; omega)]
  simp only [List.length_cons, Array.getElem?_toList, Array.getElem?_setIfInBounds]
  by_cases h1 : i + 1 ≤ j ∧ j < i + 1 + r.length
  · rw [if_pos h1, if_pos (by omega), show j - i = (j - (i + 1)) + 1 by omega, List.getElem?_cons_succ]
  · rw [if_neg h1]
    by_cases h2 : i = j
    · subst h2
      rw [if_pos rfl, if_pos (by omega), if_pos (by omega)]; simp
    · rw [if_neg h2, if_neg (by omega)]
theorem Inv.putCs {lv sl b o t : Nat} {p : Path} {E : TypeId} : ∀ {cs : List PV} {vs : List Value} {j : Nat} {st st' : St} {g : Gh} {w w' : World} {C : Array Value}, Inv d nt m0 g0 w0 g om szm st a w → g.blk lv sl p = some (b, o, t) → w.heap[b]? = some (.cells C E (0, 0)) →
    cs.length = vs.length → (∀ i c, cs[i]? = some c → c.isCell = true ∧ c.untag1 = c ∧ V g c (vs.getD i undef)) → Go.Proofs.Ytmffcpiffkclgaa.ZJM.putCs lv sl p j cs st = some st' → Upd w w' b (splice C.toList vs (o + j)).toArray E → ∃ g', g.le g' ∧ Inv d nt m0 g0 w0 g' om szm st' a w'
  | [], [], j, st, st', g, w, w', C, h, hb, hh, hl, hV, he, hu => by
    simp only [Go.Proofs.Ytmffcpiffkclgaa.ZJM.putCs, Option.some.injEq] at he; subst he
    have hs : splice C.toList ([] : List Value) (o + j) = C.toList := by simp [splice]
    rw [hs, Array.toArray_toList] at hu
    have hheap : ∀ k, w'.heap[k]? = w.heap[k]? := fun k => by
      by_cases hk : k = b
      · subst hk; rw [hu.at_, hh]
      · exact hu.off k hk
    have hcell : ∀ ad, w'.cell? ad = w.cell? ad := fun ad => by simp only [World.cell?, hheap]
    refine ⟨g, Gh.le.refl g, ?_⟩
    have hrel : Rel g (st.own :: st.m) w' := h.rel.world (by rw [hu.size]; exact Nat.le_refl _) (fun b o v hb => by rw [hcell]; exact h.rel.hG b o v hb) (fun _ _ _ x => x) rfl rfl rfl (fun k C' E' hk _ => ⟨by rw [hheap]; exact hk, fun _ => rfl⟩) (fun k r hk => by rw [hheap]; exact hk)
    exact h.turn (own' := st.own) (dead' := st.dead) (m' := st.m) (Gh.le.refl g) hrel h.lv ⟨by rw [hu.size]; exact Nat.le_refl _, fun k _ _ => ⟨hheap k, fun _ => rfl⟩, fun _ _ _ x => x, fun _ _ _ _ _ x => x, fun _ _ _ => rfl, fun l s q b' o' t' x => .inl ⟨l, s, q, o', t', x⟩, fun l s b' r x => .inl ⟨l, s, r, x⟩, fun l s q x _ y => ⟨q, x, y⟩, hu.os, hu.tape, hu.output, rfl⟩ h.nm h.nmL (fun _ _ _ => rfl)
  | c :: cs, v :: vs, j, st, st', g, w, w', C, h, hb, hh, hl, hV, he, hu => by
    simp only [Go.Proofs.Ytmffcpiffkclgaa.ZJM.putCs] at he
    split at he
    · rename_i st1 h1
      obtain ⟨hc1, hc2, hc3⟩ := hV 0 c rfl
      have hc3' : V g c v := by simpa using hc3
      obtain ⟨zs, hzs, hjlt⟩ := put1_len h1
      obtain ⟨C0, E0, hh0, hsz0, hle0, _⟩ := h.rel.hM _ _ _ _ _ _ hb _ hzs
      rw [hh] at hh0; cases hh0
      have hu1 : Upd w (w.setRow b (C.setIfInBounds (o + j) v)) b (C.setIfInBounds (o + j) v) E := Upd.row hh
      obtain ⟨g1, hle1, hi1⟩ := h.put1 hb hc1 hc2 hc3' h1 hh hu1
      have hlen : cs.length = vs.length := by simpa using hl
      -- all of it lies within the row
      have hin : o + j + 1 + vs.length ≤ C.size ∨ vs = [] := by
        cases vs with
        | nil => exact .inr rfl
        | cons v2 vs2 =>
          left
          have key : ∀ (cs : List PV) (j : Nat) (st st' : St) (n : Nat), Go.Proofs.Ytmffcpiffkclgaa.ZJM.putCs lv sl p j cs st = some st' → (∃ zs, mget (st.own :: st.m) lv sl p = some zs ∧ zs.length = n) → cs ≠ [] → j + cs.length ≤ n := by
            intro cs
            induction cs with
            | nil => intro _ _ _ _ _ _ hne; exact absurd rfl hne
            | cons c cs ih =>
              intro j st st' n he hz _
              simp only [Go.Proofs.Ytmffcpiffkclgaa.ZJM.putCs] at he
              split at he
              · rename_i st1 h1
                obtain ⟨zs, hz1, hz2⟩ := hz
                obtain ⟨zs', hz3, hz4⟩ := put1_len h1
                rw [hz1] at hz3; cases hz3
                by_cases hcs : cs = []
                · subst hcs; simp; omega
                · have h2 : ∃ zs, mget (st1.own :: st1.m) lv sl p = some zs ∧ zs.length = n := by
                    unfold Go.Proofs.Ytmffcpiffkclgaa.ZJM.put1 at h1
                    rw [hz1] at h1
                    simp only at h1
                    split at h1
                    · split at h1
                      · rename_i c' k _
                        split at h1
                        · unfold St.mem at h1
                          split at h1
                          · rename_i own' m' hm
                            cases h1
                            obtain ⟨y, W⟩ := mset_wrote hm
                            exact ⟨_, W.here, by simp [hz2]⟩
                          · cases h1
                        · cases h1
                      · cases h1
                    · cases h1
                  have := ih (j + 1) st1 st' n he h2 hcs
                  simp only [List.length_cons]; omega
              · cases he
          have := key (c :: cs) j st st' zs.length (by simp only [Go.Proofs.Ytmffcpiffkclgaa.ZJM.putCs, h1]; exact he) ⟨zs, hzs, rfl⟩ (by simp)
          simp only [List.length_cons] at this hlen ⊢
          omega
      have hsp : splice (C.setIfInBounds (o + j) v).toList vs (o + (j + 1)) = splice C.toList (v :: vs) (o + j) := by
        rcases hin with hin | rfl
        · have := splice_cons C (o + j) v vs (by omega)
          rwa [Nat.add_assoc] at this
        · have := splice_cons C (o + j) v [] (by simp; omega)
          rwa [Nat.add_assoc] at this
      obtain ⟨g2, hle2, hi2⟩ := Inv.putCs (w' := w') hi1 (hle1.blk _ _ _ _ hb) hu1.at_ hlen (fun i e hi => by
        obtain ⟨q1, q2, q3⟩ := hV (i + 1) e (by simpa using hi)
        exact ⟨q1, q2, by have := q3.mono hle1; simpa using this⟩) he (by rw [hsp]; exact hu.after hu1)
      exact ⟨g2, hle1.trans hle2, hi2⟩
    · cases he
  | [], _ :: _, _, _, _, _, _, _, _, _, _, _, hl, _, _, _ => by simp at hl
  | _ :: _, [], _, _, _, _, _, _, _, _, _, _, hl, _, _, _ => by simp at hl

theorem vcell_one {u : Value} (h : vcell u = true) : u.oneCell' = true := by cases u <;> first | rfl | (simp [vcell] at h)
theorem vcells {v : PV} {rv : Value} (h : V g v rv) (hc : v.isVal = true) : ∀ u ∈ rv.cells.toList, u.oneCell' = true := by
  obtain ⟨h1, h2⟩ := cells_V h hc
  intro u hu
  obtain ⟨j, hj⟩ := List.getElem?_of_mem hu
  have hlt : j < rv.cells.size := by have := (List.getElem?_eq_some_iff.1 hj).1; simpa using this
  have := h2 j v.cells[j] (List.getElem?_eq_getElem (by omega))
  have h3 := this.vcell (isVal_cells hc _ (List.getElem_mem _))
  have h4 : rv.cells.getD j undef = u := by
    have hj' : rv.cells[j]? = some u := by simpa using hj
    simp [Array.getD_eq_getD_getElem?, hj']
  rw [h4] at h3
  exact vcell_one h3
theorem run_storeVar {t : TypeId} {sz b off : Nat} {C : Array Value} {E : TypeId} {rv : Value} (hs : tySz P t = some sz) (hh : w.heap[b]? = some (.cells C E (0, 0))) (hl : rv.cells.size = sz)
    (hle : off + sz ≤ C.size) (h1 : ∀ u ∈ rv.cells.toList, u.oneCell' = true) :
    (Instr.storeAt t (.pointer (some ⟨b, off, none⟩)) rv).run P w = .ok () (w.setRow b (splice C.toList rv.cells.toList off).toArray) := by
  have := run_storeCells_at P b off E rv.cells.toList 0 C w hh (by simp; omega) h1
  simp only [Nat.add_zero] at this
  simp [Instr.storeAt, Instr.sureAddr, storeVar, run_sizeOf hs, hl, this, splice]
theorem untag1_untag1 (c : PV) : c.untag1.untag1 = c.untag1 := by cases c <;> rfl
/-- A value's cells, untagged, and what they stand for. -/
theorem cells_plain {v : PV} {rv : Value} (h : V g v rv) (hc : v.isVal = true) : ∀ i c, (v.cells.map PV.untag1)[i]? = some c → c.isCell = true ∧ c.untag1 = c ∧ V g c (rv.cells.toList.getD i undef) := by
  intro i c hi
  rw [List.getElem?_map] at hi
  obtain ⟨u, hu, rfl⟩ := Option.map_eq_some_iff.1 hi
  have h1 := (cells_V h hc).2 i u hu
  refine ⟨by rw [isCell_untag1]; exact isVal_cells hc u (getElem?_mem' hu), untag1_untag1 u, ?_⟩
  have := h1.untag1
  simpa [List.getD_eq_getElem?_getD, Array.getD_eq_getD_getElem?] using this

theorem store_ok (h : Inv d nt m0 g0 w0 g om szm st a w) {t : TypeId} {sz : Nat} (hs : tySz P t = some sz) {x y : PV} {rx ry : Value} (hx : V g x rx) (hy : V g y ry) {st' : St}
    (he : storeEv st sz x y = some st') : ∃ w' g', (Instr.storeAt t rx ry).run P w = .ok () w' ∧ Inv d nt m0 g0 w0 g' om szm st' a w' := by
  cases x with
  | ptr l s p off =>
    cases hx with
    | ptr _ _ _ _ b o tt hb =>
    simp only [storeEv] at he
    split at he
    · rename_i cs hcs
      split at he
      · rename_i hc
        simp only [Bool.and_eq_true, beq_iff_eq, decide_eq_true_eq] at hc
        obtain ⟨⟨hval, hlen⟩, hle⟩ := hc
        obtain ⟨C, E, hh, hsz, hle0, h4, h5⟩ := h.rel.hM _ _ _ _ _ _ hb _ hcs
        obtain ⟨hn, hcv⟩ := cells_V hy hval
        have hpl := cells_plain hy hval
        have hrun := run_storeVar (P := P) hs hh (by omega) (show o + off + sz ≤ C.size by omega) (vcells hy hval)
        have hul : (y.cells.map PV.untag1).length = y.cells.length := by simp
        have hrl : ry.cells.toList.length = y.cells.length := by rw [hn]; simp
        split at he
        · rename_i hplain
          simp only [Bool.and_eq_true, List.all_eq_true, Bool.not_eq_true'] at hplain
          split at he
          · rename_i hdep
            unfold St.mem at he
            split at he
            · rename_i own' m' hm
              cases he
              refine ⟨_, g, hrun, h.setPlain hb hcs hm (splice_length (by omega)) hh (Upd.row hh) (by simp [splice_length (cs := C.toList) (new := ry.cells.toList) (off := o + off) (by simp; omega)]) fun j c hj => ?_⟩
              rw [splice_get (by omega), hul] at hj
              have hC : (splice C.toList ry.cells.toList (o + off)).toArray.getD (o + j) undef = if off ≤ j ∧ j < off + y.cells.length then ry.cells.toList.getD (j - off) undef else C.getD (o + j) undef := by
                rw [Array.getD_eq_getD_getElem?, List.getElem?_toArray, splice_get (by simp; omega), hrl]
                by_cases hr : off ≤ j ∧ j < off + y.cells.length
                · rw [if_pos hr, if_pos (by omega), List.getD_eq_getElem?_getD, show o + j - (o + off) = j - off by omega]
                · rw [if_neg hr, if_neg (by omega)]
                  simp [Array.getD_eq_getD_getElem?]
              rw [hC]
              by_cases hr : off ≤ j ∧ j < off + y.cells.length
              · rw [if_pos hr] at hj ⊢
                obtain ⟨q1, q2, q3⟩ := hpl _ c hj
                have hjc : j < cs.length := by omega
                refine .inr ⟨q1, q2, ?_, q3, cs[j], List.getElem?_eq_getElem hjc, ?_⟩
                · rw [List.getElem?_map] at hj
                  obtain ⟨u, hu, rfl⟩ := Option.map_eq_some_iff.1 hj
                  have := deps_mem hdep u (getElem?_mem' hu)
                  cases u <;> exact this
                · refine hplain.2 cs[j] ?_
                  refine List.mem_of_getElem? (i := j - off) ?_
                  rw [List.getElem?_take_of_lt (by omega), List.getElem?_drop, show off + (j - off) = j by omega]
                  exact List.getElem?_eq_getElem hjc
              · rw [if_neg hr] at hj ⊢
                exact .inl ⟨hj, rfl⟩
            · cases he
          · cases he
        · obtain ⟨g', _, hi⟩ := h.putCs (vs := ry.cells.toList) (w' := w.setRow b (splice C.toList ry.cells.toList (o + off)).toArray) hb hh (by omega) hpl he (Upd.row hh)
          exact ⟨_, g', hrun, hi⟩
      · cases he
    · cases he
  | _ => simp [storeEv] at he

/-- A new variable with a value. -/
theorem Inv.newVar (h : Inv d nt m0 g0 w0 g om szm st a w) {dst : Option Nat} (hd : ∀ t, dst = some t → t < nt) {cs : List PV} {C : Array Value} {E : TypeId} (hl : cs.length = C.size)
    (hc : ∀ j c, cs[j]? = some c → c.isCell = true ∧ V g c (C.getD j undef)) {st' : St} (he : newVar st dst cs = some st') :
    ∃ g', Inv d nt m0 g0 w0 g' om szm st' (a.put dst (.pointer (some ⟨w.heap.size, 0, none⟩))) (w.alloc (.cells C E (0, 0))) := by
  unfold Go.Proofs.Ytmffcpiffkclgaa.ZJM.newVar at he
  split at he
  · rename_i dd
    split at he
    · rename_i hcond
      simp only [Bool.and_eq_true] at hcond
      have hpl : ∀ j c, (cs.map PV.untag1)[j]? = some c → c.isCell = true ∧ c.untag1 = c ∧ V g c (C.getD j undef) := by
        intro j c hj
        rw [List.getElem?_map] at hj
        obtain ⟨u, hu, rfl⟩ := Option.map_eq_some_iff.1 hj
        obtain ⟨q1, q2⟩ := hc j u hu
        exact ⟨by rw [isCell_untag1]; exact q1, untag1_untag1 u, q2.untag1⟩
      obtain ⟨g1, hle1, hi1, hb1⟩ := h.newVar0 (E := E) hcond.1 (cs := cs.map PV.untag1) (C := C) (by simpa using hl) hpl
      have hi2 := hi1.put (dst := some dd) hd (v := .ptr st.m.length dd [] 0) (.ptr _ _ [] 0 w.heap.size 0 C.size (by rw [h.lv]; exact hb1)) (by simp only [Tg]; trivial)
      split at he
      · cases he; exact ⟨g1, hi2⟩
      · have hh : (w.alloc (.cells C E (0, 0))).heap[w.heap.size]? = some (.cells C E (0, 0)) := by rw [heap_alloc_at, if_pos rfl]
        have hsame : splice C.toList C.toList (0 + 0) = C.toList := by simp [splice]
        obtain ⟨g2, _, hi3⟩ := hi2.putCs (vs := C.toList) (w' := w.alloc (.cells C E (0, 0))) (by rw [h.lv]; exact hb1) hh (by simpa using hl) (fun i c hi => by
          obtain ⟨q1, q2, q3⟩ := hpl i c hi
          refine ⟨q1, q2, ?_⟩
          have := q3.mono hle1
          simpa [List.getD_eq_getElem?_getD, Array.getD_eq_getD_getElem?] using this) he (by rw [hsame, Array.toArray_toList]; exact Upd.same hh)
        exact ⟨g2, hi3⟩
    · cases he
  · cases he
end
end Go.Proofs.Ytmffcpiffkclgaa.ZJM
