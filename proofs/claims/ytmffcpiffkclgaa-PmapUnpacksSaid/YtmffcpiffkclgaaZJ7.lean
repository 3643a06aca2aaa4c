/- A cell that owns a row is written; rows of our own move. -/
import Derived.Test.YtmffcpiffkclgaaZJ6
set_option linter.unusedSimpArgs false
set_option linter.unusedVariables false
namespace Go.Proofs.Ytmffcpiffkclgaa.ZJM
open Go.RowKit

section
variable {P : Program} {d nt : Nat} {m0 : Mem} {g0 : Gh} {w0 : World} {g : Gh} {om : Nat → Value} {szm : Nat → Nat} {st : St} {a : Act} {w : World}

theorem append_snoc_ne (p : Path) (x : Nat × Nat) : p ++ [x] ≠ p := fun h => by simp at h

theorem Inv.setPlace (h : Inv d nt m0 g0 w0 g om szm st a w) {lv sl b o t : Nat} {p : Path} (hb : g.blk lv sl p = some (b, o, t)) {cs : List PV} (hcs : mget (st.own :: st.m) lv sl p = some cs) {j : Nat} {old c' : PV} (hj : cs[j]? = some old) {own' : Lvl} {m' : Mem}
    (hw : mset (st.own :: st.m) lv sl p (cs.set j c') = some (own' :: m')) {C C' : Array Value} {E : TypeId} {w' : World} (hh : w.heap[b]? = some (.cells C E (0, 0))) (hu : Upd w w' b C' E) (hC : C'.size = C.size) (hCo : ∀ i, i ≠ o + j → C'.getD i undef = C.getD i undef)
    {g' : Gh} (hle : g.le g') (hlp : g'.lp = g.lp) (hG : g'.G = g.G) (hpl : isPlace c' = true) (hver : nextVer old ≤ nextVer c') (hvec : ∀ v n sz ys, c' = .vec v n sz ys → ∀ c ∈ ys, c.isCell = true) (hvn : ∀ v n sz ys, c' = .vec v n sz ys → nextVer old ≤ v)
    (hgb : ∀ l s q y, g'.blk l s q = some y → g.blk l s q = some y ∨ (l = lv ∧ s = sl ∧ ∃ v, q = p ++ [(j, v)] ∧ nextVer old ≤ v ∧ (∃ n sz ys, c' = .vec v n sz ys) ∧ ∃ l' s' p' o' t', g.blk l' s' p' = some (y.1, o', t')))
    (hMC : MC g' lv sl p j c' (C'.getD (o + j) undef))
    (hnew : ∀ v n sz ys, c' = .vec v n sz ys → ∀ b1 o1 t1, g'.blk lv sl (p ++ [(j, v)]) = some (b1, o1, t1) → ∃ C1 E1, w'.heap[b1]? = some (.cells C1 E1 (0, 0)) ∧ C1.size = t1 ∧ o1 + ys.length ≤ t1 ∧
      (∀ i c, ys[i]? = some c → c.untag1 = c ∧ c.dep (lv + 1) = true ∧ V g' c (C1.getD (o1 + i) undef)) ∧ (∀ q, g.G b1 q = none) ∧
      (∀ l s q o' t' zs, g.blk l s q = some (b1, o', t') → mget (st.own :: st.m) l s q = some zs → l = lv ∧ s = sl ∧ ∃ v' r, q = p ++ (j, v') :: r)) :
    Inv d nt m0 g0 w0 g' om szm { st with own := own', m := m' } a w' := by
  obtain ⟨y, W⟩ := mset_wrote hw
  have hy : y = cs := by have := W.old; rw [hcs] at this; exact (Option.some.inj this).symm
  subst hy
  have hjlt : j < y.length := (List.getElem?_eq_some_iff.1 hj).1
  have hlen : m'.length = d := by have := W.len; simp only [List.length_cons] at this; rw [← h.lv]; omega
  have hlx : (y.set j c').length = y.length := by simp
  -- which rows lie there
  have hcase : ∀ l s q zs', mget (own' :: m') l s q = some zs' → (l = lv ∧ s = sl ∧ q = p ∧ zs' = y.set j c') ∨ (∃ v n sz ys, l = lv ∧ s = sl ∧ q = p ++ [(j, v)] ∧ c' = .vec v n sz ys ∧ zs' = ys) ∨
      (¬ (l = lv ∧ s = sl ∧ q = p) ∧ (¬ ∃ v r, l = lv ∧ s = sl ∧ q = p ++ (j, v) :: r) ∧ ∃ zs, mget (st.own :: st.m) l s q = some zs ∧ SimL zs zs') := by
    intro l s q zs' hq
    rcases W.cases hjlt l s q zs' hq with h1 | ⟨v, n, sz, ys, r, rfl, rfl, rfl, hc, hr⟩ | h1
    · exact .inl h1
    · obtain ⟨rfl, rfl⟩ := tget_cells (hvec _ _ _ _ hc) hr
      exact .inr (.inl ⟨v, n, sz, zs', rfl, rfl, rfl, hc, rfl⟩)
    · exact .inr (.inr h1)
  obtain ⟨C0, E0, hh0, hsz0, hle0, h40, h50⟩ := h.rel.hM _ _ _ _ _ _ hb _ hcs
  rw [hh] at hh0; cases hh0
  have hgk : g'.blk lv sl p = some (b, o, t) := hle.blk _ _ _ _ hb
  -- a row that lay there before is known as before
  have hold : ∀ l s q zs x, mget (st.own :: st.m) l s q = some zs → (¬ ∃ v r, l = lv ∧ s = sl ∧ q = p ++ (j, v) :: r) → g'.blk l s q = some x → g.blk l s q = some x := by
    intro l s q zs x hz hn hx
    rcases hgb _ _ _ _ hx with h1 | ⟨rfl, rfl, v, rfl, _⟩
    · exact h1
    · exact absurd ⟨v, [], rfl, rfl, rfl⟩ hn
  have hrel : Rel g' (own' :: m') w' := by
    refine ⟨fun b' o' v hb' => ?_, fun l s q b' o' t' hb' zs' hz' => ?_, fun l s l0 r hb' zs' hz' => ?_, fun l s q l' s' q' b' o' t' o2 t2 zs zs' h1 h2 hz hz' => ?_, fun l s l' s' b' r r' zs zs' h1 h2 hz hz' => ?_, fun l s q j2 v y2 h1 zs' hz' => ?_, fun l s q y hy => ?_, fun l s y hy => ?_, fun l s q b' o' t' hy => ?_, fun l s b' r hy => by rw [hu.size]; rw [hlp] at hy; exact h.rel.bdL _ _ _ _ hy, fun l s q x y h1 => ?_⟩
    · rw [hG] at hb'
      obtain ⟨q1, q2⟩ := h.rel.hG b' o' v hb'
      have hn : b' ≠ b := fun he => by rw [he, h50 o'] at hb'; cases hb'
      refine ⟨?_, q2⟩
      simp only [World.cell?, hu.off b' hn]
      simpa [World.cell?] using q1
    · rcases hcase _ _ _ _ hz' with ⟨rfl, rfl, rfl, rfl⟩ | ⟨v, n, sz, ys, rfl, rfl, rfl, hc, rfl⟩ | ⟨hne, hnj, zs, hz, hs⟩
      · rw [hgk] at hb'
        simp only [Option.some.injEq, Prod.mk.injEq] at hb'
        obtain ⟨rfl, rfl, rfl⟩ := hb'
        refine ⟨C', E, hu.at_, by omega, by simpa using hle0, fun i c hi => ?_, fun q => by rw [hG]; exact h50 q⟩
        by_cases hij : i = j
        · subst hij
          rw [List.getElem?_set_self hjlt] at hi
          cases hi
          exact hMC
        · rw [List.getElem?_set_ne (Ne.symm hij)] at hi
          rw [hCo _ (by omega)]
          exact (h40 i c hi).mono hle
      · obtain ⟨C1, E1, a1, a2, a3, a4, a5, _⟩ := hnew _ _ _ _ hc _ _ _ hb'
        exact ⟨C1, E1, a1, a2, a3, fun i c hi => (MC.plain (hvec _ _ _ _ hc c (getElem?_mem' hi))).2 (a4 i c hi), fun q => by rw [hG]; exact a5 q⟩
      · have hb2 := hold _ _ _ _ _ hz hnj hb'
        have hnb : b' ≠ b := fun he => hne (h.rel.inj _ _ _ _ _ _ _ _ _ _ _ _ _ (he ▸ hb2) hb hz hcs)
        obtain ⟨C2, E2, a1, a2, a3, a4, a5⟩ := h.rel.hM _ _ _ _ _ _ hb2 _ hz
        refine ⟨C2, E2, by rw [hu.off b' hnb]; exact a1, a2, by rw [← hs.1]; exact a3, fun i c hi => ?_, fun q => by rw [hG]; exact a5 q⟩
        obtain ⟨c0, q1, q2⟩ := hs.2 i c hi
        exact ((a4 i c0 q1).mono hle).sim q2
    · rw [hlp] at hb'
      rcases hcase _ _ _ _ hz' with ⟨rfl, rfl, rfl, rfl⟩ | ⟨v, n, sz, ys, rfl, rfl, hq, hc, rfl⟩ | ⟨hne, hnj, zs, hz, hs⟩
      · obtain ⟨s0, q1, _⟩ := h.rel.hL _ _ _ _ hb' _ hcs
        exact (h40 0 (.lrec s0) (by rw [q1]; rfl)).elim
      · simp at hq
      · obtain ⟨s0, q1, pn, q2⟩ := h.rel.hL _ _ _ _ hb' _ hz
        have hz1 : zs' = [.lrec s0] := by
          subst q1
          obtain ⟨r1, r2⟩ := hs
          match zs', r1 with
          | [c], _ =>
            obtain ⟨c0, q3, q4⟩ := r2 0 c rfl
            simp only [List.getElem?_cons_zero, Option.some.injEq] at q3
            subst q3
            cases q4; rfl
        have hnb : l0 ≠ b := fun he => by rw [he, hh] at q2; cases q2
        exact ⟨s0, hz1, pn, by rw [hu.off _ hnb]; exact q2⟩
    · rcases hcase _ _ _ _ hz with ⟨rfl, rfl, rfl, rfl⟩ | ⟨v, n, sz, ys, rfl, rfl, rfl, hc, rfl⟩ | ⟨hne, hnj, z1, hz1, _⟩
      · rw [hgk] at h1
        simp only [Option.some.injEq, Prod.mk.injEq] at h1
        obtain ⟨rfl, rfl, rfl⟩ := h1
        rcases hcase _ _ _ _ hz' with ⟨rfl, rfl, rfl, rfl⟩ | ⟨v, n, sz, ys, rfl, rfl, rfl, hc, rfl⟩ | ⟨hne', hnj', z2, hz2, _⟩
        · exact ⟨rfl, rfl, rfl⟩
        · obtain ⟨_, _, _, _, _, _, _, a6⟩ := hnew _ _ _ _ hc _ _ _ h2
          obtain ⟨_, _, v', r, hq⟩ := a6 _ _ _ _ _ _ hb hcs
          have := congrArg List.length hq
          simp at this
        · exact absurd (h.rel.inj _ _ _ _ _ _ _ _ _ _ _ _ _ (hold _ _ _ _ _ hz2 hnj' h2) hb hz2 hcs) hne'
      · rcases hcase _ _ _ _ hz' with ⟨rfl, rfl, rfl, rfl⟩ | ⟨v2, n2, sz2, ys2, rfl, rfl, rfl, hc2, rfl⟩ | ⟨hne', hnj', z2, hz2, _⟩
        · obtain ⟨_, _, _, _, _, _, _, a6⟩ := hnew _ _ _ _ hc _ _ _ h1
          rw [hgk] at h2
          simp only [Option.some.injEq, Prod.mk.injEq] at h2
          obtain ⟨rfl, rfl, rfl⟩ := h2
          obtain ⟨_, _, v', r, hq⟩ := a6 _ _ _ _ _ _ hb hcs
          have := congrArg List.length hq
          simp at this
        · rw [hc] at hc2; cases hc2; exact ⟨rfl, rfl, rfl⟩
        · obtain ⟨_, _, _, _, _, _, _, a6⟩ := hnew _ _ _ _ hc _ _ _ h1
          obtain ⟨q1, q2, v', r, q3⟩ := a6 _ _ _ _ _ _ (hold _ _ _ _ _ hz2 hnj' h2) hz2
          exact absurd ⟨v', r, q1, q2, q3⟩ hnj'
      · rcases hcase _ _ _ _ hz' with ⟨rfl, rfl, rfl, rfl⟩ | ⟨v2, n2, sz2, ys2, rfl, rfl, rfl, hc2, rfl⟩ | ⟨hne', hnj', z2, hz2, _⟩
        · rw [hgk] at h2
          simp only [Option.some.injEq, Prod.mk.injEq] at h2
          obtain ⟨rfl, rfl, rfl⟩ := h2
          exact absurd (h.rel.inj _ _ _ _ _ _ _ _ _ _ _ _ _ (hold _ _ _ _ _ hz1 hnj h1) hb hz1 hcs) hne
        · obtain ⟨_, _, _, _, _, _, _, a6⟩ := hnew _ _ _ _ hc2 _ _ _ h2
          obtain ⟨q1, q2, v', r, q3⟩ := a6 _ _ _ _ _ _ (hold _ _ _ _ _ hz1 hnj h1) hz1
          exact absurd ⟨v', r, q1, q2, q3⟩ hnj
        · exact h.rel.inj _ _ _ _ _ _ _ _ _ _ _ _ _ (hold _ _ _ _ _ hz1 hnj h1) (hold _ _ _ _ _ hz2 hnj' h2) hz1 hz2
    · rw [hlp] at h1 h2
      have hl : ∀ l s zs, mget (own' :: m') l s [] = some zs → ∃ z, mget (st.own :: st.m) l s [] = some z := fun l s zs hz => by
        have := W.live hlx l s
        rw [hz] at this
        exact Option.isSome_iff_exists.1 this.symm
      obtain ⟨z1, hz1⟩ := hl _ _ _ hz
      obtain ⟨z2, hz2⟩ := hl _ _ _ hz'
      exact h.rel.injL _ _ _ _ _ _ _ _ _ h1 h2 hz1 hz2
    · rcases hcase _ _ _ _ hz' with ⟨rfl, rfl, rfl, rfl⟩ | ⟨v2, n, sz, ys, rfl, rfl, rfl, hc, rfl⟩ | ⟨hne, hnj, zs, hz, hs⟩
      · rcases hgb _ _ _ _ h1 with h3 | ⟨_, _, v3, h3, _, ⟨n, sz, ys, hc⟩, _⟩
        · obtain ⟨c0, q1, q2⟩ := h.rel.ver _ _ _ _ _ _ h3 _ hcs
          by_cases hij : j2 = j
          · subst hij
            rw [hj] at q1; cases q1
            exact ⟨c', by rw [List.getElem?_set_self hjlt], by omega⟩
          · exact ⟨c0, by rw [List.getElem?_set_ne (Ne.symm hij)]; exact q1, q2⟩
        · have h4 := List.append_cancel_left h3
          simp only [List.cons.injEq, Prod.mk.injEq, and_true] at h4
          obtain ⟨rfl, rfl⟩ := h4
          exact ⟨c', by rw [List.getElem?_set_self hjlt], by rw [hc]; simp [nextVer]⟩
      · rcases hgb _ _ _ _ h1 with h3 | ⟨_, _, v3, h3, _⟩
        · exfalso
          obtain ⟨z, hz⟩ := h.rel.pre _ _ _ _ _ h3
          obtain ⟨c0, q1, q2⟩ := h.rel.ver _ _ _ _ _ _ hz _ hcs
          rw [hj] at q1; cases q1
          have := hvn _ _ _ _ hc
          omega
        · have := congrArg List.length h3
          simp at this
      · rcases hgb _ _ _ _ h1 with h3 | ⟨rfl, rfl, v3, h3, _⟩
        · obtain ⟨c0, q1, q2⟩ := h.rel.ver _ _ _ _ _ _ h3 _ hz
          have hlt : j2 < zs'.length := by rw [← hs.1]; exact (List.getElem?_eq_some_iff.1 q1).1
          obtain ⟨c1, q3, q4⟩ := hs.2 j2 _ (List.getElem?_eq_getElem hlt)
          rw [q1] at q3; cases q3
          exact ⟨_, List.getElem?_eq_getElem hlt, by rw [← q4.nextVer]; exact q2⟩
        · obtain ⟨h4, _⟩ := List.append_inj' h3 rfl
          exact absurd ⟨rfl, rfl, h4⟩ hne
    · rcases hgb _ _ _ _ hy with h3 | ⟨rfl, rfl, _⟩
      · have := h.rel.lv _ _ _ _ h3; rw [← W.len] at this; exact this
      · have := h.rel.lv _ _ _ _ hb; rw [← W.len] at this; exact this
    · rw [hlp] at hy
      have := h.rel.lpv _ _ _ hy; rw [← W.len] at this; exact this
    · rw [hu.size]
      rcases hgb _ _ _ _ hy with h3 | ⟨_, _, _, _, _, _, l', s', p', o2, t2, h3⟩
      · exact h.rel.bd _ _ _ _ _ _ h3
      · exact h.rel.bd _ _ _ _ _ _ h3
    · rcases hgb _ _ _ _ h1 with h3 | ⟨rfl, rfl, v3, h3, _⟩
      · obtain ⟨z, hz⟩ := h.rel.pre _ _ _ _ _ h3
        exact ⟨z, hle.blk _ _ _ _ hz⟩
      · obtain ⟨rfl, _⟩ := List.append_inj' h3 rfl
        exact ⟨_, hgk⟩
  have hroot := W.live hlx
  have hfree : ∀ s, isFree { st with own := own', m := m' } s = isFree st s := fun s => by
    refine isFree_eq (st := st) (st' := { st with own := own', m := m' }) rfl ?_
    have := hroot d s
    rw [mget_cons, mget_cons, hlen, h.lv, if_pos rfl, if_pos rfl, lget_nil, lget_nil] at this
    exact this
  refine h.turn (own' := own') (dead' := st.dead) (m' := m') hle hrel hlen ⟨by rw [hu.size]; exact Nat.le_refl _, fun k hk hf => ⟨hu.off k fun he => hf.1 _ _ _ _ _ (he ▸ hb), fun q => by rw [hG]⟩, fun _ _ _ x => by rw [hG]; exact x, fun l s q x _ y => hle.blk _ _ _ _ y, fun l s _ => by rw [hlp], fun l s q b' o' t' x => ?_, fun l s b' r x => .inl ⟨l, s, r, by rw [hlp] at x; exact x⟩, fun l s q x _ y => ?_, hu.os, hu.tape, hu.output, hle.ok⟩ ?_ ?_ ?_
  · rcases hgb _ _ _ _ x with h3 | ⟨_, _, _, _, _, _, h3⟩
    · exact .inl ⟨l, s, q, o', t', h3⟩
    · exact .inl h3
  · rcases hgb _ _ _ _ y with h3 | ⟨rfl, rfl, _⟩
    · exact ⟨q, x, h3⟩
    · exact ⟨p, _, hb⟩
  · intro s q y hy
    rw [hfree]
    rcases hgb _ _ _ _ hy with h3 | ⟨rfl, rfl, _⟩
    · exact h.nm _ _ _ h3
    · exact h.nm _ _ _ hb
  · intro s y hy
    rw [hlp] at hy
    rw [hfree]; exact h.nmL _ _ hy
  · intro l s hl
    have := hroot l s
    rwa [mget_callers (by rw [hlen]; exact hl), mget_callers (by rw [h.lv]; exact hl)] at this
end
end Go.Proofs.Ytmffcpiffkclgaa.ZJM
