/- Records of loops over functions. -/
import Derived.Test.YtmffcpiffkclgaaZJ16
set_option linter.unusedSimpArgs false
set_option linter.unusedVariables false
namespace Go.Proofs.Ytmffcpiffkclgaa.ZJM
open Go.RowKit

section
variable {P : Program} {d nt : Nat} {m0 : Mem} {g0 : Gh} {w0 : World} {g : Gh} {om : Nat → Value} {szm : Nat → Nat} {st : St} {a : Act} {w : World}

theorem lrec_tget {s : Nat} : ∀ {p : Path} {zs : List PV}, tget [PV.lrec s] p = some zs → p = [] ∧ zs = [.lrec s]
  | [], zs, h => by simp only [tget, Option.some.injEq] at h; exact ⟨rfl, h.symm⟩
  | a :: p, zs, h => by
    simp only [tget] at h
    split at h
    · rename_i hc
      have := List.mem_of_getElem? hc
      simp at this
    · cases h
theorem Rel.notLoop {M : Mem} (hR : Rel g M w) {lv j l : Nat} {r : Loop} {s : Nat} (hl : g.lp lv j = some (l, r)) (hm : mget M lv j [] = some [.lrec s]) : ∃ pn, w.heap[l]? = some (.loop (turned { r with pending := pn } s)) := by
  obtain ⟨s0, h1, pn, h2⟩ := hR.hL _ _ _ _ hl _ hm
  cases h1; exact ⟨pn, h2⟩

/-- A record's number changes. -/
theorem Rel.setRec {M M' : Mem} (hR : Rel g M w) {lv j l : Nat} {r : Loop} {s s' : Nat} (hl : g.lp lv j = some (l, r)) (hm : mget M lv j [] = some [.lrec s]) (hw : mset M lv j [] [.lrec s'] = some M') (pn' : Option Code) :
    Rel g M' (w.putObj l (.loop (turned { r with pending := pn' } s'))) ∧ ∀ l s, (mget M' l s []).isSome = (mget M l s []).isSome := by
  obtain ⟨pn, hh⟩ := hR.notLoop hl hm
  obtain ⟨y, W⟩ := mset_wrote hw
  have hy : y = [.lrec s] := by have := W.old; rw [hm] at this; exact (Option.some.inj this).symm
  subst hy
  have hlt : l < w.heap.size := (Array.getElem?_eq_some_iff.1 hh).1
  have hcase : ∀ l0 s0 q zs', mget M' l0 s0 q = some zs' → (l0 = lv ∧ s0 = j ∧ q = [] ∧ zs' = [.lrec s']) ∨ (¬ (l0 = lv ∧ s0 = j) ∧ ∃ zs, mget M l0 s0 q = some zs ∧ SimL zs zs') := by
    intro l0 s0 q zs' hq
    rcases W.all (by simp) l0 s0 q zs' hq with ⟨rfl, rfl, r0, rfl, hr⟩ | ⟨hn, zs, hz, hs⟩
    · obtain ⟨rfl, rfl⟩ := lrec_tget hr
      exact .inl ⟨rfl, rfl, rfl, rfl⟩
    · exact .inr ⟨fun hh => hn ⟨hh.1, hh.2, q, rfl⟩, zs, hz, hs⟩
  have hlive : ∀ l0 s0 q zs', mget M' l0 s0 q = some zs' → ∃ zs, mget M l0 s0 q = some zs := by
    intro l0 s0 q zs' hq
    rcases hcase _ _ _ _ hq with ⟨rfl, rfl, rfl, _⟩ | ⟨_, zs, hz, _⟩
    · exact ⟨_, hm⟩
    · exact ⟨zs, hz⟩
  have hoth : ∀ b, b ≠ l → (w.putObj l (.loop (turned { r with pending := pn' } s'))).heap[b]? = w.heap[b]? := fun b hb => World.putObj_heap_other hb
  refine ⟨⟨fun b o v hb => ?_, fun lv0 sl p b o t hb cs hcs => ?_, fun lv0 sl l0 r0 hb cs hcs => ?_, fun l1 s1 p1 l2 s2 p2 b o t o' t' cs cs' h1 h2 hz hz' => ?_, fun l1 s1 l2 s2 b r1 r2 cs cs' h1 h2 hz hz' => ?_, fun lv0 sl p jj v x h1 cs hcs => ?_, fun l1 s1 p x hx => by rw [W.len]; exact hR.lv _ _ _ _ hx, fun l1 s1 x hx => by rw [W.len]; exact hR.lpv _ _ _ hx, fun l1 s1 p b o t hx => by rw [World.putObj_size]; exact hR.bd _ _ _ _ _ _ hx, fun l1 s1 b r1 hx => by rw [World.putObj_size]; exact hR.bdL _ _ _ _ hx, hR.pre⟩, W.live (by simp)⟩
  · obtain ⟨q1, q2⟩ := hR.hG b o v hb
    have hn : b ≠ l := fun he => by subst he; simp [World.cell?, hh] at q1
    refine ⟨?_, q2⟩
    simp only [World.cell?, hoth b hn]
    simpa [World.cell?] using q1
  · rcases hcase _ _ _ _ hcs with ⟨rfl, rfl, rfl, rfl⟩ | ⟨_, zs, hz, hs⟩
    · obtain ⟨C, E, _, _, _, h4, _⟩ := hR.hM _ _ _ _ _ _ hb _ hm
      exact (h4 0 (.lrec s) rfl).elim
    · obtain ⟨C, E, a1, a2, a3, a4, a5⟩ := hR.hM _ _ _ _ _ _ hb _ hz
      have hn : b ≠ l := fun he => by rw [he, hh] at a1; cases a1
      refine ⟨C, E, by rw [hoth b hn]; exact a1, a2, by rw [← hs.1]; exact a3, fun jj c hj => ?_, a5⟩
      obtain ⟨c0, q1, q2⟩ := hs.2 jj c hj
      exact (a4 jj c0 q1).sim q2
  · rcases hcase _ _ _ _ hcs with ⟨rfl, rfl, _, rfl⟩ | ⟨hne, zs, hz, hs⟩
    · rw [hl] at hb
      cases hb
      exact ⟨s', rfl, pn', World.putObj_heap_same hlt⟩
    · obtain ⟨s0, q1, pn0, q2⟩ := hR.hL _ _ _ _ hb _ hz
      have hn : l0 ≠ l := fun he => by
        subst he
        obtain ⟨e1, e2⟩ := hR.injL _ _ _ _ _ _ _ _ _ hb hl hz hm
        exact hne ⟨e1, e2⟩
      refine ⟨s0, ?_, pn0, by rw [hoth _ hn]; exact q2⟩
      subst q1
      obtain ⟨r1, r2⟩ := hs
      match cs, r1 with
      | [c], _ =>
        obtain ⟨c0, q3, q4⟩ := r2 0 c rfl
        simp only [List.getElem?_cons_zero, Option.some.injEq] at q3
        subst q3
        cases q4; rfl
  · obtain ⟨z1, hz1⟩ := hlive _ _ _ _ hz
    obtain ⟨z2, hz2⟩ := hlive _ _ _ _ hz'
    exact hR.inj _ _ _ _ _ _ _ _ _ _ _ _ _ h1 h2 hz1 hz2
  · obtain ⟨z1, hz1⟩ := hlive _ _ _ _ hz
    obtain ⟨z2, hz2⟩ := hlive _ _ _ _ hz'
    exact hR.injL _ _ _ _ _ _ _ _ _ h1 h2 hz1 hz2
  · rcases hcase _ _ _ _ hcs with ⟨rfl, rfl, rfl, rfl⟩ | ⟨_, zs, hz, hs⟩
    · obtain ⟨z, hz⟩ := hR.pre lv0 sl [] (jj, v) x h1
      obtain ⟨C, E, _, _, _, h4, _⟩ := hR.hM lv0 sl [] z.1 z.2.1 z.2.2 hz _ hm
      exact (h4 0 (.lrec s) rfl).elim
    · obtain ⟨c0, q1, q2⟩ := hR.ver _ _ _ _ _ _ h1 _ hz
      have hlt' : jj < cs.length := by rw [← hs.1]; exact (List.getElem?_eq_some_iff.1 q1).1
      obtain ⟨c1, q3, q4⟩ := hs.2 jj _ (List.getElem?_eq_getElem hlt')
      rw [q1] at q3; cases q3
      exact ⟨_, List.getElem?_eq_getElem hlt', by rw [← q4.nextVer]; exact q2⟩

theorem Inv.setRec (h : Inv d nt m0 g0 w0 g om szm st a w) {lv j l : Nat} {r : Loop} {s s' : Nat} (hl : g.lp lv j = some (l, r)) (hm : mget (st.own :: st.m) lv j [] = some [.lrec s]) {own' : Lvl} {m' : Mem} (hw : mset (st.own :: st.m) lv j [] [.lrec s'] = some (own' :: m')) (pn' : Option Code) :
    Inv d nt m0 g0 w0 g om szm { st with own := own', m := m' } a (w.putObj l (.loop (turned { r with pending := pn' } s'))) := by
  obtain ⟨hrel, hlive⟩ := h.rel.setRec hl hm hw pn'
  have hlen : m'.length = d := by have := mset_length hw; simp only [List.length_cons, h.lv] at this; omega
  have hfree : ∀ s, isFree { st with own := own', m := m' } s = isFree st s := fun s => by
    refine isFree_eq (st := st) (st' := { st with own := own', m := m' }) rfl ?_
    have := hlive d s
    rw [mget_cons, mget_cons, hlen, h.lv, if_pos rfl, if_pos rfl, lget_nil, lget_nil] at this
    exact this
  refine h.turn (own' := own') (dead' := st.dead) (m' := m') (Gh.le.refl g) hrel hlen ⟨by simp, fun b hb hf => ⟨World.putObj_heap_other fun he => hf.2 _ _ _ (he ▸ hl), fun _ => rfl⟩, fun _ _ _ x => x, fun _ _ _ _ _ x => x, fun _ _ _ => rfl, fun l s p b o t x => .inl ⟨l, s, p, o, t, x⟩, fun l s b r x => .inl ⟨l, s, r, x⟩, fun l s p x _ y => ⟨p, x, y⟩, rfl, rfl, rfl, rfl⟩ (fun s p x hx => by rw [hfree]; exact h.nm _ _ _ hx) (fun s x hx => by rw [hfree]; exact h.nmL _ _ hx) (fun l s hl => ?_)
  have := hlive l s
  rwa [mget_callers (by omega), mget_callers (by rw [h.lv]; exact hl)] at this

/-- A record that is no more changes. -/
theorem Inv.putDead (h : Inv d nt m0 g0 w0 g om szm st a w) {l : Nat} {r0 r2 : Loop} (hh : w.heap[l]? = some (.loop r0)) (hkn : ∃ lv j r, g.lp lv j = some (l, r)) (hdead : ∀ lv j r zs, g.lp lv j = some (l, r) → mget (st.own :: st.m) lv j [] ≠ some zs) :
    Inv d nt m0 g0 w0 g om szm st a (w.putObj l (.loop r2)) := by
  have hoth : ∀ b, b ≠ l → (w.putObj l (.loop r2)).heap[b]? = w.heap[b]? := fun b hb => World.putObj_heap_other hb
  have hrel : Rel g (st.own :: st.m) (w.putObj l (.loop r2)) := by
    refine ⟨fun b o v hb => ?_, fun lv0 sl p b o t hb cs hcs => ?_, fun lv0 sl l0 r0 hb cs hcs => ?_, h.rel.inj, h.rel.injL, h.rel.ver, h.rel.lv, h.rel.lpv, fun l1 s1 p b o t hx => by rw [World.putObj_size]; exact h.rel.bd _ _ _ _ _ _ hx, fun l1 s1 b r1 hx => by rw [World.putObj_size]; exact h.rel.bdL _ _ _ _ hx, h.rel.pre⟩
    · obtain ⟨q1, q2⟩ := h.rel.hG b o v hb
      have hn : b ≠ l := fun he => by subst he; simp [World.cell?, hh] at q1
      refine ⟨?_, q2⟩
      simp only [World.cell?, hoth b hn]
      simpa [World.cell?] using q1
    · obtain ⟨C, E, a1, a2⟩ := h.rel.hM _ _ _ _ _ _ hb _ hcs
      have hn : b ≠ l := fun he => by rw [he, hh] at a1; cases a1
      exact ⟨C, E, by rw [hoth b hn]; exact a1, a2⟩
    · obtain ⟨s0, q1, pn0, q2⟩ := h.rel.hL _ _ _ _ hb _ hcs
      have hn : l0 ≠ l := fun he => by subst he; exact hdead _ _ _ _ hb hcs
      exact ⟨s0, q1, pn0, by rw [hoth _ hn]; exact q2⟩
  refine h.turn (own' := st.own) (dead' := st.dead) (m' := st.m) (Gh.le.refl g) hrel h.lv ⟨by simp, fun b hb hf => ⟨World.putObj_heap_other fun he => ?_, fun _ => rfl⟩, fun _ _ _ x => x, fun _ _ _ _ _ x => x, fun _ _ _ => rfl, fun l s p b o t x => .inl ⟨l, s, p, o, t, x⟩, fun l s b r x => .inl ⟨l, s, r, x⟩, fun l s p x _ y => ⟨p, x, y⟩, rfl, rfl, rfl, rfl⟩ h.nm h.nmL (fun _ _ _ => rfl)
  obtain ⟨lv, j, r, hl⟩ := hkn
  exact hf.2 _ _ _ (he ▸ hl)

/-- A record is laid, and the block of its deferred calls ahead of it. -/
theorem Inv.enter (h : Inv d nt m0 g0 w0 g om szm st a w) {j : Nat} (hn : isFree st j = true) {r0 : Loop} (hr0 : r0.state = .ready ∧ r0.pending = none) : ∃ g', g.le g' ∧ g'.lp d j = some (w.heap.size + 1, r0) ∧
    Inv d nt m0 g0 w0 g' om szm { st with own := (j, [.lrec 0]) :: st.own } { a with defers := [{ target := .collected w.heap.size, args := #[] }] ++ a.defers } ((w.alloc (.deferred (some []))).alloc (.loop r0)) := by
  obtain ⟨hno, hnd⟩ := isFree_iff.1 hn
  have hb0 : ∀ p, g.blk d j p = none := fun p => by
    cases hb : g.blk d j p with
    | none => rfl
    | some x => have := h.nm _ _ _ hb; rw [hn] at this; cases this
  have hl0 : g.lp d j = none := by
    cases hb : g.lp d j with
    | none => rfl
    | some x => have := h.nmL _ _ hb; rw [hn] at this; cases this
  let w1 := (w.alloc (.deferred (some []))).alloc (.loop r0)
  have hold : ∀ b, b < w.heap.size → w1.heap[b]? = w.heap[b]? := fun b hb => by
    show ((w.alloc (.deferred (some []))).alloc (.loop r0)).heap[b]? = _
    rw [heap_alloc_old _ _ (by simp; omega), heap_alloc_old _ _ hb]
  have hD : w1.heap[w.heap.size]? = some (.deferred (some [])) := by
    show ((w.alloc (.deferred (some []))).alloc (.loop r0)).heap[w.heap.size]? = _
    rw [heap_alloc_old _ _ (by simp), heap_alloc_at, if_pos rfl]
  have hL : w1.heap[w.heap.size + 1]? = some (.loop r0) := by
    show ((w.alloc (.deferred (some []))).alloc (.loop r0)).heap[w.heap.size + 1]? = _
    rw [heap_alloc_at, if_pos (by simp)]
  have hsz : w1.heap.size = w.heap.size + 2 := by show ((w.alloc (.deferred (some []))).alloc (.loop r0)).heap.size = _; simp
  let g' : Gh := { g with lp := fun l s => if l = d ∧ s = j then some (w.heap.size + 1, r0) else g.lp l s }
  have hle : g.le g' := ⟨fun _ _ _ x => x, fun _ _ _ _ x => x, fun l s x hx => by
    show (if l = d ∧ s = j then _ else _) = _
    rw [if_neg (fun hh => by obtain ⟨rfl, rfl⟩ := hh; rw [hl0] at hx; cases hx)]; exact hx, rfl⟩
  have hlpc : ∀ l s x, g'.lp l s = some x → (l = d ∧ s = j ∧ x = (w.heap.size + 1, r0)) ∨ (¬ (l = d ∧ s = j) ∧ g.lp l s = some x) := by
    intro l s x hx
    have hx' : (if l = d ∧ s = j then some (w.heap.size + 1, r0) else g.lp l s) = some x := hx
    split at hx'
    · rename_i hc; cases hx'; exact .inl ⟨hc.1, hc.2, rfl⟩
    · rename_i hc; exact .inr ⟨hc, hx'⟩
  have hget : ∀ l s p zs, mget (((j, [.lrec 0]) :: st.own) :: st.m) l s p = some zs → (l = d ∧ s = j ∧ p = [] ∧ zs = [.lrec 0]) ∨ (¬ (l = d ∧ s = j) ∧ mget (st.own :: st.m) l s p = some zs) := by
    intro l s p zs hz
    rw [mget_cons, h.lv] at hz
    by_cases hl' : l = d
    · rw [if_pos hl'] at hz
      unfold lget at hz
      rw [get_cons] at hz
      by_cases hs : j = s
      · subst hs
        rw [if_pos rfl] at hz
        obtain ⟨h1, h2⟩ := lrec_tget hz
        exact .inl ⟨hl', rfl, h1, h2⟩
      · rw [if_neg hs] at hz
        refine .inr ⟨fun hh => hs hh.2.symm, ?_⟩
        rw [mget_cons, h.lv, if_pos hl']
        exact hz
    · rw [if_neg hl'] at hz
      exact .inr ⟨fun hh => hl' hh.1, by rw [mget_cons, h.lv, if_neg hl']; exact hz⟩
  have hbnone : ∀ {l s p x}, g'.blk l s p = some x → ¬ (l = d ∧ s = j) := fun {l s p x} hx hh => by
    obtain ⟨rfl, rfl⟩ := hh
    have hx' : g.blk l s p = some x := hx
    rw [hb0] at hx'; cases hx'
  have hrel : Rel g' (((j, [.lrec 0]) :: st.own) :: st.m) w1 := by
    refine ⟨fun b o v hb => ?_, fun lv sl p b o t hb zs hz => ?_, fun lv sl l r hb zs hz => ?_, fun l s p l' s' p' b o t o' t' zs zs' h1 h2 hz hz' => ?_, fun l s l' s' b r r' zs zs' h1 h2 hz hz' => ?_, fun lv sl p jj v x h1 zs hz => ?_, fun l s p x hx => ?_, fun l s x hx => ?_, fun l s p b o t hx => ?_, fun l s b r hx => ?_, h.rel.pre⟩
    · obtain ⟨q1, q2⟩ := h.rel.hG b o v hb
      refine ⟨?_, q2⟩
      simp only [World.cell?, hold b (h.rel.G_lt hb)]
      simpa [World.cell?] using q1
    · rcases hget _ _ _ _ hz with ⟨q1, q2, _⟩ | ⟨_, hz'⟩
      · exact absurd ⟨q1, q2⟩ (hbnone hb)
      · obtain ⟨C, E, a1, a2, a3, a4, a5⟩ := h.rel.hM _ _ _ _ _ _ hb _ hz'
        exact ⟨C, E, by rw [hold b (h.rel.blkLt hb hz')]; exact a1, a2, a3, fun jj c hj => (a4 jj c hj).mono hle, a5⟩
    · rcases hget _ _ _ _ hz with ⟨rfl, rfl, _, rfl⟩ | ⟨hne, hz'⟩
      · rcases hlpc _ _ _ hb with ⟨_, _, he⟩ | ⟨hc, _⟩
        · cases he
          refine ⟨0, rfl, none, ?_⟩
          rw [hL]
          obtain ⟨e1, e2⟩ := hr0
          congr 2
          cases r0
          simp only at e1 e2
          subst e1; subst e2
          rfl
        · exact absurd ⟨rfl, rfl⟩ hc
      · rcases hlpc _ _ _ hb with ⟨q1, q2, _⟩ | ⟨_, hb'⟩
        · exact absurd ⟨q1, q2⟩ hne
        · obtain ⟨s0, q1, pn0, q2⟩ := h.rel.hL _ _ _ _ hb' _ hz'
          exact ⟨s0, q1, pn0, by rw [hold _ (Array.getElem?_eq_some_iff.1 q2).1]; exact q2⟩
    · rcases hget _ _ _ _ hz with ⟨q1, q2, _⟩ | ⟨_, hz1⟩
      · exact absurd ⟨q1, q2⟩ (hbnone h1)
      · rcases hget _ _ _ _ hz' with ⟨q1, q2, _⟩ | ⟨_, hz2⟩
        · exact absurd ⟨q1, q2⟩ (hbnone h2)
        · exact h.rel.inj _ _ _ _ _ _ _ _ _ _ _ _ _ h1 h2 hz1 hz2
    · rcases hlpc _ _ _ h1 with ⟨rfl, rfl, e1⟩ | ⟨c1, h1'⟩ <;> rcases hlpc _ _ _ h2 with ⟨rfl, rfl, e2⟩ | ⟨c2, h2'⟩
      · exact ⟨rfl, rfl⟩
      · cases e1; have := h.rel.bdL _ _ _ _ h2'; omega
      · cases e2; have := h.rel.bdL _ _ _ _ h1'; omega
      · rcases hget _ _ _ _ hz with ⟨q1, q2, _⟩ | ⟨_, hz1⟩
        · exact absurd ⟨q1, q2⟩ c1
        · rcases hget _ _ _ _ hz' with ⟨q1, q2, _⟩ | ⟨_, hz2⟩
          · exact absurd ⟨q1, q2⟩ c2
          · exact h.rel.injL _ _ _ _ _ _ _ _ _ h1' h2' hz1 hz2
    · rcases hget _ _ _ _ hz with ⟨q1, q2, _⟩ | ⟨_, hz'⟩
      · exact absurd ⟨q1, q2⟩ (hbnone h1)
      · exact h.rel.ver _ _ _ _ _ _ h1 _ hz'
    · have := h.rel.lv _ _ _ _ hx; simpa using this
    · rcases hlpc _ _ _ hx with ⟨rfl, _⟩ | ⟨_, hx'⟩
      · simp [h.lv]
      · have := h.rel.lpv _ _ _ hx'; simpa using this
    · have := h.rel.bd _ _ _ _ _ _ hx; omega
    · rcases hlpc _ _ _ hx with ⟨_, _, he⟩ | ⟨_, hx'⟩
      · cases he; omega
      · have := h.rel.bdL _ _ _ _ hx'; omega
  have hfree : ∀ s, isFree st s = false → isFree { st with own := (j, [.lrec 0]) :: st.own } s = false := by
    intro s hs
    cases hf : isFree { st with own := (j, [.lrec 0]) :: st.own } s with
    | false => rfl
    | true =>
      obtain ⟨q1, q2⟩ := isFree_iff.1 hf
      simp only at q1
      rw [get_cons] at q1
      split at q1
      · cases q1
      · have := isFree_iff.2 ⟨q1, q2⟩; rw [hs] at this; cases this
  have hj : isFree { st with own := (j, [.lrec 0]) :: st.own } j = false := by
    cases hf : isFree { st with own := (j, [.lrec 0]) :: st.own } j with
    | false => rfl
    | true =>
      obtain ⟨q1, q2⟩ := isFree_iff.1 hf
      simp only at q1
      rw [get_cons, if_pos rfl] at q1; cases q1
  have hfreeD : g'.free w.heap.size := ⟨fun l s p o t hh => h.freeNew.1 _ _ _ _ _ hh, fun l s r hh => by
    rcases hlpc _ _ _ hh with ⟨_, _, he⟩ | ⟨_, hx'⟩
    · have := congrArg Prod.fst he
      simp only at this
      omega
    · exact h.freeNew.2 _ _ _ hx'⟩
  have h1 := h.turn (own' := (j, [.lrec 0]) :: st.own) (dead' := st.dead) (m' := st.m) hle hrel h.lv ⟨by omega, fun b hb _ => ⟨hold b hb, fun _ => rfl⟩, fun _ _ _ x => x, fun _ _ _ _ _ x => x, fun l s hl => by
    show (if l = d ∧ s = j then _ else _) = _
    rw [if_neg (by omega)], fun l s p b o t x => .inl ⟨l, s, p, o, t, x⟩, fun l s b r x => ?_, fun l s p x _ y => ⟨p, x, y⟩, rfl, rfl, rfl, rfl⟩ (fun s p x hx => hfree s (h.nm _ _ _ hx)) (fun s x hx => ?_) (fun _ _ _ => rfl)
  · refine ⟨g', hle, by show (if d = d ∧ j = j then _ else _) = _; rw [if_pos ⟨rfl, rfl⟩], ⟨h1.rel, h1.lv, h1.f, h1.nt, fun x hx => ?_, ?_, h1.own, h1.apart, h1.kp, h1.nm, h1.nmL, h1.roots⟩⟩
    rcases List.mem_append.1 hx with hx | hx
    · simp only [List.mem_singleton] at hx
      exact ⟨w.heap.size, hx, hD, h.kp.size, hfreeD⟩
    · exact h1.df x hx
    · refine List.nodup_cons.2 ⟨fun hm => ?_, h.dn⟩
      obtain ⟨D, e1, e2, _⟩ := h.df _ hm
      have hlt := (Array.getElem?_eq_some_iff.1 e2).1
      injection e1 with e1
      injection e1 with e1
      omega
  · rcases hlpc _ _ _ x with ⟨_, _, he⟩ | ⟨_, hx'⟩
    · cases he; exact .inr (by omega)
    · exact .inl ⟨l, s, r, hx'⟩
  · rcases hlpc _ _ _ hx with ⟨_, rfl, _⟩ | ⟨_, hx'⟩
    · exact hj
    · exact hfree s (h.nmL _ _ hx')
end
end Go.Proofs.Ytmffcpiffkclgaa.ZJM
