/- Steps that change memory: a new variable, a store, a row that moves into a cell. -/
import Derived.Test.YtmffcpiffkclgaaZJ5
import Derived.Maps.AppendAt
set_option linter.unusedSimpArgs false
set_option linter.unusedVariables false
namespace Go.Proofs.Ytmffcpiffkclgaa.ZJM
open Go.RowKit

section
variable {P : Program} {d nt : Nat} {m0 : Mem} {g0 : Gh} {w0 : World} {g : Gh} {om : Nat → Value} {szm : Nat → Nat} {st : St} {a : Act} {w : World}

/-! ### a variable in memory -/
def Gh.key (g : Gh) (lv sl : Nat) (p : Path) (x : Nat × Nat × Nat) : Gh := { g with blk := fun l s q => if l = lv ∧ s = sl ∧ q = p then some x else g.blk l s q }
theorem Gh.key_le {lv sl : Nat} {p : Path} {x : Nat × Nat × Nat} (hn : g.blk lv sl p = none) : g.le (g.key lv sl p x) := by
  refine ⟨fun _ _ _ h => h, fun l s q y h => ?_, fun _ _ _ h => h, rfl⟩
  simp only [Gh.key]
  split
  · rename_i hc; obtain ⟨rfl, rfl, rfl⟩ := hc; rw [hn] at h; cases h
  · exact h
theorem Gh.key_here {lv sl : Nat} {p : Path} {x : Nat × Nat × Nat} : (g.key lv sl p x).blk lv sl p = some x := by simp [Gh.key]
theorem Gh.key_cases {lv sl l s : Nat} {p q : Path} {x y : Nat × Nat × Nat} (h : (g.key lv sl p x).blk l s q = some y) : (l = lv ∧ s = sl ∧ q = p ∧ y = x) ∨ (¬ (l = lv ∧ s = sl ∧ q = p) ∧ g.blk l s q = some y) := by
  simp only [Gh.key] at h
  split at h
  · rename_i hc; cases h; exact .inl ⟨hc.1, hc.2.1, hc.2.2, rfl⟩
  · rename_i hc; exact .inr ⟨hc, h⟩
theorem isFree_iff {s : Nat} : isFree st s = true ↔ get st.own s = none ∧ st.dead.contains s = false := by
  unfold isFree
  cases get st.own s <;> simp
theorem lget_cells {own : Lvl} {sl : Nat} {cs : List PV} {p : Path} {zs : List PV} (hg : get own sl = some cs) (h : ∀ c ∈ cs, c.isCell = true) (hz : lget own sl p = some zs) : p = [] ∧ zs = cs := by
  unfold lget at hz
  rw [hg] at hz
  exact tget_cells h hz
theorem Rel.blkLt {m : Mem} {w : World} (hR : Rel g m w) {l s b o t : Nat} {p : Path} {cs : List PV} (hb : g.blk l s p = some (b, o, t)) (hc : mget m l s p = some cs) : b < w.heap.size := by
  obtain ⟨C, E, h, _⟩ := hR.hM _ _ _ _ _ _ hb _ hc
  exact (Array.getElem?_eq_some_iff.1 h).1

/-- A variable of our own in a block in which nothing lies. -/
theorem Inv.addRoot (h : Inv d nt m0 g0 w0 g om szm st a w) {dst : Nat} (hn : isFree st dst = true) {cs : List PV} {b1 o1 : Nat} {C : Array Value} {E : TypeId} {w' : World} (hh1 : w'.heap[b1]? = some (.cells C E (0, 0))) (hl : o1 + cs.length ≤ C.size)
    (hc : ∀ j c, cs[j]? = some c → c.isCell = true ∧ c.untag1 = c ∧ V g c (C.getD (o1 + j) undef)) (hws : w.heap.size ≤ w'.heap.size) (hwo : ∀ k, k < w.heap.size → k ≠ b1 → w'.heap[k]? = w.heap[k]?) (hos : w'.os = w.os) (htp : w'.tape = w.tape) (hout : w'.output = w.output)
    (hG1 : ∀ q, g.G b1 q = none) (hlive : ∀ l s q o' t' zs, g.blk l s q = some (b1, o', t') → mget (st.own :: st.m) l s q ≠ some zs) (hliveL : ∀ l s r zs, g.lp l s = some (b1, r) → mget (st.own :: st.m) l s [] ≠ some zs) (hkn : (∃ l s q o' t', g.blk l s q = some (b1, o', t')) ∨ w.heap.size ≤ b1) :
    ∃ g', g.le g' ∧ Inv d nt m0 g0 w0 g' om szm { st with own := (dst, cs) :: st.own } a w' ∧ g'.blk d dst [] = some (b1, o1, C.size) := by
  obtain ⟨hno, hnd⟩ := isFree_iff.1 hn
  have hb0 : ∀ p, g.blk d dst p = none := fun p => by
    cases hb : g.blk d dst p with
    | none => rfl
    | some x => have := h.nm _ _ _ hb; rw [hn] at this; cases this
  have hl0 : g.lp d dst = none := by
    cases hb : g.lp d dst with
    | none => rfl
    | some x => have := h.nmL _ _ hb; rw [hn] at this; cases this
  let g' := g.key d dst [] (b1, o1, C.size)
  have hle : g.le g' := Gh.key_le (hb0 [])
  have hcell : ∀ c ∈ cs, c.isCell = true := fun c hcm => by obtain ⟨j, hj⟩ := List.getElem?_of_mem hcm; exact (hc j c hj).1
  have hb1lt : b1 < w'.heap.size := (Array.getElem?_eq_some_iff.1 hh1).1
  have hget : ∀ l s p zs, mget (((dst, cs) :: st.own) :: st.m) l s p = some zs → (l = d ∧ s = dst ∧ p = [] ∧ zs = cs) ∨ (¬ (l = d ∧ s = dst) ∧ mget (st.own :: st.m) l s p = some zs) := by
    intro l s p zs hz
    rw [mget_cons, h.lv] at hz
    by_cases hl' : l = d
    · rw [if_pos hl'] at hz
      by_cases hs : dst = s
      · subst hs
        obtain ⟨h1, h2⟩ := lget_cells (by rw [get_cons, if_pos rfl]) hcell hz
        exact .inl ⟨hl', rfl, h1, h2⟩
      · refine .inr ⟨fun hh => hs hh.2.symm, ?_⟩
        rw [mget_cons, h.lv, if_pos hl']
        unfold lget at hz ⊢
        rw [get_cons, if_neg hs] at hz
        exact hz
    · rw [if_neg hl'] at hz
      exact .inr ⟨fun hh => hl' hh.1, by rw [mget_cons, h.lv, if_neg hl']; exact hz⟩
  have hdep : ∀ l s p x, g.blk l s p = some x → l < d + 1 := fun l s p x hx => by have := h.rel.lv l s p x hx; simpa [h.lv] using this
  have hdepL : ∀ l s x, g.lp l s = some x → l < d + 1 := fun l s x hx => by have := h.rel.lpv l s x hx; simpa [h.lv] using this
  have hrel : Rel g' (((dst, cs) :: st.own) :: st.m) w' := by
    refine ⟨fun b o v hb => ?_, fun lv sl p b o t hb zs hz => ?_, fun lv sl l r hb zs hz => ?_, fun l s p l' s' p' b o t o' t' zs zs' h1 h2 hz hz' => ?_, fun l s l' s' b r r' zs zs' h1 h2 hz hz' => ?_, fun lv sl p j v x h1 zs hz => ?_, fun l s p x hx => ?_, fun l s x hx => ?_, fun l s p b o t hx => ?_, fun l s b r hx => ?_, fun lv sl q x y h1 => ?_⟩
    · obtain ⟨x, y⟩ := h.rel.hG b o v hb
      have hlt := h.rel.G_lt hb
      have hne : b ≠ b1 := fun he => by have hb' : g.G b o = some v := hb; rw [he, hG1 o] at hb'; cases hb'
      refine ⟨?_, y⟩
      simp only [World.cell?, hwo b hlt hne]
      simpa [World.cell?] using x
    · rcases hget _ _ _ _ hz with ⟨rfl, rfl, rfl, rfl⟩ | ⟨hne, hz'⟩
      · have hb' : g'.blk lv sl [] = some (b1, o1, C.size) := Gh.key_here
        rw [hb'] at hb
        simp only [Option.some.injEq, Prod.mk.injEq] at hb
        obtain ⟨rfl, rfl, rfl⟩ := hb
        refine ⟨C, E, hh1, rfl, hl, fun j c hj => ?_, hG1⟩
        obtain ⟨x, y, z⟩ := hc j c hj
        exact (MC.plain x).2 ⟨y, z.depAll hdep hdepL, z.mono hle⟩
      · rcases Gh.key_cases hb with ⟨rfl, rfl, _⟩ | ⟨_, hb'⟩
        · exact absurd ⟨rfl, rfl⟩ hne
        · obtain ⟨C', E', a1, a2, a3, a4, a5⟩ := h.rel.hM _ _ _ _ _ _ hb' _ hz'
          exact ⟨C', E', by rw [hwo b (h.rel.blkLt hb' hz') (fun he => hlive _ _ _ _ _ _ (he ▸ hb') hz')]; exact a1, a2, a3, fun j c hj => (a4 j c hj).mono hle, a5⟩
    · have hb' : g.lp lv sl = some (l, r) := hb
      rcases hget _ _ _ _ hz with ⟨rfl, rfl, _, _⟩ | ⟨hne, hz'⟩
      · rw [hl0] at hb'; cases hb'
      · obtain ⟨s, h1, pn, h2⟩ := h.rel.hL _ _ _ _ hb' _ hz'
        exact ⟨s, h1, pn, by rw [hwo _ (Array.getElem?_eq_some_iff.1 h2).1 (fun he => hliveL _ _ _ _ (he ▸ hb') hz')]; exact h2⟩
    · rcases hget _ _ _ _ hz with ⟨rfl, rfl, rfl, rfl⟩ | ⟨hne, hz1⟩ <;> rcases hget _ _ _ _ hz' with ⟨rfl, rfl, rfl, rfl⟩ | ⟨hne', hz1'⟩
      · exact ⟨rfl, rfl, rfl⟩
      · have hb' : g'.blk l s [] = some (b1, o1, C.size) := Gh.key_here
        rw [hb'] at h1
        simp only [Option.some.injEq, Prod.mk.injEq] at h1
        rcases Gh.key_cases h2 with ⟨q1, q2, _⟩ | ⟨_, h3⟩
        · exact absurd ⟨q1, q2⟩ hne'
        · exact absurd hz1' (hlive _ _ _ _ _ _ (h1.1 ▸ h3))
      · have hb' : g'.blk l' s' [] = some (b1, o1, C.size) := Gh.key_here
        rw [hb'] at h2
        simp only [Option.some.injEq, Prod.mk.injEq] at h2
        rcases Gh.key_cases h1 with ⟨q1, q2, _⟩ | ⟨_, h3⟩
        · exact absurd ⟨q1, q2⟩ hne
        · exact absurd hz1 (hlive _ _ _ _ _ _ (h2.1 ▸ h3))
      · rcases Gh.key_cases h1 with ⟨q1, q2, _⟩ | ⟨_, h3⟩
        · exact absurd ⟨q1, q2⟩ hne
        · rcases Gh.key_cases h2 with ⟨q1, q2, _⟩ | ⟨_, h4⟩
          · exact absurd ⟨q1, q2⟩ hne'
          · exact h.rel.inj _ _ _ _ _ _ _ _ _ _ _ _ _ h3 h4 hz1 hz1'
    · have h1' : g.lp l s = some (b, r) := h1
      have h2' : g.lp l' s' = some (b, r') := h2
      rcases hget _ _ _ _ hz with ⟨rfl, rfl, _, _⟩ | ⟨hne, hz1⟩
      · rw [hl0] at h1'; cases h1'
      · rcases hget _ _ _ _ hz' with ⟨rfl, rfl, _, _⟩ | ⟨hne', hz1'⟩
        · rw [hl0] at h2'; cases h2'
        · exact h.rel.injL _ _ _ _ _ _ _ _ _ h1' h2' hz1 hz1'
    · rcases Gh.key_cases h1 with ⟨_, _, q3, _⟩ | ⟨_, h3⟩
      · simp at q3
      · rcases hget _ _ _ _ hz with ⟨rfl, rfl, _, _⟩ | ⟨hne, hz1⟩
        · rw [hb0] at h3; cases h3
        · exact h.rel.ver _ _ _ _ _ _ h3 _ hz1
    · rcases Gh.key_cases hx with ⟨rfl, _⟩ | ⟨_, h3⟩
      · simp [h.lv]
      · have := h.rel.lv _ _ _ _ h3; simpa using this
    · have := h.rel.lpv _ _ _ hx; simpa using this
    · rcases Gh.key_cases hx with ⟨_, _, _, hx⟩ | ⟨_, h3⟩
      · simp only [Prod.mk.injEq] at hx; omega
      · have := h.rel.bd _ _ _ _ _ _ h3; omega
    · have := h.rel.bdL _ _ _ _ hx; omega
    · rcases Gh.key_cases h1 with ⟨_, _, q3, _⟩ | ⟨_, h3⟩
      · simp at q3
      · obtain ⟨z, hz⟩ := h.rel.pre _ _ _ _ _ h3
        exact ⟨z, hle.blk _ _ _ _ hz⟩
  have hfree : ∀ s, isFree st s = false → isFree { st with own := (dst, cs) :: st.own } s = false := by
    intro s hs
    cases hf : isFree { st with own := (dst, cs) :: st.own } s with
    | false => rfl
    | true =>
      obtain ⟨q1, q2⟩ := isFree_iff.1 hf
      rw [get_cons] at q1
      split at q1
      · cases q1
      · have := isFree_iff.2 ⟨q1, q2⟩; rw [hs] at this; cases this
  have hdst : isFree { st with own := (dst, cs) :: st.own } dst = false := by
    cases hf : isFree { st with own := (dst, cs) :: st.own } dst with
    | false => rfl
    | true =>
      obtain ⟨q1, q2⟩ := isFree_iff.1 hf
      rw [get_cons, if_pos rfl] at q1; cases q1
  refine ⟨g', hle, ?_, Gh.key_here⟩
  refine h.turn (own' := (dst, cs) :: st.own) (dead' := st.dead) (m' := st.m) hle hrel h.lv ⟨hws, fun b hb hf => ⟨hwo b hb (fun he => ?_), fun _ => rfl⟩, fun _ _ _ x => x, fun l s p x _ y => hle.blk _ _ _ _ y, fun _ _ _ => rfl, fun l s p b o t hb => ?_, fun l s b r x => .inl ⟨l, s, r, x⟩, fun l s p x hl' hx => ?_, hos, htp, hout, rfl⟩ ?_ ?_ (fun _ _ _ => rfl)
  · rcases hkn with ⟨l, s, q, o', t', h3⟩ | h3
    · exact hf.1 _ _ _ _ _ (he ▸ h3)
    · omega
  · rcases Gh.key_cases hb with ⟨_, _, _, hx⟩ | ⟨_, h3⟩
    · simp only [Prod.mk.injEq] at hx
      rcases hkn with ⟨l2, s2, q2, o2, t2, h3⟩ | h3
      · exact .inl ⟨l2, s2, q2, o2, t2, by rw [hx.1]; exact h3⟩
      · exact .inr (by omega)
    · exact .inl ⟨l, s, p, o, t, h3⟩
  · rcases Gh.key_cases hx with ⟨q1, _⟩ | ⟨_, h3⟩
    · omega
    · exact ⟨p, x, h3⟩
  · intro s p x hx
    rcases Gh.key_cases hx with ⟨_, rfl, _⟩ | ⟨_, h3⟩
    · exact hdst
    · exact hfree s (h.nm _ _ _ h3)
  · intro s x hx
    exact hfree s (h.nmL _ _ hx)

theorem Inv.newVar0 (h : Inv d nt m0 g0 w0 g om szm st a w) {dst : Nat} (hn : isFree st dst = true) {cs : List PV} {C : Array Value} {E : TypeId} (hl : cs.length = C.size)
    (hc : ∀ j c, cs[j]? = some c → c.isCell = true ∧ c.untag1 = c ∧ V g c (C.getD j undef)) :
    ∃ g', g.le g' ∧ Inv d nt m0 g0 w0 g' om szm { st with own := (dst, cs) :: st.own } a (w.alloc (.cells C E (0, 0))) ∧ g'.blk d dst [] = some (w.heap.size, 0, C.size) :=
  h.addRoot hn (b1 := w.heap.size) (o1 := 0) (by rw [heap_alloc_at, if_pos rfl]) (by omega) (fun j c hj => by rw [Nat.zero_add]; exact hc j c hj) (by simp) (fun k hk _ => heap_alloc_old _ _ hk) rfl rfl rfl
    (fun q => by cases hg : g.G w.heap.size q with
      | none => rfl
      | some v => have := h.rel.G_lt hg; omega)
    (fun l s q o' t' zs hb => absurd hb (h.freeNew.1 _ _ _ _ _)) (fun l s r zs hb => absurd hb (h.freeNew.2 _ _ _)) (.inr (Nat.le_refl _))

/-! ### other cells -/
/-- Block b has other cells; nothing else has turned. -/
structure Upd (w w' : World) (b : Nat) (C : Array Value) (E : TypeId) : Prop where
  at_ : w'.heap[b]? = some (.cells C E (0, 0))
  off : ∀ k, k ≠ b → w'.heap[k]? = w.heap[k]?
  size : w'.heap.size = w.heap.size
  os : w'.os = w.os
  tape : w'.tape = w.tape
  output : w'.output = w.output
theorem Upd.row {b : Nat} {C C' : Array Value} {E : TypeId} (h : w.heap[b]? = some (.cells C E (0, 0))) : Upd w (w.setRow b C') b C' E :=
  ⟨setRow_heap w b C C' E _ h, fun k hk => setRow_other w b k _ hk, by simp, rfl, rfl, rfl⟩
theorem Upd.same {b : Nat} {C : Array Value} {E : TypeId} (h : w.heap[b]? = some (.cells C E (0, 0))) : Upd w w b C E := ⟨h, fun _ _ => rfl, rfl, rfl, rfl, rfl⟩
theorem Upd.trans {w' w'' : World} {b : Nat} {C C' : Array Value} {E : TypeId} (h : Upd w w' b C E) (k : Upd w' w'' b C' E) : Upd w w'' b C' E :=
  ⟨k.at_, fun i hi => (k.off i hi).trans (h.off i hi), k.size.trans h.size, k.os.trans h.os, k.tape.trans h.tape, k.output.trans h.output⟩
theorem mget_callers {own' : Lvl} {m' : Mem} {l s : Nat} {p : Path} (hl : l < m'.length) : mget (own' :: m') l s p = mget m' l s p := by rw [mget_cons, if_neg (by omega)]

/-- Cells of a row are plain ones, and become others. -/
theorem Inv.setPlain (h : Inv d nt m0 g0 w0 g om szm st a w) {lv sl b o t : Nat} {p : Path} (hb : g.blk lv sl p = some (b, o, t)) {cs x : List PV} (hcs : mget (st.own :: st.m) lv sl p = some cs) {own' : Lvl} {m' : Mem}
    (hw : mset (st.own :: st.m) lv sl p x = some (own' :: m')) (hlx : x.length = cs.length) {C C' : Array Value} {E : TypeId} {w' : World} (hh : w.heap[b]? = some (.cells C E (0, 0))) (hu : Upd w w' b C' E) (hC : C'.size = C.size)
    (hx : ∀ j c, x[j]? = some c → (cs[j]? = some c ∧ C'.getD (o + j) undef = C.getD (o + j) undef) ∨ (c.isCell = true ∧ c.untag1 = c ∧ c.dep (lv + 1) = true ∧ V g c (C'.getD (o + j) undef) ∧ ∃ old, cs[j]? = some old ∧ isPlace old = false)) :
    Inv d nt m0 g0 w0 g om szm { st with own := own', m := m' } a w' := by
  obtain ⟨y, W⟩ := mset_wrote hw
  have hy : y = cs := by have := W.old; rw [hcs] at this; exact (Option.some.inj this).symm
  subst hy
  have hlen : m'.length = d := by have := W.len; simp only [List.length_cons] at this; rw [← h.lv]; omega
  -- which rows lie there behind the write
  have hcase : ∀ l s q zs', mget (own' :: m') l s q = some zs' → (l = lv ∧ s = sl ∧ q = p ∧ zs' = x) ∨ (¬ (l = lv ∧ s = sl ∧ q = p) ∧ ∃ zs, mget (st.own :: st.m) l s q = some zs ∧ SimL zs zs') := by
    intro l s q zs' hq
    rcases W.all hlx l s q zs' hq with ⟨rfl, rfl, r, rfl, hr⟩ | ⟨hn, zs, hz, hs⟩
    · cases r with
      | nil => simp only [tget, Option.some.injEq] at hr; exact .inl ⟨rfl, rfl, by simp, hr.symm⟩
      | cons e r =>
        refine .inr ⟨fun hh => by have := hh.2.2; simp at this, zs', ?_, SimL.refl _⟩
        rw [mget_append, hcs]
        simp only [Option.bind_some, tget] at hr ⊢
        split at hr
        · rename_i v' n sz ys hxe
          rcases hx _ _ hxe with ⟨h1, _⟩ | ⟨h1, _⟩
          · rw [h1]; exact hr
          · simp [PV.isCell] at h1
        · cases hr
    · exact .inr ⟨fun hh => hn ⟨hh.1, hh.2.1, [], by simp [hh.2.2]⟩, zs, hz, hs⟩
  have hlive : ∀ l s q zs', mget (own' :: m') l s q = some zs' → ∃ zs, mget (st.own :: st.m) l s q = some zs := by
    intro l s q zs' hq
    rcases hcase l s q zs' hq with ⟨rfl, rfl, rfl, _⟩ | ⟨_, zs, hz, _⟩
    · exact ⟨_, hcs⟩
    · exact ⟨zs, hz⟩
  obtain ⟨C0, E0, hh0, hsz0, hle0, h40, h50⟩ := h.rel.hM _ _ _ _ _ _ hb _ hcs
  rw [hh] at hh0; cases hh0
  have hrel : Rel g (own' :: m') w' := by
    refine ⟨fun b' o' v hb' => ?_, fun l s q b' o' t' hb' zs' hz' => ?_, fun l s l0 r hb' zs' hz' => ?_, fun l s q l' s' q' b' o' t' o2 t2 zs zs' h1 h2 hz hz' => ?_, fun l s l' s' b' r r' zs zs' h1 h2 hz hz' => ?_, fun l s q j v y h1 zs' hz' => ?_, fun l s q y hy => ?_, fun l s y hy => ?_, fun l s q b' o' t' hy => by rw [hu.size]; exact h.rel.bd _ _ _ _ _ _ hy, fun l s b' r hy => by rw [hu.size]; exact h.rel.bdL _ _ _ _ hy, h.rel.pre⟩
    · obtain ⟨q1, q2⟩ := h.rel.hG b' o' v hb'
      have hn : b' ≠ b := fun he => by rw [he, h50 o'] at hb'; cases hb'
      refine ⟨?_, q2⟩
      simp only [World.cell?, hu.off b' hn]
      simpa [World.cell?] using q1
    · rcases hcase _ _ _ _ hz' with ⟨rfl, rfl, rfl, rfl⟩ | ⟨hne, zs, hz, hs⟩
      · rw [hb] at hb'
        simp only [Option.some.injEq, Prod.mk.injEq] at hb'
        obtain ⟨rfl, rfl, rfl⟩ := hb'
        refine ⟨C', E, hu.at_, by omega, by omega, fun j c hj => ?_, h50⟩
        rcases hx j c hj with ⟨q1, q2⟩ | ⟨q1, q2, q3, q4, _⟩
        · rw [q2]; exact h40 j c q1
        · exact (MC.plain q1).2 ⟨q2, q3, q4⟩
      · have hnb : b' ≠ b := fun he => hne (h.rel.inj _ _ _ _ _ _ _ _ _ _ _ _ _ (he ▸ hb') hb hz hcs)
        obtain ⟨C2, E2, a1, a2, a3, a4, a5⟩ := h.rel.hM _ _ _ _ _ _ hb' _ hz
        refine ⟨C2, E2, by rw [hu.off b' hnb]; exact a1, a2, by rw [← hs.1]; exact a3, fun j c hj => ?_, a5⟩
        obtain ⟨c0, q1, q2⟩ := hs.2 j c hj
        exact (a4 j c0 q1).sim q2
    · rcases hcase _ _ _ _ hz' with ⟨rfl, rfl, rfl, rfl⟩ | ⟨hne, zs, hz, hs⟩
      · obtain ⟨s0, q1, _⟩ := h.rel.hL _ _ _ _ hb' _ hcs
        exfalso
        have hl1 : y.length = 1 := by rw [q1]; rfl
        have hm := h40 0 (.lrec s0) (by rw [q1]; rfl)
        exact hm
      · obtain ⟨s0, q1, pn, q2⟩ := h.rel.hL _ _ _ _ hb' _ hz
        have hz1 : zs' = [.lrec s0] := by
          subst q1
          obtain ⟨r1, r2⟩ := hs
          match zs', r1 with
          | [c], _ =>
            obtain ⟨c0, q3, q4⟩ := r2 0 c rfl
            simp only [List.getElem?_cons_zero, Option.some.injEq] at q3
            subst q3
            cases q4; rfl
        have hnb : l0 ≠ b := fun he => by rw [he, hh] at q2; cases q2
        exact ⟨s0, hz1, pn, by rw [hu.off _ hnb]; exact q2⟩
    · obtain ⟨z1, hz1⟩ := hlive _ _ _ _ hz
      obtain ⟨z2, hz2⟩ := hlive _ _ _ _ hz'
      exact h.rel.inj _ _ _ _ _ _ _ _ _ _ _ _ _ h1 h2 hz1 hz2
    · obtain ⟨z1, hz1⟩ := hlive _ _ _ _ hz
      obtain ⟨z2, hz2⟩ := hlive _ _ _ _ hz'
      exact h.rel.injL _ _ _ _ _ _ _ _ _ h1 h2 hz1 hz2
    · rcases hcase _ _ _ _ hz' with ⟨rfl, rfl, rfl, rfl⟩ | ⟨hne, zs, hz, hs⟩
      · obtain ⟨c0, q1, q2⟩ := h.rel.ver _ _ _ _ _ _ h1 _ hcs
        have hlt : j < zs'.length := by rw [hlx]; exact (List.getElem?_eq_some_iff.1 q1).1
        refine ⟨zs'[j], List.getElem?_eq_getElem hlt, ?_⟩
        rcases hx j _ (List.getElem?_eq_getElem hlt) with ⟨q3, _⟩ | ⟨_, _, _, _, old, q3, q4⟩
        · rw [q1] at q3; cases q3; exact q2
        · rw [q1] at q3; cases q3
          cases c0 <;> simp [isPlace] at q4 <;> simp [nextVer] at q2
      · obtain ⟨c0, q1, q2⟩ := h.rel.ver _ _ _ _ _ _ h1 _ hz
        have hlt : j < zs'.length := by rw [← hs.1]; exact (List.getElem?_eq_some_iff.1 q1).1
        obtain ⟨c1, q3, q4⟩ := hs.2 j _ (List.getElem?_eq_getElem hlt)
        rw [q1] at q3; cases q3
        exact ⟨_, List.getElem?_eq_getElem hlt, by rw [← q4.nextVer]; exact q2⟩
    · have := h.rel.lv _ _ _ _ hy; rw [← W.len] at this; exact this
    · have := h.rel.lpv _ _ _ hy; rw [← W.len] at this; exact this
  have hroot := W.live hlx
  have hfree : ∀ s, isFree { st with own := own', m := m' } s = isFree st s := fun s => by
    refine isFree_eq (st := st) (st' := { st with own := own', m := m' }) rfl ?_
    have := hroot d s
    rw [mget_cons, mget_cons, hlen, h.lv, if_pos rfl, if_pos rfl, lget_nil, lget_nil] at this
    exact this
  refine h.turn (own' := own') (dead' := st.dead) (m' := m') (Gh.le.refl g) hrel hlen ⟨by rw [hu.size]; exact Nat.le_refl _, fun k hk hf => ⟨hu.off k fun he => hf.1 _ _ _ _ _ (he ▸ hb), fun _ => rfl⟩, fun _ _ _ x => x, fun _ _ _ _ _ x => x, fun _ _ _ => rfl, fun l s q b' o' t' x => .inl ⟨l, s, q, o', t', x⟩, fun l s b' r x => .inl ⟨l, s, r, x⟩, fun l s q x _ y => ⟨q, x, y⟩, hu.os, hu.tape, hu.output, rfl⟩ ?_ ?_ ?_
  · intro s q y hy; rw [hfree]; exact h.nm _ _ _ hy
  · intro s y hy; rw [hfree]; exact h.nmL _ _ hy
  · intro l s hl
    have := hroot l s
    rwa [mget_callers (by rw [hlen]; exact hl), mget_callers (by rw [h.lv]; exact hl)] at this
end
end Go.Proofs.Ytmffcpiffkclgaa.ZJM
