/- What holds of a frame under way: the invariant, and how each kind of step keeps it. -/
import Derived.Test.YtmffcpiffkclgaaZJ4
import Derived.Laws.AppendOwn
import Derived.Laws.OwnMore
set_option linter.unusedSimpArgs false
set_option linter.unusedVariables false
namespace Go.Proofs.Ytmffcpiffkclgaa.ZJM
open Go.RowKit

def TgC (tops : List (Nat × Nat × Nat)) (om : Nat → Value) (szm : Nat → Nat) : PV → Value → Prop
  | .lst (some n) _ sz xs, rv => ∃ p, get tops n = some p ∧ xs.length ≤ p.1 ∧ (p.1 = xs.length → rv = om n ∧ szm n = sz)
  | _, _ => True
def Tg (tops : List (Nat × Nat × Nat)) (om : Nat → Value) (szm : Nat → Nat) (v : PV) (rv : Value) : Prop :=
  match v with
  | .agg cs => ∀ vs, rv = .agg vs → ∀ (j : Nat) (c : PV), cs[j]? = some c → TgC tops om szm c (vs.getD j undef)
  | .tup cs => ∀ vs, rv = .tuple vs → ∀ (j : Nat) (c : PV), cs[j]? = some c → TgC tops om szm c (vs.getD j undef)
  | v => TgC tops om szm v rv

theorem TgC.untagged {tops : List (Nat × Nat × Nat)} {om : Nat → Value} {szm : Nat → Nat} {v : PV} {rv : Value} : TgC tops om szm v.untag1 rv := by cases v <;> trivial
/-- No tag in it. -/
def noTag : PV → Prop
  | .agg cs => ∀ c ∈ cs, c.untag1 = c
  | .tup cs => ∀ c ∈ cs, c.untag1 = c
  | v => v.untag1 = v
theorem TgC_of {tops : List (Nat × Nat × Nat)} {om : Nat → Value} {szm : Nat → Nat} {v : PV} {rv : Value} (h : v.untag1 = v) : TgC tops om szm v rv := by rw [← h]; exact TgC.untagged
theorem Tg_no {tops : List (Nat × Nat × Nat)} {om : Nat → Value} {szm : Nat → Nat} {v : PV} {rv : Value} (h : noTag v) : Tg tops om szm v rv := by
  cases v <;> first
    | exact fun vs _ j c hj => TgC_of (h c (getElem?_mem' hj))
    | exact TgC_of (tops := tops) (om := om) (szm := szm) (rv := rv) h
theorem noTag_untag {v : PV} (hv : v.isVal = true) (h : v.untag = v) : noTag v := by
  cases v with
  | agg cs =>
    simp only [PV.untag, PV.agg.injEq] at h
    intro c hc
    obtain ⟨j, hj⟩ := List.getElem?_of_mem hc
    have := congrArg (fun l => l[j]?) h
    simp only [List.getElem?_map, hj, Option.map_some, Option.some.injEq] at this
    exact this
  | tup => simp [PV.isVal, PV.isCell] at hv
  | _ => exact h
theorem Tg.untag {tops : List (Nat × Nat × Nat)} {om : Nat → Value} {szm : Nat → Nat} {v : PV} {rv : Value} (ht : ∀ cs, v ≠ .tup cs) : Tg tops om szm v.untag rv := by
  cases v with
  | agg cs =>
    simp only [PV.untag, Tg]
    intro vs _ j c hj
    rw [List.getElem?_map] at hj
    obtain ⟨d, _, rfl⟩ := Option.map_eq_some_iff.1 hj
    exact TgC.untagged
  | tup cs => exact absurd rfl (ht cs)
  | _ => simp only [PV.untag, PV.untag1, Tg]; trivial

/-- A block in which no variable lies. -/
def Gh.free (g : Gh) (b : Nat) : Prop := (∀ l s p o t, g.blk l s p ≠ some (b, o, t)) ∧ ∀ l s r, g.lp l s ≠ some (b, r)
/-- A frame's own growing list. -/
def Own (g : Gh) (w0 w : World) (om : Nat → Value) (szm : Nat → Nat) (n : Nat) (p : Nat × Nat) : Prop :=
  ∃ vals, w.ownsRow w0.heap.size p.2 (szm n) (om n) p.1 vals ∧ ∀ b, (om n).ownBlock = some b → g.free b ∧ ∀ j, g.G b j = vals[j]?

/-- What is kept of what was there when something began, at the levels below d. -/
structure Kp (d : Nat) (g0 : Gh) (w0 : World) (g : Gh) (w : World) : Prop where
  size : w0.heap.size ≤ w.heap.size
  keep : ∀ b, b < w0.heap.size → g0.free b → w.heap[b]? = w0.heap[b]? ∧ ∀ q, g.G b q = g0.G b q
  G : ∀ b o v, g0.G b o = some v → g.G b o = some v
  blk : ∀ l s p x, l < d → g0.blk l s p = some x → g.blk l s p = some x
  lpl : ∀ l s, l < d → g.lp l s = g0.lp l s
  new : ∀ l s p b o t, g.blk l s p = some (b, o, t) → (∃ l' s' p' o' t', g0.blk l' s' p' = some (b, o', t')) ∨ w0.heap.size ≤ b
  newL : ∀ l s b r, g.lp l s = some (b, r) → (∃ l' s' r', g0.lp l' s' = some (b, r')) ∨ w0.heap.size ≤ b
  root : ∀ l s p x, l < d → g.blk l s p = some x → ∃ q y, g0.blk l s q = some y
  os : w.os = w0.os
  tape : w.tape = w0.tape
  output : w.output = w0.output
  ok : g.ok = g0.ok
theorem Kp.refl (d : Nat) (g : Gh) (w : World) : Kp d g w g w :=
  ⟨Nat.le_refl _, fun _ _ _ => ⟨rfl, fun _ => rfl⟩, fun _ _ _ h => h, fun _ _ _ _ _ h => h, fun _ _ _ => rfl, fun l s p b o t h => .inl ⟨l, s, p, o, t, h⟩, fun l s b r h => .inl ⟨l, s, r, h⟩, fun l s p x _ h => ⟨p, x, h⟩, rfl, rfl, rfl, rfl⟩
theorem Kp.free {d : Nat} {g0 g : Gh} {w0 w : World} (h : Kp d g0 w0 g w) {b : Nat} (hb : b < w0.heap.size) (hf : g0.free b) : g.free b := by
  refine ⟨fun l s p o t hh => ?_, fun l s r hh => ?_⟩
  · rcases h.new _ _ _ _ _ _ hh with ⟨l', s', p', o', t', h2⟩ | h2
    · exact hf.1 _ _ _ _ _ h2
    · omega
  · rcases h.newL _ _ _ _ hh with ⟨l', s', r', h2⟩ | h2
    · exact hf.2 _ _ _ h2
    · omega
theorem Kp.trans {d : Nat} {g0 g g' : Gh} {w0 w w' : World} (h : Kp d g0 w0 g w) (k : Kp d g w g' w') : Kp d g0 w0 g' w' := by
  refine ⟨Nat.le_trans h.size k.size, fun b hb hf => ?_, fun b o v hv => k.G _ _ _ (h.G _ _ _ hv), fun l s p x hl hx => k.blk _ _ _ _ hl (h.blk _ _ _ _ hl hx), fun l s hl => (k.lpl l s hl).trans (h.lpl l s hl), fun l s p b o t hb => ?_,
    fun l s b r hb => ?_, fun l s p x hl hx => ?_, k.os.trans h.os, k.tape.trans h.tape, k.output.trans h.output, k.ok.trans h.ok⟩
  · obtain ⟨h1, h2⟩ := h.keep b hb hf
    obtain ⟨h3, h4⟩ := k.keep b (Nat.lt_of_lt_of_le hb h.size) (h.free hb hf)
    exact ⟨h3.trans h1, fun q => (h4 q).trans (h2 q)⟩
  · rcases k.new _ _ _ _ _ _ hb with ⟨l', s', p', o', t', h2⟩ | h2
    · exact h.new _ _ _ _ _ _ h2
    · exact .inr (Nat.le_trans h.size h2)
  · rcases k.newL _ _ _ _ hb with ⟨l', s', r', h2⟩ | h2
    · exact h.newL _ _ _ _ h2
    · exact .inr (Nat.le_trans h.size h2)
  · obtain ⟨q, y, h2⟩ := k.root _ _ _ _ hl hx
    exact h.root _ _ _ _ hl h2
/-- Marks of loops over functions alone. -/
def Marks (g : Gh) (w0 w : World) (ds : List Deferred) : Prop := ∀ x ∈ ds, ∃ D, x = { target := .collected D, args := #[] } ∧ w.heap[D]? = some (.deferred (some [])) ∧ w0.heap.size ≤ D ∧ g.free D

structure Inv (d nt : Nat) (m0 : Mem) (g0 : Gh) (w0 : World) (g : Gh) (om : Nat → Value) (szm : Nat → Nat) (st : St) (a : Act) (w : World) : Prop where
  rel : Rel g (st.own :: st.m) w
  lv : st.m.length = d
  f : ∀ t v, get st.f t = some v → t < nt ∧ V g v (a.tmps.getD t undef) ∧ Tg st.tops om szm v (a.tmps.getD t undef)
  nt : a.tmps.size = nt
  df : Marks g w0 w a.defers
  dn : a.defers.Nodup
  own : ∀ n p, get st.tops n = some p → Own g w0 w om szm n p
  apart : ∀ n n' p p', n ≠ n' → get st.tops n = some p → get st.tops n' = some p' → (om n).ownBlock = none ∨ (om n).ownBlock ≠ (om n').ownBlock
  kp : Kp d g0 w0 g w
  nm : ∀ s p x, g.blk d s p = some x → isFree st s = false
  nmL : ∀ s x, g.lp d s = some x → isFree st s = false
  roots : ∀ l s, l < d → (mget st.m l s []).isSome = (mget m0 l s []).isSome

theorem put_get (a : Act) {d : Nat} (v : Value) (h : d < a.tmps.size) (t : Nat) : (a.put (some d) v).tmps.getD t undef = if d = t then v else a.tmps.getD t undef := by
  simp only [Act.put, Array.getD_eq_getD_getElem?, Array.getElem?_setIfInBounds]
  by_cases hd : d = t
  · subst hd; simp [h]
  · simp [hd]
theorem ownsRow_grown {base : Nat} {e : TypeId} {size : Nat} {v : Value} {n : Nat} {xs : List Value} {w w' : World} (h : w.ownsRow base e size v n xs)
    (hb : ∀ b, v.ownBlock = some b → w'.heap[b]? = w.heap[b]?) : w'.ownsRow base e size v n xs := by
  refine ⟨h.1, ?_⟩
  rcases h.2 with h2 | ⟨g, cap, cur, h1, h2, h3, h4⟩
  · exact .inl h2
  · exact .inr ⟨g, cap, cur, h1, h2, by rw [hb g (by rw [h1]; rfl)]; exact h3, h4⟩

section
variable {d nt : Nat} {m0 : Mem} {g0 : Gh} {w0 : World} {g : Gh} {om : Nat → Value} {szm : Nat → Nat} {st : St} {a : Act} {w : World}

theorem Inv.put (h : Inv d nt m0 g0 w0 g om szm st a w) {dst : Option Nat} (hd : ∀ t, dst = some t → t < nt) {v : PV} {rv : Value} (hv : V g v rv) (ht : Tg st.tops om szm v rv) :
    Inv d nt m0 g0 w0 g om szm (st.put dst v) (a.put dst rv) w := by
  cases dst with
  | none => exact h
  | some t0 =>
    have hlt : t0 < a.tmps.size := by rw [h.nt]; exact hd t0 rfl
    refine ⟨h.rel, h.lv, fun t v' hv' => ?_, by simp [Act.put, h.nt], h.df, h.dn, h.own, h.apart, h.kp, h.nm, h.nmL, h.roots⟩
    simp only [St.put] at hv'
    rw [get_cons] at hv'
    rw [put_get a rv hlt]
    by_cases he : t0 = t
    · rw [if_pos he] at hv' ⊢
      cases hv'
      exact ⟨he ▸ hd t0 rfl, hv, ht⟩
    · rw [if_neg he] at hv' ⊢
      exact h.f t v' hv'
theorem Inv.ownLt (h : Inv d nt m0 g0 w0 g om szm st a w) {n : Nat} {p : Nat × Nat} {b : Nat} (hp : get st.tops n = some p) (hb : (om n).ownBlock = some b) : w0.heap.size ≤ b ∧ b < w.heap.size := by
  obtain ⟨vals, h1, _⟩ := h.own n p hp
  exact h1.lt b hb
/-- Memory, the world, and what is known of them change; the frame's slots do not. -/
theorem Inv.turn (h : Inv d nt m0 g0 w0 g om szm st a w) {g' : Gh} {w' : World} {own' : Lvl} {dead' : List Nat} {m' : Mem} (hle : g.le g') (hrel : Rel g' (own' :: m') w') (hlen : m'.length = d) (hk : Kp d g w g' w')
    (hnm : ∀ s p x, g'.blk d s p = some x → isFree { st with own := own', dead := dead', m := m' } s = false) (hnmL : ∀ s x, g'.lp d s = some x → isFree { st with own := own', dead := dead', m := m' } s = false)
    (hroots : ∀ l s, l < d → (mget m' l s []).isSome = (mget st.m l s []).isSome) : Inv d nt m0 g0 w0 g' om szm { st with own := own', dead := dead', m := m' } a w' := by
  refine ⟨hrel, hlen, fun t v hv => ?_, h.nt, fun x hx => ?_, h.dn, fun n p hp => ?_, h.apart, h.kp.trans hk, hnm, hnmL, fun l s hl => (hroots l s hl).trans (h.roots l s hl)⟩
  · obtain ⟨h1, h2, h3⟩ := h.f t v hv
    exact ⟨h1, h2.mono hle, h3⟩
  · obtain ⟨D, h1, h2, h3, h4⟩ := h.df x hx
    have hlt := (Array.getElem?_eq_some_iff.1 h2).1
    exact ⟨D, h1, by rw [(hk.keep D hlt h4).1]; exact h2, h3, hk.free hlt h4⟩
  · obtain ⟨vals, h1, h2⟩ := h.own n p hp
    refine ⟨vals, ownsRow_grown h1 fun b hb => (hk.keep b (h.ownLt hp hb).2 (h2 b hb).1).1, fun b hb => ?_⟩
    obtain ⟨h3, h4⟩ := h2 b hb
    exact ⟨hk.free (h.ownLt hp hb).2 h3, fun j => ((hk.keep b (h.ownLt hp hb).2 h3).2 j).trans (h4 j)⟩

theorem heap_alloc_at (w : World) (o : Obj) (b : Nat) : (w.alloc o).heap[b]? = if b = w.heap.size then some o else w.heap[b]? := by
  show (w.heap.push o)[b]? = _
  rw [Array.getElem?_push]
/-- A new block: what lay in the others lies there. -/
theorem heap_alloc_old (w : World) (o : Obj) {b : Nat} (hb : b < w.heap.size) : (w.alloc o).heap[b]? = w.heap[b]? := by rw [heap_alloc_at, if_neg (by omega)]
theorem Rel.G_lt {m : Mem} (hR : Rel g m w) {b o : Nat} {v : Value} (h : g.G b o = some v) : b < w.heap.size := by
  have := (hR.hG b o v h).1
  simp only [World.cell?] at this
  split at this
  · rename_i c _ _ he; exact (Array.getElem?_eq_some_iff.1 he).1
  · cases this
/-- The world changes where nothing lies that is known. -/
theorem Rel.world {m : Mem} (hR : Rel g m w) {w' : World} {g' : Gh} (hsz : w.heap.size ≤ w'.heap.size) (hG' : ∀ b o v, g'.G b o = some v → w'.cell? ⟨b, o, none⟩ = some v ∧ vcell v = true) (hle : ∀ b o v, g.G b o = some v → g'.G b o = some v)
    (hblk : g'.blk = g.blk) (hlp : g'.lp = g.lp) (hok : g'.ok = g.ok) (hcells : ∀ b C E, w.heap[b]? = some (.cells C E (0, 0)) → (∃ l s p o t cs, g.blk l s p = some (b, o, t) ∧ mget m l s p = some cs) → w'.heap[b]? = some (.cells C E (0, 0)) ∧ ∀ q, g'.G b q = g.G b q)
    (hloop : ∀ (b : Nat) (r : Loop), w.heap[b]? = some (.loop r) → w'.heap[b]? = some (.loop r)) : Rel g' m w' := by
  have hgl : g.le g' := ⟨hle, fun l s p x h => by rw [hblk]; exact h, fun l s x h => by rw [hlp]; exact h, hok⟩
  refine ⟨hG', fun lv sl p b o t hb cs hcs => ?_, fun lv sl l r hl cs hcs => ?_, fun l s p l' s' p' b o t o' t' cs cs' h1 h2 => ?_, fun l s l' s' b r r' cs cs' h1 h2 => ?_, fun lv sl p j v x h1 => ?_, fun l s p x h1 => ?_, fun l s x h1 => ?_, fun l s p b o t h1 => by rw [hblk] at h1; exact Nat.lt_of_lt_of_le (hR.bd _ _ _ _ _ _ h1) hsz, fun l s b r h1 => by rw [hlp] at h1; exact Nat.lt_of_lt_of_le (hR.bdL _ _ _ _ h1) hsz, fun lv sl q x y h1 => by rw [hblk] at h1 ⊢; exact hR.pre _ _ _ _ _ h1⟩
  · rw [hblk] at hb
    obtain ⟨C, E, h1, h2, h3, h4, h5⟩ := hR.hM _ _ _ _ _ _ hb _ hcs
    obtain ⟨h6, h7⟩ := hcells b C E h1 ⟨_, _, _, _, _, _, hb, hcs⟩
    exact ⟨C, E, h6, h2, h3, fun j c hj => (h4 j c hj).mono hgl, fun q => by rw [h7 q]; exact h5 q⟩
  · rw [hlp] at hl
    obtain ⟨s, h1, pn, h2⟩ := hR.hL _ _ _ _ hl _ hcs
    exact ⟨s, h1, pn, hloop _ _ h2⟩
  · rw [hblk] at h1 h2; exact hR.inj _ _ _ _ _ _ _ _ _ _ _ _ _ h1 h2
  · rw [hlp] at h1 h2; exact hR.injL _ _ _ _ _ _ _ _ _ h1 h2
  · rw [hblk] at h1; exact hR.ver _ _ _ _ _ _ h1
  · rw [hblk] at h1; exact hR.lv _ _ _ _ h1
  · rw [hlp] at h1; exact hR.lpv _ _ _ h1

theorem Rel.freeNew {m : Mem} (hR : Rel g m w) : g.free w.heap.size := ⟨fun l s p o t hh => Nat.lt_irrefl _ (hR.bd _ _ _ _ _ _ hh), fun l s r hh => Nat.lt_irrefl _ (hR.bdL _ _ _ _ hh)⟩
theorem Inv.freeNew (h : Inv d nt m0 g0 w0 g om szm st a w) : g.free w.heap.size := h.rel.freeNew
/-- A row of cells is made, which is never written again: its cells are known. -/
def Gh.row (g : Gh) (b : Nat) (C : Array Value) (n : Nat) : Gh := { g with G := fun b' j => if b' = b then (if j < n then C[j]? else none) else g.G b' j }
theorem Gh.row_le {m : Mem} (hR : Rel g m w) (C : Array Value) (n : Nat) : g.le (g.row w.heap.size C n) := by
  refine ⟨fun b o v h => ?_, fun _ _ _ _ h => h, fun _ _ _ h => h, rfl⟩
  have := hR.G_lt h
  simp only [Gh.row]
  rw [if_neg (by omega)]
  exact h
theorem Inv.row (h : Inv d nt m0 g0 w0 g om szm st a w) {C : Array Value} {E : TypeId} {n : Nat} (hC : ∀ j v, C[j]? = some v → j < n → vcell v = true) :
    Inv d nt m0 g0 w0 (g.row w.heap.size C n) om szm st a (w.alloc (.cells C E (0, 0))) := by
  have hle := Gh.row_le h.rel C n
  have hGo : ∀ b, b < w.heap.size → ∀ q, (g.row w.heap.size C n).G b q = g.G b q := fun b hb q => by simp only [Gh.row]; rw [if_neg (by omega)]
  have := h.turn (g' := g.row w.heap.size C n) (w' := w.alloc (.cells C E (0, 0))) (own' := st.own) (dead' := st.dead) (m' := st.m) hle
    (h.rel.world (by simp) (fun b o v hb => by
      simp only [Gh.row] at hb
      by_cases he : b = w.heap.size
      · rw [if_pos he] at hb
        split at hb
        · rename_i hlt
          refine ⟨?_, hC o v hb hlt⟩
          simp only [World.cell?, heap_alloc_at, if_pos he]
          simpa using hb
        · cases hb
      · rw [if_neg he] at hb
        obtain ⟨h1, h2⟩ := h.rel.hG b o v hb
        refine ⟨?_, h2⟩
        have hlt := h.rel.G_lt hb
        simp only [World.cell?, heap_alloc_old _ _ hlt]
        simpa [World.cell?] using h1) hle.G rfl rfl rfl
      (fun b C' E' hb _ => by
        have hlt := (Array.getElem?_eq_some_iff.1 hb).1
        exact ⟨by rw [heap_alloc_old _ _ hlt]; exact hb, hGo b hlt⟩)
      (fun b r hb => by
        have hlt := (Array.getElem?_eq_some_iff.1 hb).1
        rw [heap_alloc_old _ _ hlt]; exact hb)) h.lv
    ⟨by simp, fun b hb _ => ⟨heap_alloc_old _ _ hb, hGo b hb⟩, hle.G, fun _ _ _ _ _ x => x, fun _ _ _ => rfl, fun l s p b o t x => .inl ⟨l, s, p, o, t, x⟩, fun l s b r x => .inl ⟨l, s, r, x⟩, fun l s p x _ y => ⟨p, x, y⟩, rfl, rfl, rfl, rfl⟩
    h.nm h.nmL (fun _ _ _ => rfl)
  exact this

/-- A new tag. -/
theorem TgC.cons {tops : List (Nat × Nat × Nat)} {om om' : Nat → Value} {szm szm' : Nat → Nat} {n : Nat} {p : Nat × Nat} (hn : get tops n = none ∨ ∃ q, get tops n = some q ∧ q.1 = 0 ∧ p.1 ≠ 0)
    (ho : ∀ k, k ≠ n → om' k = om k ∧ szm' k = szm k) {v : PV} {rv : Value} (h : TgC tops om szm v rv) : TgC ((n, p) :: tops) om' szm' v rv := by
  cases v with
  | lst o nl sz xs =>
    cases o with
    | none => trivial
    | some k =>
      obtain ⟨q, h1, h2, h3⟩ := h
      by_cases hk : n = k
      · subst hk
        rcases hn with hn | ⟨q', hq, h0, hp⟩
        · rw [hn] at h1; cases h1
        · rw [hq] at h1; cases h1
          exact ⟨p, by rw [get_cons, if_pos rfl], by omega, fun he => by omega⟩
      · refine ⟨q, by rw [get_cons, if_neg hk]; exact h1, h2, fun he => ?_⟩
        rw [(ho k (Ne.symm hk)).1, (ho k (Ne.symm hk)).2]
        exact h3 he
  | _ => trivial
theorem Tg.of_cells {tops tops' : List (Nat × Nat × Nat)} {om om' : Nat → Value} {szm szm' : Nat → Nat} (hc : ∀ v rv, TgC tops om szm v rv → TgC tops' om' szm' v rv) {v : PV} {rv : Value}
    (h : Tg tops om szm v rv) : Tg tops' om' szm' v rv := by
  cases v with
  | agg cs => exact fun vs hv j c hj => hc _ _ (h vs hv j c hj)
  | tup cs => exact fun vs hv j c hj => hc _ _ (h vs hv j c hj)
  | _ => simp only [Tg] at h ⊢; exact hc _ _ h
theorem Inv.tag (h : Inv d nt m0 g0 w0 g om szm st a w) {n : Nat} {p : Nat × Nat} {rv : Value} {sz : Nat} (hn : get st.tops n = none ∨ ∃ q, get st.tops n = some q ∧ q.1 = 0 ∧ p.1 ≠ 0)
    (hown : ∃ vals, w.ownsRow w0.heap.size p.2 sz rv p.1 vals ∧ ∀ b, rv.ownBlock = some b → g.free b ∧ ∀ j, g.G b j = vals[j]?)
    (hap : ∀ k q b, get st.tops k = some q → k ≠ n → (om k).ownBlock = some b → rv.ownBlock ≠ some b) :
    Inv d nt m0 g0 w0 g (fun k => if k = n then rv else om k) (fun k => if k = n then sz else szm k) { st with tops := (n, p) :: st.tops } a w := by
  have ho : ∀ k, k ≠ n → (fun k => if k = n then rv else om k) k = om k ∧ (fun k => if k = n then sz else szm k) k = szm k := fun k hk => by simp [hk]
  have hT : ∀ v r, TgC st.tops om szm v r → TgC ((n, p) :: st.tops) (fun k => if k = n then rv else om k) (fun k => if k = n then sz else szm k) v r := fun v r => TgC.cons hn ho
  refine ⟨h.rel, h.lv, fun t v hv => ?_, h.nt, h.df, h.dn, fun k q hq => ?_, fun k k' q q' hk hq hq' => ?_, h.kp, h.nm, h.nmL, h.roots⟩
  · obtain ⟨h1, h2, h3⟩ := h.f t v hv
    exact ⟨h1, h2, Tg.of_cells hT h3⟩
  · rw [get_cons] at hq
    by_cases hk : n = k
    · rw [if_pos hk] at hq; cases hq; subst hk
      simpa [Own] using hown
    · rw [if_neg hk] at hq
      have := h.own k q hq
      simpa [Own, Ne.symm hk] using this
  · rw [get_cons] at hq hq'
    by_cases hk1 : n = k
    · subst hk1
      rw [if_neg hk] at hq'
      simp only [if_true, Ne.symm hk, if_false]
      cases hb : (om k').ownBlock with
      | none => cases hr : rv.ownBlock <;> simp
      | some b =>
        have := hap k' q' b hq' (Ne.symm hk) hb
        exact .inr this
    · rw [if_neg hk1] at hq
      by_cases hk2 : n = k'
      · subst hk2
        simp only [if_true, Ne.symm hk1, if_false]
        cases hb : (om k).ownBlock with
        | none => exact .inl rfl
        | some b =>
          have := hap k q b hq (Ne.symm hk1) hb
          exact .inr (fun he => this he.symm)
      · rw [if_neg hk2] at hq'
        simp only [Ne.symm hk1, Ne.symm hk2, if_false]
        exact h.apart k k' q q' hk hq hq'
end
end Go.Proofs.Ytmffcpiffkclgaa.ZJM
