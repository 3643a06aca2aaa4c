/- What holds of a frame under way: the invariant, and how each kind of step keeps it. -/
import Derived.Test.YtbbpkkeaddbcnaaZIM4
import Derived.Laws.AppendOwn
import Derived.Laws.OwnMore
set_option linter.unusedSimpArgs false
set_option linter.unusedVariables false
namespace Go.Proofs.Ytbbpkkeaddbcnaa.ZIM
open Go.RowKit

theorem get_cons {α : Type} (s : Nat) (v : α) (r : List (Nat × α)) (t : Nat) : get ((s, v) :: r) t = if s = t then some v else get r t := by
  simp only [get]
  by_cases h : s = t
  · simp [h]
  · simp [h]
theorem get_upd {α : Type} : ∀ {l l' : List (Nat × α)} {t : Nat} {x : α}, upd l t x = some l' → ∀ s, get l' s = if t = s then some x else get l s
  | [], _, _, _, h, _ => by simp [upd] at h
  | p :: r, l', t, x, h, s => by
    simp only [upd] at h
    split at h
    · rename_i he
      have := beq_iff_eq.1 he
      cases h
      obtain ⟨p1, p2⟩ := p
      simp only at this
      subst this
      rw [get_cons, get_cons]
      by_cases hs : p1 = s <;> simp [hs]
    · rename_i he
      obtain ⟨r', hr, rfl⟩ := Option.map_eq_some_iff.1 h
      obtain ⟨p1, p2⟩ := p
      simp only [beq_iff_eq] at he
      rw [get_cons, get_cons, get_upd hr s]
      by_cases hs : p1 = s
      · subst hs; simp [Ne.symm he]
      · simp [hs]
theorem get_upd_some {α : Type} : ∀ {l l' : List (Nat × α)} {t : Nat} {x : α}, upd l t x = some l' → ∃ y, get l t = some y
  | [], _, _, _, h => by simp [upd] at h
  | p :: r, l', t, x, h => by
    simp only [upd] at h
    split at h
    · rename_i he; exact ⟨p.2, by simp [get, he]⟩
    · rename_i he
      obtain ⟨r', hr, rfl⟩ := Option.map_eq_some_iff.1 h
      obtain ⟨y, hy⟩ := get_upd_some hr
      exact ⟨y, by simp [get, he, hy]⟩

def TgC (tops : List (Nat × Nat × Nat)) (om : Nat → Value) (szm : Nat → Nat) : PV → Value → Prop
  | .lst (some n) _ sz xs, rv => ∃ p, get tops n = some p ∧ xs.length ≤ p.1 ∧ (p.1 = xs.length → rv = om n ∧ szm n = sz)
  | _, _ => True
def Tg (tops : List (Nat × Nat × Nat)) (om : Nat → Value) (szm : Nat → Nat) (v : PV) (rv : Value) : Prop :=
  match v with
  | .agg cs => ∀ vs, rv = .agg vs → ∀ j c, cs[j]? = some c → TgC tops om szm c (vs.getD j undef)
  | v => TgC tops om szm v rv

theorem TgC.untagged {tops : List (Nat × Nat × Nat)} {om : Nat → Value} {szm : Nat → Nat} {v : PV} {rv : Value} : TgC tops om szm v.untag1 rv := by cases v <;> trivial
theorem Tg.untag {tops : List (Nat × Nat × Nat)} {om : Nat → Value} {szm : Nat → Nat} {v : PV} {rv : Value} : Tg tops om szm v.untag rv := by
  cases v with
  | agg cs =>
    simp only [PV.untag, Tg]
    intro vs _ j c hj
    rw [List.getElem?_map] at hj
    obtain ⟨d, _, rfl⟩ := Option.map_eq_some_iff.1 hj
    exact TgC.untagged
  | _ => simp only [PV.untag, PV.untag1, Tg]; trivial

/-- A frame's own growing list. -/
def Own (g : Gh) (w0 w : World) (om : Nat → Value) (szm : Nat → Nat) (n : Nat) (p : Nat × Nat) : Prop :=
  ∃ vals, w.ownsRow w0.heap.size p.2 (szm n) (om n) p.1 vals ∧ ∀ b, (om n).ownBlock = some b → (∀ l s, g.blk l s ≠ some b) ∧ ∀ j, g.G b j = vals[j]?

/-- What a call keeps of what was there when it began. -/
structure Kp (d : Nat) (g0 : Gh) (w0 : World) (g : Gh) (w : World) : Prop where
  size : w0.heap.size ≤ w.heap.size
  heap : ∀ b, b < w0.heap.size → (∀ l s, g0.blk l s ≠ some b) → w.heap[b]? = w0.heap[b]?
  G : ∀ b o v, g0.G b o = some v → g.G b o = some v
  Gold : ∀ b o, b < w0.heap.size → g.G b o = g0.G b o
  blk : ∀ l s, l < d → g.blk l s = g0.blk l s
  os : w.os = w0.os
  tape : w.tape = w0.tape
  output : w.output = w0.output
  new : ∀ l s b, d ≤ l → g.blk l s = some b → w0.heap.size ≤ b

/-- What the callers' variables hold is tagged only where it has not turned. -/
def Mt (m0 : Mem) (w0 : World) (g : Gh) (m : Mem) (w : World) : Prop :=
  ∀ l s cs b, mget m l s = some cs → g.blk l s = some b → ∀ j c, cs[j]? = some c → c.untag1 = c ∨ ∃ cs0, mget m0 l s = some cs0 ∧ cs0[j]? = some c ∧ w.cell? ⟨b, j, none⟩ = w0.cell? ⟨b, j, none⟩

structure Inv (d nt : Nat) (m0 : Mem) (g0 : Gh) (w0 : World) (g : Gh) (om : Nat → Value) (szm : Nat → Nat) (st : St) (a : Act) (w : World) : Prop where
  rel : Rel g (st.own :: st.m) w
  lv : st.m.length = d
  f : ∀ t v, get st.f t = some v → t < nt ∧ V g v (a.tmps.getD t undef) ∧ Tg st.tops om szm v (a.tmps.getD t undef)
  nt : a.tmps.size = nt
  df : a.defers = []
  tb : ∀ sl cs b C E, get st.own sl = some cs → g.blk d sl = some b → w.heap[b]? = some (.cells C E (0, 0)) → ∀ j c, cs[j]? = some c → TgC st.tops om szm c (C.getD j undef)
  own : ∀ n p, get st.tops n = some p → Own g w0 w om szm n p
  apart : ∀ n n' p p', n ≠ n' → get st.tops n = some p → get st.tops n' = some p' → (om n).ownBlock = none ∨ (om n).ownBlock ≠ (om n').ownBlock
  kp : Kp d g0 w0 g w
  mt : Mt m0 w0 g st.m w

theorem put_get (a : Act) {d : Nat} (v : Value) (h : d < a.tmps.size) (t : Nat) : (a.put (some d) v).tmps.getD t undef = if d = t then v else a.tmps.getD t undef := by
  simp only [Act.put, Array.getD_eq_getD_getElem?, Array.getElem?_setIfInBounds]
  by_cases hd : d = t
  · subst hd; simp [h]
  · simp [hd]

section
variable {d nt : Nat} {m0 : Mem} {g0 : Gh} {w0 : World} {g : Gh} {om : Nat → Value} {szm : Nat → Nat} {st : St} {a : Act} {w : World}

theorem Inv.put (h : Inv d nt m0 g0 w0 g om szm st a w) {dst : Option Nat} (hd : ∀ t, dst = some t → t < nt) {v : PV} {rv : Value} (hv : V g v rv) (ht : Tg st.tops om szm v rv) :
    Inv d nt m0 g0 w0 g om szm (st.put dst v) (a.put dst rv) w := by
  cases dst with
  | none => exact h
  | some t0 =>
    have hlt : t0 < a.tmps.size := by rw [h.nt]; exact hd t0 rfl
    refine ⟨h.rel, h.lv, fun t v' hv' => ?_, by simp [Act.put, h.nt], h.df, h.tb, h.own, h.apart, h.kp, h.mt⟩
    simp only [St.put] at hv'
    rw [get_cons] at hv'
    rw [put_get a rv hlt]
    by_cases he : t0 = t
    · rw [if_pos he] at hv' ⊢
      cases hv'
      exact ⟨he ▸ hd t0 rfl, hv, ht⟩
    · rw [if_neg he] at hv' ⊢
      exact h.f t v' hv'

theorem ownsRow_grown {base : Nat} {e : TypeId} {size : Nat} {v : Value} {n : Nat} {xs : List Value} {w w' : World} (h : w.ownsRow base e size v n xs)
    (hb : ∀ b, v.ownBlock = some b → w'.heap[b]? = w.heap[b]?) : w'.ownsRow base e size v n xs := by
  refine ⟨h.1, ?_⟩
  rcases h.2 with h2 | ⟨g, cap, cur, h1, h2, h3, h4⟩
  · exact .inl h2
  · exact .inr ⟨g, cap, cur, h1, h2, by rw [hb g (by rw [h1]; rfl)]; exact h3, h4⟩

theorem Mt.world {m : Mem} {d : Nat} {w0 w w' : World} {g g' : Gh} (h : Mt m0 w0 g m w) (hl : m.length = d) (hblk : ∀ l s b, l < d → g'.blk l s = some b → g.blk l s = some b ∧ w'.heap[b]? = w.heap[b]?) : Mt m0 w0 g' m w' := by
  intro l s cs b hm hb j c hj
  obtain ⟨h1, h2⟩ := hblk l s b (by have := mget_lt hm; omega) hb
  rcases h l s cs b hm h1 j c hj with h3 | ⟨cs0, h3, h4, h5⟩
  · exact .inl h3
  · refine .inr ⟨cs0, h3, h4, ?_⟩
    rw [← h5]
    simp only [World.cell?, h2]
/-- The world and what is known of it change, the frame does not. -/
theorem Inv.world (h : Inv d nt m0 g0 w0 g om szm st a w) {g' : Gh} {w' : World} (hle : g.le g') (hrel : Rel g' (st.own :: st.m) w')
    (hown : ∀ n p b, get st.tops n = some p → (om n).ownBlock = some b → w'.heap[b]? = w.heap[b]? ∧ (∀ l s, g'.blk l s ≠ some b) ∧ ∀ j, g'.G b j = g.G b j)
    (htb : ∀ sl cs b C E, get st.own sl = some cs → g'.blk d sl = some b → w'.heap[b]? = some (.cells C E (0, 0)) → ∀ j c, cs[j]? = some c → TgC st.tops om szm c (C.getD j undef))
    (hkp : Kp d g0 w0 g' w') (hblk : ∀ l s b, l < d → g'.blk l s = some b → g.blk l s = some b ∧ w'.heap[b]? = w.heap[b]?) : Inv d nt m0 g0 w0 g' om szm st a w' := by
  refine ⟨hrel, h.lv, fun t v hv => ?_, h.nt, h.df, htb, fun n p hp => ?_, h.apart, hkp, h.mt.world h.lv hblk⟩
  · obtain ⟨h1, h2, h3⟩ := h.f t v hv
    exact ⟨h1, h2.mono hle, h3⟩
  · obtain ⟨vals, h1, h2⟩ := h.own n p hp
    refine ⟨vals, ownsRow_grown h1 fun b hb => (hown n p b hp hb).1, fun b hb => ?_⟩
    obtain ⟨_, h4, h5⟩ := hown n p b hp hb
    exact ⟨h4, fun j => (h5 j).trans ((h2 b hb).2 j)⟩

theorem Inv.ownLt (h : Inv d nt m0 g0 w0 g om szm st a w) {n : Nat} {p : Nat × Nat} {b : Nat} (hp : get st.tops n = some p) (hb : (om n).ownBlock = some b) : w0.heap.size ≤ b ∧ b < w.heap.size := by
  obtain ⟨vals, h1, _⟩ := h.own n p hp
  exact h1.lt b hb
theorem Rel.blkLt {m : Mem} (hR : Rel g m w) {l s b : Nat} (hb : g.blk l s = some b) : b < w.heap.size := by
  obtain ⟨cs, C, E, _, h, _⟩ := hR.hM l s b hb
  exact (Array.getElem?_eq_some_iff.1 h).1
theorem heap_alloc_at (w : World) (o : Obj) (b : Nat) : (w.alloc o).heap[b]? = if b = w.heap.size then some o else w.heap[b]? := by
  show (w.heap.push o)[b]? = _
  rw [Array.getElem?_push]

/-- A row of cells is made, which is never written again: its cells are known. -/
def Gh.row (g : Gh) (b : Nat) (C : Array Value) (n : Nat) : Gh := { g with G := fun b' j => if b' = b then (if j < n then C[j]? else none) else g.G b' j }
theorem Rel.G_lt {m : Mem} (hR : Rel g m w) {b o : Nat} {v : Value} (h : g.G b o = some v) : b < w.heap.size := by
  have := (hR.hG b o v h).1
  simp only [World.cell?] at this
  split at this
  · rename_i c _ _ he; exact (Array.getElem?_eq_some_iff.1 he).1
  · cases this
theorem Gh.row_le {m : Mem} (hR : Rel g m w) (C : Array Value) (n : Nat) : g.le (g.row w.heap.size C n) := by
  refine ⟨fun b o v h => ?_, fun _ _ _ h => h⟩
  have := hR.G_lt h
  simp only [Gh.row]
  rw [if_neg (by omega)]
  exact h
theorem Inv.row (h : Inv d nt m0 g0 w0 g om szm st a w) {C : Array Value} {E : TypeId} {n : Nat} (hC : ∀ j v, C[j]? = some v → j < n → vcell v = true) :
    Inv d nt m0 g0 w0 (g.row w.heap.size C n) om szm st a (w.alloc (.cells C E (0, 0))) := by
  have hle := Gh.row_le h.rel C n
  have hold : ∀ b, b < w.heap.size → (w.alloc (.cells C E (0, 0))).heap[b]? = w.heap[b]? := fun b hb => by rw [heap_alloc_at, if_neg (by omega)]
  refine h.world hle ⟨?_, ?_, h.rel.inj⟩ ?_ ?_ ?_ (fun l s b _ hb => ⟨hb, hold b (h.rel.blkLt hb)⟩)
  · intro b o v hb
    simp only [Gh.row] at hb
    by_cases he : b = w.heap.size
    · rw [if_pos he] at hb
      split at hb
      · rename_i hlt
        refine ⟨?_, hC o v hb hlt⟩
        simp only [World.cell?, heap_alloc_at, if_pos he]
        simpa using hb
      · cases hb
    · rw [if_neg he] at hb
      obtain ⟨h1, h2⟩ := h.rel.hG b o v hb
      refine ⟨?_, h2⟩
      have hlt := h.rel.G_lt hb
      simp only [World.cell?, hold b hlt]
      simpa [World.cell?] using h1
  · intro l s b hb
    obtain ⟨cs, C', E', h1, h2, h3, h4, h5⟩ := h.rel.hM l s b hb
    have hlt := h.rel.blkLt hb
    refine ⟨cs, C', E', h1, by rw [hold b hlt]; exact h2, h3, fun j c hj => ?_, fun o => ?_⟩
    · obtain ⟨a1, a2, a3⟩ := h4 j c hj; exact ⟨a1, a2, a3.mono hle⟩
    · simp only [Gh.row]; rw [if_neg (by omega)]; exact h5 o
  · intro n' p b hp hb
    have hlt := (h.ownLt hp hb).2
    obtain ⟨vals, _, h2⟩ := h.own n' p hp
    exact ⟨hold b hlt, (h2 b hb).1, fun j => by simp only [Gh.row]; rw [if_neg (by omega)]⟩
  · intro sl cs b C' E' hs hb hh
    have hlt := h.rel.blkLt hb
    rw [hold b hlt] at hh
    exact h.tb sl cs b C' E' hs hb hh
  · refine ⟨by simp; have := h.kp.size; omega, fun b hb hn => ?_, fun b o v hv => hle.G _ _ _ (h.kp.G _ _ _ hv), fun b o hb => ?_, h.kp.blk, h.kp.os, h.kp.tape, h.kp.output, h.kp.new⟩
    · rw [hold b (by have := h.kp.size; omega)]; exact h.kp.heap b hb hn
    · simp only [Gh.row]; rw [if_neg (by have := h.kp.size; omega)]; exact h.kp.Gold b o hb

/-- A new tag. -/
theorem TgC.cons {tops : List (Nat × Nat × Nat)} {om om' : Nat → Value} {szm szm' : Nat → Nat} {n : Nat} {p : Nat × Nat} (hn : get tops n = none ∨ ∃ q, get tops n = some q ∧ q.1 = 0 ∧ p.1 ≠ 0)
    (ho : ∀ k, k ≠ n → om' k = om k ∧ szm' k = szm k) {v : PV} {rv : Value} (h : TgC tops om szm v rv) : TgC ((n, p) :: tops) om' szm' v rv := by
  cases v with
  | lst o nl sz xs =>
    cases o with
    | none => trivial
    | some k =>
      obtain ⟨q, h1, h2, h3⟩ := h
      by_cases hk : n = k
      · subst hk
        rcases hn with hn | ⟨q', hq, h0, hp⟩
        · rw [hn] at h1; cases h1
        · rw [hq] at h1; cases h1
          exact ⟨p, by rw [get_cons, if_pos rfl], by omega, fun he => by omega⟩
      · refine ⟨q, by rw [get_cons, if_neg hk]; exact h1, h2, fun he => ?_⟩
        rw [(ho k (Ne.symm hk)).1, (ho k (Ne.symm hk)).2]
        exact h3 he
  | _ => trivial
theorem Tg.of_cells {tops tops' : List (Nat × Nat × Nat)} {om om' : Nat → Value} {szm szm' : Nat → Nat} (hc : ∀ v rv, TgC tops om szm v rv → TgC tops' om' szm' v rv) {v : PV} {rv : Value}
    (h : Tg tops om szm v rv) : Tg tops' om' szm' v rv := by
  cases v with
  | agg cs =>
    exact fun vs hv j c hj => hc _ _ (h vs hv j c hj)
  | _ => simp only [Tg] at h ⊢; exact hc _ _ h
theorem Inv.tag (h : Inv d nt m0 g0 w0 g om szm st a w) {n : Nat} {p : Nat × Nat} {rv : Value} {sz : Nat} (hn : get st.tops n = none ∨ ∃ q, get st.tops n = some q ∧ q.1 = 0 ∧ p.1 ≠ 0)
    (hown : ∃ vals, w.ownsRow w0.heap.size p.2 sz rv p.1 vals ∧ ∀ b, rv.ownBlock = some b → (∀ l s, g.blk l s ≠ some b) ∧ ∀ j, g.G b j = vals[j]?)
    (hap : ∀ k q b, get st.tops k = some q → k ≠ n → (om k).ownBlock = some b → rv.ownBlock ≠ some b) :
    Inv d nt m0 g0 w0 g (fun k => if k = n then rv else om k) (fun k => if k = n then sz else szm k) { st with tops := (n, p) :: st.tops } a w := by
  have ho : ∀ k, k ≠ n → (fun k => if k = n then rv else om k) k = om k ∧ (fun k => if k = n then sz else szm k) k = szm k := fun k hk => by simp [hk]
  have hT : ∀ v r, TgC st.tops om szm v r → TgC ((n, p) :: st.tops) (fun k => if k = n then rv else om k) (fun k => if k = n then sz else szm k) v r := fun v r => TgC.cons hn ho
  refine ⟨h.rel, h.lv, fun t v hv => ?_, h.nt, h.df, fun sl cs b C E hs hb hh j c hj => hT _ _ (h.tb sl cs b C E hs hb hh j c hj), fun k q hq => ?_, fun k k' q q' hk hq hq' => ?_, h.kp, h.mt⟩
  · obtain ⟨h1, h2, h3⟩ := h.f t v hv
    exact ⟨h1, h2, Tg.of_cells hT h3⟩
  · rw [get_cons] at hq
    by_cases hk : n = k
    · rw [if_pos hk] at hq; cases hq; subst hk
      simpa [Own] using hown
    · rw [if_neg hk] at hq
      have := h.own k q hq
      simpa [Own, Ne.symm hk] using this
  · rw [get_cons] at hq hq'
    by_cases hk1 : n = k
    · subst hk1
      rw [if_neg hk] at hq'
      simp only [if_true, Ne.symm hk, if_false]
      cases hb : (om k').ownBlock with
      | none => cases hr : rv.ownBlock <;> simp
      | some b =>
        have := hap k' q' b hq' (Ne.symm hk) hb
        exact .inr this
    · rw [if_neg hk1] at hq
      by_cases hk2 : n = k'
      · subst hk2
        simp only [if_true, Ne.symm hk1, if_false]
        cases hb : (om k).ownBlock with
        | none => exact .inl rfl
        | some b =>
          have := hap k q b hq (Ne.symm hk1) hb
          exact .inr (fun he => this he.symm)
      · rw [if_neg hk2] at hq'
        simp only [Ne.symm hk1, Ne.symm hk2, if_false]
        exact h.apart k k' q q' hk hq hq'
end
end Go.Proofs.Ytbbpkkeaddbcnaa.ZIM
