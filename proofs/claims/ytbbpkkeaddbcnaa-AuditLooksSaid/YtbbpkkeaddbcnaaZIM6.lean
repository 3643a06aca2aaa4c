/- Steps that change the world: a new variable, a store, a new list, append, and what a loop's head keeps. -/
import Derived.Test.YtbbpkkeaddbcnaaZIM5
import Derived.Maps.AppendAt
set_option linter.unusedSimpArgs false
set_option linter.unusedVariables false
namespace Go.Proofs.Ytbbpkkeaddbcnaa.ZIM
open Go.RowKit

section
variable {P : Program} {d nt : Nat} {m0 : Mem} {g0 : Gh} {w0 : World} {g : Gh} {om : Nat → Value} {szm : Nat → Nat} {st : St} {a : Act} {w : World}

/-! ### a variable in memory -/
def Gh.var (g : Gh) (lv sl b : Nat) : Gh := { g with blk := fun l s => if l = lv ∧ s = sl then some b else g.blk l s }
theorem mget_own (own : Lvl) (m : Mem) (sl : Nat) : mget (own :: m) m.length sl = get own sl := by simp [mget_cons]
theorem Inv.blkNone (h : Inv d nt m0 g0 w0 g om szm st a w) {sl : Nat} (hn : get st.own sl = none) : g.blk d sl = none := by
  cases hb : g.blk d sl with
  | none => rfl
  | some b =>
    obtain ⟨cs, _, _, hm, _⟩ := h.rel.hM _ _ _ hb
    rw [← h.lv, mget_own, hn] at hm
    cases hm

theorem Inv.newVar0 (h : Inv d nt m0 g0 w0 g om szm st a w) {dst : Nat} (hn : get st.own dst = none) {cs : List PV} {C : Array Value} {E : TypeId} (hl : cs.length = C.size)
    (hc : ∀ j c, cs[j]? = some c → c.isCell = true ∧ V g c (C.getD j undef) ∧ TgC st.tops om szm c (C.getD j undef)) :
    ∃ g', Inv d nt m0 g0 w0 g' om szm { st with own := (dst, cs) :: st.own } a (w.alloc (.cells C E (0, 0))) ∧ g'.blk d dst = some w.heap.size := by
  have hb0 := h.blkNone hn
  have hle : g.le (g.var d dst w.heap.size) := by
    refine ⟨fun _ _ _ x => x, fun l s b hb => ?_⟩
    simp only [Gh.var]
    split
    · rename_i he; rw [he.1, he.2, hb0] at hb; cases hb
    · exact hb
  have hold : ∀ b, b < w.heap.size → (w.alloc (.cells C E (0, 0))).heap[b]? = w.heap[b]? := fun b hb => by rw [heap_alloc_at, if_neg (by omega)]
  have hget : ∀ l s, mget (((dst, cs) :: st.own) :: st.m) l s = if l = d ∧ s = dst then some cs else mget (st.own :: st.m) l s := by
    intro l s
    rw [mget_cons, mget_cons, h.lv]
    by_cases hl' : l = d
    · subst hl'
      simp only [beq_self_eq_true, if_true, true_and, get_cons]
      by_cases hs : dst = s
      · subst hs; simp
      · rw [if_neg hs, if_neg (Ne.symm hs)]
    · rw [if_neg (by simpa using hl'), if_neg (by simp [hl']), if_neg (by simpa using hl')]
  have hdep : ∀ l s b, g.blk l s = some b → l < d + 1 := fun l s b hb => by have := h.rel.lt l s b hb; simp only [List.length_cons, h.lv] at this; omega
  have h1 : Inv d nt m0 g0 w0 (g.var d dst w.heap.size) om szm { st with own := (dst, cs) :: st.own } a (w.alloc (.cells C E (0, 0))) := by
    refine ⟨⟨?_, ?_, ?_⟩, h.lv, fun t v hv => ?_, h.nt, h.df, ?_, ?_, h.apart, ?_, h.mt.world h.lv (fun l s b hl' hb => by
      simp only [Gh.var] at hb
      rw [if_neg (by omega)] at hb
      exact ⟨hb, hold b (h.rel.blkLt hb)⟩)⟩
    · intro b o v hb
      have hb' : g.G b o = some v := hb
      obtain ⟨x, y⟩ := h.rel.hG b o v hb'
      have hlt := h.rel.G_lt hb'
      refine ⟨?_, y⟩
      simp only [World.cell?, hold b hlt]
      simpa [World.cell?] using x
    · intro l s b hb
      simp only [Gh.var] at hb
      split at hb
      · rename_i he
        cases hb
        refine ⟨cs, C, E, by rw [hget, if_pos he], by rw [heap_alloc_at, if_pos rfl], hl, fun j c hj => ?_, fun o => ?_⟩
        · obtain ⟨x, y, _⟩ := hc j c hj
          exact ⟨x, by rw [he.1]; exact y.depAll hdep, y.mono hle⟩
        · cases hg : g.G w.heap.size o with
          | none => exact hg
          | some v => have := h.rel.G_lt hg; omega
      · rename_i he
        obtain ⟨cs', C', E', a1, a2, a3, a4, a5⟩ := h.rel.hM l s b hb
        have hlt := h.rel.blkLt hb
        refine ⟨cs', C', E', by rw [hget, if_neg he]; exact a1, by rw [hold b hlt]; exact a2, a3, fun j c hj => ?_, a5⟩
        obtain ⟨x, y, z⟩ := a4 j c hj
        exact ⟨x, y, z.mono hle⟩
    · intro l s l' s' b hb hb'
      simp only [Gh.var] at hb hb'
      split at hb <;> split at hb'
      · rename_i x y; exact ⟨x.1.trans y.1.symm, x.2.trans y.2.symm⟩
      · cases hb; have := h.rel.blkLt hb'; omega
      · cases hb'; have := h.rel.blkLt hb; omega
      · exact h.rel.inj _ _ _ _ _ hb hb'
    · obtain ⟨x, y, z⟩ := h.f t v hv
      exact ⟨x, y.mono hle, z⟩
    · intro sl cs' b C' E' hs hb hh j c hj
      rw [get_cons] at hs
      simp only [Gh.var] at hb
      by_cases he : dst = sl
      · rw [if_pos he] at hs; cases hs
        rw [if_pos (by simp [he])] at hb; cases hb
        rw [heap_alloc_at, if_pos rfl] at hh; cases hh
        exact (hc j c hj).2.2
      · rw [if_neg he] at hs
        rw [if_neg (by intro x; exact he x.2.symm)] at hb
        have hlt := h.rel.blkLt hb
        rw [hold b hlt] at hh
        exact h.tb sl cs' b C' E' hs hb hh j c hj
    · intro n p hp
      obtain ⟨vals, x, y⟩ := h.own n p hp
      refine ⟨vals, ownsRow_grown x fun b hb => hold b (x.lt b hb).2, fun b hb => ⟨fun l s hh => ?_, (y b hb).2⟩⟩
      simp only [Gh.var] at hh
      split at hh
      · cases hh; have := (x.lt _ hb).2; omega
      · exact (y b hb).1 l s hh
    · refine ⟨by simp; have := h.kp.size; omega, fun b hb hn' => by rw [hold b (by have := h.kp.size; omega)]; exact h.kp.heap b hb hn', h.kp.G, h.kp.Gold, fun l s hl' => ?_, h.kp.os, h.kp.tape, h.kp.output, fun l s b hl' hb => ?_⟩
      · simp only [Gh.var]
        rw [if_neg (by omega)]
        exact h.kp.blk l s hl'
      · simp only [Gh.var] at hb
        split at hb
        · cases hb; exact h.kp.size
        · exact h.kp.new l s b hl' hb
  exact ⟨_, h1, by simp [Gh.var]⟩
theorem Inv.newVar (h : Inv d nt m0 g0 w0 g om szm st a w) {dst : Nat} (hd : dst < nt) (hn : get st.own dst = none) {cs : List PV} {C : Array Value} {E : TypeId} (hl : cs.length = C.size)
    (hc : ∀ j c, cs[j]? = some c → c.isCell = true ∧ V g c (C.getD j undef) ∧ TgC st.tops om szm c (C.getD j undef)) :
    ∃ g', Inv d nt m0 g0 w0 g' om szm { st with own := (dst, cs) :: st.own, f := (dst, .ptr st.m.length dst 0) :: st.f } (a.put (some dst) (.pointer (some ⟨w.heap.size, 0, none⟩))) (w.alloc (.cells C E (0, 0))) := by
  obtain ⟨g', h1, h2⟩ := h.newVar0 (E := E) hn hl hc
  exact ⟨g', h1.put (dst := some dst) (fun t ht => by cases ht; exact hd) (v := .ptr st.m.length dst 0) (.ptr _ _ 0 w.heap.size (by rw [h.lv]; exact h2)) (by simp only [Tg]; trivial)⟩
theorem Inv.newRow (h : Inv d nt m0 g0 w0 g om szm st a w) {dst : Nat} (hd : dst < nt) (hn : get st.own dst = none) {cs : List PV} {C : Array Value} {E : TypeId} (hl : cs.length = C.size)
    (hc : ∀ j c, cs[j]? = some c → c.isCell = true ∧ V g c (C.getD j undef) ∧ TgC st.tops om szm c (C.getD j undef)) (n sz : Nat) :
    ∃ g', Inv d nt m0 g0 w0 g' om szm { st with own := (dst, cs) :: st.own, f := (dst, .slr st.m.length dst 0 n sz) :: st.f } (a.put (some dst) (.slice (some ⟨w.heap.size, 0, none⟩) n n)) (w.alloc (.cells C E (0, 0))) := by
  obtain ⟨g', h1, h2⟩ := h.newVar0 (E := E) hn hl hc
  exact ⟨g', h1.put (dst := some dst) (fun t ht => by cases ht; exact hd) (v := .slr st.m.length dst 0 n sz) (.slr _ _ 0 n sz w.heap.size 0 n (by rw [h.lv]; exact h2) (fun _ => rfl) (Nat.le_refl _)) (by simp only [Tg]; trivial)⟩
theorem rep_get {α : Type} {z : List α} (hz : 0 < z.length) : ∀ {n j : Nat}, j < n * z.length → (rep z n)[j]? = z[j % z.length]?
  | 0, j, h => by omega
  | n + 1, j, h => by
    simp only [rep]
    by_cases hj : j < z.length
    · rw [List.getElem?_append_left hj, Nat.mod_eq_of_lt hj]
    · rw [List.getElem?_append_right (by omega), rep_get hz (n := n) (by rw [Nat.add_mul] at h; omega), ← Nat.mod_eq_sub_mod (by omega)]
theorem rep_len {α : Type} (z : List α) : ∀ n, (rep z n).length = n * z.length
  | 0 => by simp [rep]
  | n + 1 => by simp [rep, rep_len z n, Nat.add_mul]; omega

/-! ### a store -/
/-- Block b has other cells; nothing else has turned. -/
structure Upd (w w' : World) (b : Nat) (C : Array Value) (E : TypeId) : Prop where
  at_ : w'.heap[b]? = some (.cells C E (0, 0))
  off : ∀ k, k ≠ b → w'.heap[k]? = w.heap[k]?
  size : w'.heap.size = w.heap.size
  os : w'.os = w.os
  tape : w'.tape = w.tape
  output : w'.output = w.output
theorem Upd.row {b : Nat} {C C' : Array Value} {E : TypeId} (h : w.heap[b]? = some (.cells C E (0, 0))) : Upd w (w.setRow b C') b C' E :=
  ⟨setRow_heap w b C C' E _ h, fun k hk => setRow_other w b k _ hk, by simp, rfl, rfl, rfl⟩

theorem Inv.setVar (h : Inv d nt m0 g0 w0 g om szm st a w) {lv sl b : Nat} (hb : g.blk lv sl = some b) {cs' : List PV} {own' : Lvl} {m' : Mem} (hlen : m'.length = st.m.length)
    (hget : ∀ l s, mget (own' :: m') l s = if l = lv ∧ s = sl then some cs' else mget (st.own :: st.m) l s) {C' : Array Value} {E : TypeId} {w' : World} (hu : Upd w w' b C' E) (hl : cs'.length = C'.size)
    (hc : ∀ j c, cs'[j]? = some c → c.isCell = true ∧ c.dep (lv + 1) = true ∧ V g c (C'.getD j undef) ∧ (lv = d → TgC st.tops om szm c (C'.getD j undef)))
    (hmt : lv < d → ∀ j c, cs'[j]? = some c → c.untag1 = c ∨ ∃ cs0, mget st.m lv sl = some cs0 ∧ cs0[j]? = some c ∧ w'.cell? ⟨b, j, none⟩ = w.cell? ⟨b, j, none⟩) :
    Inv d nt m0 g0 w0 g om szm { st with own := own', m := m' } a w' := by
  have hne : ∀ l s b', g.blk l s = some b' → ¬ (l = lv ∧ s = sl) → b' ≠ b := fun l s b' hb' hn he => hn (h.rel.inj l s lv sl b (he ▸ hb') hb)
  obtain ⟨csb, Cb, Eb, hmb, hhb, hlb, h4b, h5b⟩ := h.rel.hM _ _ _ hb
  refine ⟨⟨?_, ?_, h.rel.inj⟩, hlen.trans h.lv, h.f, h.nt, h.df, ?_, ?_, h.apart, ?_, ?_⟩
  · intro b' o v hb'
    obtain ⟨x, y⟩ := h.rel.hG b' o v hb'
    have hn : b' ≠ b := fun he => by rw [he, h5b o] at hb'; cases hb'
    refine ⟨?_, y⟩
    simp only [World.cell?, hu.off b' hn]
    simpa [World.cell?] using x
  · intro l s b' hb'
    by_cases he : l = lv ∧ s = sl
    · have : b' = b := by rw [he.1, he.2, hb] at hb'; exact (Option.some.inj hb').symm
      subst this
      refine ⟨cs', C', E, by rw [hget, if_pos he], hu.at_, hl, fun j c hj => ?_, h5b⟩
      obtain ⟨x, y, z, _⟩ := hc j c hj
      exact ⟨x, by rw [he.1]; exact y, z⟩
    · obtain ⟨cs2, C2, E2, a1, a2, a3, a4, a5⟩ := h.rel.hM l s b' hb'
      exact ⟨cs2, C2, E2, by rw [hget, if_neg he]; exact a1, by rw [hu.off b' (hne l s b' hb' he)]; exact a2, a3, a4, a5⟩
  · intro s cs2 b' C2 E2 hs hb' hh j c hj
    have hs' : mget (own' :: m') d s = some cs2 := by rw [← h.lv, ← hlen, mget_own]; exact hs
    rw [hget] at hs'
    by_cases he : d = lv ∧ s = sl
    · rw [if_pos he] at hs'; cases hs'
      have : b' = b := by rw [he.1, he.2, hb] at hb'; exact (Option.some.inj hb').symm
      subst this
      rw [hu.at_] at hh; cases hh
      exact (hc j c hj).2.2.2 he.1.symm
    · rw [if_neg he, ← h.lv, mget_own] at hs'
      rw [hu.off b' (hne d s b' hb' he)] at hh
      exact h.tb s cs2 b' C2 E2 hs' hb' hh j c hj
  · intro n p hp
    obtain ⟨vals, x, y⟩ := h.own n p hp
    exact ⟨vals, ownsRow_grown x fun k hk => hu.off k fun he => (y k hk).1 lv sl (he ▸ hb), y⟩
  · refine ⟨by rw [hu.size]; exact h.kp.size, fun k hk hn => ?_, h.kp.G, h.kp.Gold, h.kp.blk, hu.os.trans h.kp.os, hu.tape.trans h.kp.tape, hu.output.trans h.kp.output, h.kp.new⟩
    by_cases he : k = b
    · subst he
      by_cases hlv : lv < d
      · rw [h.kp.blk lv sl hlv] at hb; exact absurd hb (hn lv sl)
      · have := h.kp.new lv sl k (by omega) hb; omega
    · rw [hu.off k he]; exact h.kp.heap k hk hn
  · intro l s cs2 b' hm hb' j c hj
    have hlt := mget_lt hm
    rw [hlen, h.lv] at hlt
    have hm2 : mget (own' :: m') l s = some cs2 := by rw [mget_cons, if_neg (by simp only [beq_iff_eq]; rw [hlen, h.lv]; omega)]; exact hm
    rw [hget] at hm2
    by_cases he : l = lv ∧ s = sl
    · rw [if_pos he] at hm2; cases hm2
      obtain ⟨rfl, rfl⟩ := he
      have : b' = b := by rw [hb] at hb'; exact (Option.some.inj hb').symm
      subst this
      rcases hmt hlt j c hj with h1 | ⟨cs0, h1, h2, h3⟩
      · exact .inl h1
      · rcases h.mt l s cs0 b' h1 hb j c h2 with h4 | ⟨cs1, h4, h5, h6⟩
        · exact .inl h4
        · exact .inr ⟨cs1, h4, h5, h3.trans h6⟩
    · rw [if_neg he, mget_cons, if_neg (by simp only [beq_iff_eq]; rw [h.lv]; omega)] at hm2
      rcases h.mt l s cs2 b' hm2 hb' j c hj with h1 | ⟨cs0, h1, h2, h3⟩
      · exact .inl h1
      · refine .inr ⟨cs0, h1, h2, ?_⟩
        rw [← h3]
        simp only [World.cell?, hu.off b' (hne l s b' hb' he)]
end
end Go.Proofs.Ytbbpkkeaddbcnaa.ZIM
