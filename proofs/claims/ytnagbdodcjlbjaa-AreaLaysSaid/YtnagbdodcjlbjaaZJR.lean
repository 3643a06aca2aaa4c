/- Memory, as a tree of rows: what a write leaves; what memory stands for in a world. -/
import Derived.Test.YtnagbdodcjlbjaaZJ2
set_option linter.unusedSimpArgs false
set_option linter.unusedVariables false
namespace Go.Proofs.Ytnagbdodcjlbjaa.ZJM
open Go.RowKit

theorem get_cons {α : Type} (s : Nat) (v : α) (r : List (Nat × α)) (t : Nat) : get ((s, v) :: r) t = if s = t then some v else get r t := by
  simp only [get]
  by_cases h : s = t
  · simp [h]
  · simp [h]
theorem get_upd {α : Type} : ∀ {l l' : List (Nat × α)} {t : Nat} {x : α}, upd l t x = some l' → ∀ s, get l' s = if t = s then some x else get l s
  | [], _, _, _, h, _ => by simp [upd] at h
  | p :: r, l', t, x, h, s => by
    simp only [upd] at h
    split at h
    · rename_i he
      have := beq_iff_eq.1 he
      cases h
      obtain ⟨p1, p2⟩ := p
      simp only at this
      subst this
      rw [get_cons, get_cons]
      by_cases hs : p1 = s <;> simp [hs]
    · rename_i he
      obtain ⟨r', hr, rfl⟩ := Option.map_eq_some_iff.1 h
      obtain ⟨p1, p2⟩ := p
      simp only [beq_iff_eq] at he
      rw [get_cons, get_cons, get_upd hr s]
      by_cases hs : p1 = s
      · subst hs; simp [Ne.symm he]
      · simp [hs]
theorem get_upd_some {α : Type} : ∀ {l l' : List (Nat × α)} {t : Nat} {x : α}, upd l t x = some l' → ∃ y, get l t = some y
  | [], _, _, _, h => by simp [upd] at h
  | p :: r, l', t, x, h => by
    simp only [upd] at h
    split at h
    · rename_i he; exact ⟨p.2, by simp [get, he]⟩
    · rename_i he
      obtain ⟨r', hr, rfl⟩ := Option.map_eq_some_iff.1 h
      obtain ⟨y, hy⟩ := get_upd_some hr
      exact ⟨y, by simp [get, he, hy]⟩
theorem get_del {α : Type} : ∀ (l : List (Nat × α)) (t s : Nat), get (del l t) s = if s = t then none else get l s
  | [], t, s => by simp [del, get]
  | p :: r, t, s => by
    obtain ⟨p1, p2⟩ := p
    simp only [del]
    by_cases h : p1 = t
    · subst h
      simp only [beq_self_eq_true, if_true]
      rw [get_del r, get_cons]
      by_cases hs : s = p1
      · rw [if_pos hs, if_pos hs]
      · rw [if_neg hs, if_neg hs, if_neg (Ne.symm hs)]
    · rw [if_neg (by simpa using h), get_cons, get_cons, get_del r]
      by_cases hs : p1 = s
      · subst hs; rw [if_pos rfl, if_neg h, if_pos rfl]
      · rw [if_neg hs, if_neg hs]

/-! ### rows within rows -/
theorem tget_snoc : ∀ (p : Path) (cs : List PV) (j v : Nat), tget cs (p ++ [(j, v)]) = match tget cs p with
    | some cs' => match cs'[j]? with
      | some (.vec v' _ _ c) => if (v == v') = true then some c else none
      | _ => none
    | none => none
  | [], cs, j, v => by
    simp only [List.nil_append, tget]
    cases cs[j]? with
    | none => rfl
    | some c => cases c <;> rfl
  | q :: p, cs, j, v => by
    simp only [List.cons_append, tget]
    split
    · rename_i v' _ _ cs' h
      split
      · exact tget_snoc p cs' j v
      · rfl
    · rfl
theorem tget_append : ∀ (p r : Path) (cs : List PV), tget cs (p ++ r) = (tget cs p).bind fun cs' => tget cs' r
  | [], r, cs => rfl
  | q :: p, r, cs => by
    simp only [List.cons_append, tget]
    split
    · split
      · exact tget_append p r _
      · rfl
    · rfl
/-- A cell, but for what lies in its row. -/
inductive Sim : PV → PV → Prop
  | refl (c : PV) : Sim c c
  | vec (v n sz : Nat) (a b : List PV) (h : a.length = b.length) : Sim (.vec v n sz a) (.vec v n sz b)
def SimL (zs zs' : List PV) : Prop := zs.length = zs'.length ∧ ∀ (j : Nat) (c' : PV), zs'[j]? = some c' → ∃ c, zs[j]? = some c ∧ Sim c c'
theorem SimL.refl (zs : List PV) : SimL zs zs := ⟨rfl, fun j c' h => ⟨c', h, .refl _⟩⟩
theorem Sim.nextVer {c c' : PV} (h : Sim c c') : nextVer c = nextVer c' := by cases h <;> rfl

theorem tset_get : ∀ {p : Path} {cs x cs' : List PV}, tset cs p x = some cs' → tget cs' p = some x ∧ ∃ y, tget cs p = some y
  | [], cs, x, cs', h => by simp only [tset, Option.some.injEq] at h; subst h; exact ⟨rfl, cs, rfl⟩
  | q :: p, cs, x, cs', h => by
    simp only [tset] at h
    split at h
    · rename_i v' n sz c hc
      split at h
      · rename_i hv
        split at h
        · rename_i y hy
          cases h
          obtain ⟨h1, h2⟩ := tset_get hy
          have hlt := (List.getElem?_eq_some_iff.1 hc).1
          simp only [tget, hc, hv, if_true]
          exact ⟨by simp [hlt, hv, h1], h2⟩
        · cases h
      · cases h
    · cases h
theorem tset_len : ∀ {p : Path} {cs x cs' y : List PV}, tset cs p x = some cs' → tget cs p = some y → x.length = y.length → cs'.length = cs.length
  | [], cs, x, cs', y, h, hy, hl => by simp only [tset, Option.some.injEq] at h; simp only [tget, Option.some.injEq] at hy; subst h; subst hy; exact hl
  | q :: p, cs, x, cs', y, h, hy, hl => by
    simp only [tset] at h
    split at h
    · split at h
      · split at h
        · cases h; simp
        · cases h
      · cases h
    · cases h
/-- What a write leaves of all rows. -/
theorem tset_all : ∀ {p : Path} {cs x cs' y : List PV}, tset cs p x = some cs' → tget cs p = some y → x.length = y.length → ∀ (q : Path) (zs' : List PV), tget cs' q = some zs' →
    (∃ r, q = p ++ r ∧ tget x r = some zs') ∨ ((∀ r, q ≠ p ++ r) ∧ ∃ zs, tget cs q = some zs ∧ SimL zs zs')
  | [], cs, x, cs', y, h, hy, hl, q, zs', hq => by
    simp only [tset, Option.some.injEq] at h; subst h
    exact .inl ⟨q, rfl, hq⟩
  | a :: p, cs, x, cs', y, h, hy, hl, q, zs', hq => by
    simp only [tset] at h
    split at h
    · rename_i v' n sz c hc
      split at h
      · rename_i hv
        have hv' := beq_iff_eq.1 hv
        split at h
        · rename_i c' hc'
          cases h
          have hlt := (List.getElem?_eq_some_iff.1 hc).1
          simp only [tget, hc, hv, if_true] at hy
          cases q with
          | nil =>
            simp only [tget, Option.some.injEq] at hq; subst hq
            refine .inr ⟨fun r hr => by simp at hr, cs, rfl, by simp, fun j d hj => ?_⟩
            by_cases he : a.1 = j
            · subst he
              rw [List.getElem?_set_self hlt] at hj
              cases hj
              exact ⟨_, hc, .vec _ _ _ _ _ (tset_len hc' hy hl).symm⟩
            · rw [List.getElem?_set_ne he] at hj
              exact ⟨d, hj, .refl _⟩
          | cons b q =>
            obtain ⟨b1, b2⟩ := b
            obtain ⟨a1, a2⟩ := a
            simp only at hc hv' hlt
            subst hv'
            simp only [tget] at hq
            by_cases hb : b1 = a1
            · subst hb
              rw [List.getElem?_set_self hlt] at hq
              simp only at hq
              split at hq
              · rename_i hv2
                have hv2' := beq_iff_eq.1 hv2
                subst hv2'
                rcases tset_all hc' hy hl q zs' hq with ⟨r, rfl, hr⟩ | ⟨hn, zs, hz, hs⟩
                · exact .inl ⟨r, rfl, hr⟩
                · refine .inr ⟨fun r hr => ?_, zs, by simp [tget, hc, hz], hs⟩
                  simp only [List.cons_append, List.cons.injEq, true_and] at hr
                  exact hn r hr
              · cases hq
            · rw [List.getElem?_set_ne (Ne.symm hb)] at hq
              refine .inr ⟨fun r hr => ?_, zs', by simp only [tget]; exact hq, SimL.refl _⟩
              simp only [List.cons_append, List.cons.injEq, Prod.mk.injEq] at hr
              exact hb hr.1.1
        · cases h
      · cases h
    · cases h
/-- A row lies where it lay, if what was written is no part of its way. -/
theorem tset_other : ∀ {p : Path} {cs x cs' y : List PV}, tset cs p x = some cs' → ∀ (q : Path) (zs : List PV), tget cs q = some zs → (∀ r, q ≠ p ++ r) → ∃ zs', tget cs' q = some zs'
  | [], cs, x, cs', y, h, q, zs, hq, hn => absurd rfl (hn q)
  | a :: p, cs, x, cs', y, h, q, zs, hq, hn => by
    simp only [tset] at h
    split at h
    · rename_i v' n sz c hc
      split at h
      · rename_i hv
        have hv' := beq_iff_eq.1 hv
        split at h
        · rename_i c' hc'
          cases h
          have hlt := (List.getElem?_eq_some_iff.1 hc).1
          cases q with
          | nil => exact ⟨_, rfl⟩
          | cons b q =>
            obtain ⟨b1, b2⟩ := b
            obtain ⟨a1, a2⟩ := a
            simp only at hc hv' hlt
            subst hv'
            simp only [tget] at hq
            by_cases hb : b1 = a1
            · subst hb
              rw [hc] at hq
              simp only at hq
              split at hq
              · rename_i hv2
                have hv2' := beq_iff_eq.1 hv2
                subst hv2'
                obtain ⟨zs', h1⟩ := tset_other (y := y) hc' q zs hq (fun r hr => hn r (by rw [hr]; rfl))
                exact ⟨zs', by simp [tget, hlt, h1]⟩
              · cases hq
            · exact ⟨zs, by simp only [tget]; rw [List.getElem?_set_ne (Ne.symm hb)]; exact hq⟩
        · cases h
      · cases h
    · cases h

/-! ### levels -/
theorem mget_lt : ∀ {m : Mem} {lv sl : Nat} {p : Path} {cs : List PV}, mget m lv sl p = some cs → lv < m.length
  | [], _, _, _, _, h => by simp [mget] at h
  | l :: r, lv, sl, p, cs, h => by
    simp only [mget] at h
    split at h
    · rename_i he; have := beq_iff_eq.1 he; subst this; simp
    · have := mget_lt h; simp only [List.length_cons]; omega
theorem mget_cons (own : Lvl) (m : Mem) (lv sl : Nat) (p : Path) : mget (own :: m) lv sl p = if lv = m.length then lget own sl p else mget m lv sl p := by
  simp only [mget, beq_iff_eq]
theorem mget_own (own : Lvl) (m : Mem) (sl : Nat) (p : Path) : mget (own :: m) m.length sl p = lget own sl p := by rw [mget_cons, if_pos rfl]
theorem lget_nil (own : Lvl) (sl : Nat) : lget own sl [] = get own sl := by
  unfold lget
  cases get own sl <;> rfl
theorem mset_length : ∀ {m m' : Mem} {l s : Nat} {p : Path} {x : List PV}, mset m l s p x = some m' → m'.length = m.length
  | [], _, _, _, _, _, h => by simp [mset] at h
  | y :: r, m', l, s, p, x, h => by
    simp only [mset] at h
    split at h
    · split at h
      · cases h; rfl
      · cases h
    · split at h
      · rename_i r' hr; cases h; simp [mset_length hr]
      · cases h
/-- What a write into memory leaves. -/
structure Wrote (M M' : Mem) (lv sl : Nat) (p : Path) (y x : List PV) : Prop where
  len : M'.length = M.length
  old : mget M lv sl p = some y
  here : mget M' lv sl p = some x
  all : x.length = y.length → ∀ (l s : Nat) (q : Path) (zs' : List PV), mget M' l s q = some zs' →
    (l = lv ∧ s = sl ∧ ∃ r, q = p ++ r ∧ tget x r = some zs') ∨ (¬ (l = lv ∧ s = sl ∧ ∃ r, q = p ++ r) ∧ ∃ zs, mget M l s q = some zs ∧ SimL zs zs')
  other : ∀ (l s : Nat) (q : Path) (zs : List PV), mget M l s q = some zs → ¬ (l = lv ∧ s = sl ∧ ∃ r, q = p ++ r) → ∃ zs', mget M' l s q = some zs'
theorem lset_spec {l l' : Lvl} {sl : Nat} {p : Path} {x : List PV} (h : lset l sl p x = some l') :
    ∃ cs cs' y, get l sl = some cs ∧ tset cs p x = some cs' ∧ tget cs p = some y ∧ tget cs' p = some x ∧ ∀ s, get l' s = if s = sl then some cs' else get l s := by
  unfold lset at h
  split at h
  · rename_i cs hcs
    split at h
    · rename_i cs' hcs'
      obtain ⟨h1, y, h2⟩ := tset_get hcs'
      refine ⟨cs, cs', y, hcs, hcs', h2, h1, fun s => ?_⟩
      rw [get_upd h s]
      by_cases hs : sl = s
      · rw [if_pos hs, if_pos hs.symm]
      · rw [if_neg hs, if_neg (Ne.symm hs)]
    · cases h
  · cases h
theorem mset_wrote : ∀ {M M' : Mem} {lv sl : Nat} {p : Path} {x : List PV}, mset M lv sl p x = some M' → ∃ y, Wrote M M' lv sl p y x
  | [], _, _, _, _, _, h => by simp [mset] at h
  | L :: R, M', lv, sl, p, x, h => by
    have hlen := mset_length h
    simp only [mset] at h
    split at h
    · rename_i he
      have hl := beq_iff_eq.1 he
      subst hl
      split at h
      · rename_i L' hL
        cases h
        obtain ⟨cs, cs', y, h1, h2, h3, h4, h5⟩ := lset_spec hL
        have hg : ∀ s q, lget L' s q = if s = sl then tget cs' q else lget L s q := by
          intro s q
          unfold lget
          rw [h5 s]
          by_cases hs : s = sl
          · rw [if_pos hs, if_pos hs]
          · rw [if_neg hs, if_neg hs]
        have hg0 : ∀ q, lget L sl q = tget cs q := fun q => by unfold lget; rw [h1]
        refine ⟨y, hlen, by rw [mget_own, hg0]; exact h3, by rw [mget_own, hg, if_pos rfl]; exact h4, fun hxy l s q zs' hq => ?_, fun l s q zs hq hn => ?_⟩
        · rw [mget_cons] at hq
          by_cases hl : l = R.length
          · subst hl
            rw [if_pos rfl, hg] at hq
            by_cases hs : s = sl
            · subst hs
              rw [if_pos rfl] at hq
              rcases tset_all h2 h3 hxy q zs' hq with ⟨r, hr, hr2⟩ | ⟨hn, zs, hz, hz2⟩
              · exact .inl ⟨rfl, rfl, r, hr, hr2⟩
              · exact .inr ⟨fun hh => by obtain ⟨_, _, r, hr⟩ := hh; exact hn r hr, zs, by rw [mget_own, hg0]; exact hz, hz2⟩
            · rw [if_neg hs] at hq
              exact .inr ⟨fun hh => hs hh.2.1, zs', by rw [mget_own]; exact hq, SimL.refl _⟩
          · rw [if_neg hl] at hq
            exact .inr ⟨fun hh => hl hh.1, zs', by rw [mget_cons, if_neg hl]; exact hq, SimL.refl _⟩
        · rw [mget_cons] at hq ⊢
          by_cases hl : l = R.length
          · subst hl
            rw [if_pos rfl] at hq ⊢
            rw [hg]
            by_cases hs : s = sl
            · subst hs
              rw [if_pos rfl]
              rw [hg0] at hq
              exact tset_other (y := y) h2 q zs hq fun r hr => hn ⟨rfl, rfl, r, hr⟩
            · rw [if_neg hs]; exact ⟨zs, hq⟩
          · rw [if_neg hl] at hq ⊢; exact ⟨zs, hq⟩
      · cases h
    · rename_i he
      have hl : lv ≠ R.length := by simpa using he
      split at h
      · rename_i R' hR
        cases h
        obtain ⟨y, hw⟩ := mset_wrote hR
        have hc : ∀ (m m2 : Mem) l s q, m2.length = m.length → l ≠ m.length → mget (L :: m2) l s q = mget m2 l s q := fun m m2 l s q h1 h2 => by rw [mget_cons, if_neg (by omega)]
        have hRl := hw.len
        have key : ∀ l s q, mget (L :: R') l s q = if l = R.length then lget L s q else mget R' l s q := fun l s q => by rw [mget_cons, hRl]
        have hlt : lv < R.length := mget_lt hw.old
        refine ⟨y, hlen, by rw [mget_cons, if_neg hl]; exact hw.old, by rw [key, if_neg hl]; exact hw.here, fun hxy l s q zs' hq => ?_, fun l s q zs hq hn => ?_⟩
        · rw [key] at hq
          by_cases h2 : l = R.length
          · rw [if_pos h2] at hq
            exact .inr ⟨fun hh => by omega, zs', by rw [mget_cons, if_pos h2]; exact hq, SimL.refl _⟩
          · rw [if_neg h2] at hq
            rcases hw.all hxy l s q zs' hq with h3 | ⟨h3, zs, h4, h5⟩
            · exact .inl h3
            · exact .inr ⟨h3, zs, by rw [mget_cons, if_neg h2]; exact h4, h5⟩
        · rw [mget_cons] at hq
          rw [key]
          by_cases h2 : l = R.length
          · rw [if_pos h2] at hq ⊢; exact ⟨zs, hq⟩
          · rw [if_neg h2] at hq ⊢
            exact hw.other l s q zs hq hn
      · cases h

theorem mget_append : ∀ (M : Mem) (lv sl : Nat) (p r : Path), mget M lv sl (p ++ r) = (mget M lv sl p).bind fun cs => tget cs r
  | [], _, _, _, _ => rfl
  | L :: R, lv, sl, p, r => by
    rw [mget_cons, mget_cons]
    split
    · unfold lget
      cases get L sl with
      | none => rfl
      | some cs => exact tget_append p r cs
    · exact mget_append R lv sl p r
theorem Wrote.live {M M' : Mem} {lv sl : Nat} {p : Path} {y x : List PV} (h : Wrote M M' lv sl p y x) (hl : x.length = y.length) (l s : Nat) : (mget M' l s []).isSome = (mget M l s []).isSome := by
  cases h1 : mget M' l s [] with
  | some zs' =>
    rcases h.all hl l s [] zs' h1 with ⟨rfl, rfl, r, hr, _⟩ | ⟨_, zs, hz, _⟩
    · obtain ⟨rfl, rfl⟩ := List.append_eq_nil_iff.1 hr.symm
      rw [h.old]; rfl
    · rw [hz]; rfl
  | none =>
    cases h2 : mget M l s [] with
    | none => rfl
    | some zs =>
      exfalso
      by_cases hc : l = lv ∧ s = sl ∧ ∃ r, [] = p ++ r
      · obtain ⟨rfl, rfl, r, hr⟩ := hc
        obtain ⟨rfl, rfl⟩ := List.append_eq_nil_iff.1 hr.symm
        rw [h.here] at h1; cases h1
      · obtain ⟨zs', h3⟩ := h.other l s [] zs h2 hc
        rw [h1] at h3; cases h3
/-- Which rows lie behind the write of one cell, and where. -/
theorem Wrote.cases {M M' : Mem} {lv sl : Nat} {p : Path} {cs : List PV} {j : Nat} {c' : PV} (h : Wrote M M' lv sl p cs (cs.set j c')) (hj : j < cs.length) (l s : Nat) (q : Path) (zs' : List PV) (hq : mget M' l s q = some zs') :
    (l = lv ∧ s = sl ∧ q = p ∧ zs' = cs.set j c') ∨ (∃ v n sz ys r, l = lv ∧ s = sl ∧ q = p ++ (j, v) :: r ∧ c' = .vec v n sz ys ∧ tget ys r = some zs') ∨
      (¬ (l = lv ∧ s = sl ∧ q = p) ∧ (¬ ∃ v r, l = lv ∧ s = sl ∧ q = p ++ (j, v) :: r) ∧ ∃ zs, mget M l s q = some zs ∧ SimL zs zs') := by
  rcases h.all (by simp) l s q zs' hq with ⟨rfl, rfl, r, rfl, hr⟩ | ⟨hn, zs, hz, hs⟩
  · cases r with
    | nil =>
      simp only [tget, Option.some.injEq] at hr
      exact .inl ⟨rfl, rfl, by simp, hr.symm⟩
    | cons a r =>
      obtain ⟨j2, v2⟩ := a
      simp only [tget] at hr
      by_cases hjj : j2 = j
      · subst hjj
        rw [List.getElem?_set_self hj] at hr
        split at hr
        · rename_i v' n sz ys hc
          cases hc
          split at hr
          · rename_i hv
            have := beq_iff_eq.1 hv
            subst this
            exact .inr (.inl ⟨v2, n, sz, ys, r, rfl, rfl, rfl, rfl, hr⟩)
          · cases hr
        · cases hr
      · rw [List.getElem?_set_ne (Ne.symm hjj)] at hr
        refine .inr (.inr ⟨fun hh => ?_, fun hh => ?_, zs', ?_, SimL.refl _⟩)
        · have := hh.2.2
          simp at this
        · obtain ⟨v, r', _, _, hh⟩ := hh
          have := List.append_cancel_left hh
          simp only [List.cons.injEq, Prod.mk.injEq] at this
          exact hjj this.1.1
        · rw [mget_append, h.old]
          simp only [Option.bind_some, tget]
          exact hr
  · refine .inr (.inr ⟨fun hh => hn ⟨hh.1, hh.2.1, [], by simp [hh.2.2]⟩, fun hh => ?_, zs, hz, hs⟩)
    obtain ⟨v, r, h1, h2, h3⟩ := hh
    exact hn ⟨h1, h2, (j, v) :: r, h3⟩
theorem tget_cells {cs : List PV} (h : ∀ c ∈ cs, c.isCell = true) : ∀ {r : Path} {zs : List PV}, tget cs r = some zs → r = [] ∧ zs = cs
  | [], zs, hr => by simp only [tget, Option.some.injEq] at hr; exact ⟨rfl, hr.symm⟩
  | a :: r, zs, hr => by
    simp only [tget] at hr
    split at hr
    · rename_i hc
      have := h _ (List.mem_of_getElem? hc)
      simp [PV.isCell] at this
    · cases hr
theorem isFree_eq {st st' : St} (hd : st'.dead = st.dead) {s : Nat} (hs : (get st'.own s).isSome = (get st.own s).isSome) : isFree st' s = isFree st s := by
  unfold isFree
  rw [hd]
  cases h1 : get st'.own s <;> cases h2 : get st.own s <;> simp_all

/-! ### memory and world -/
/-- What a cell of memory stands for. -/
def MC (g : Gh) (lv sl : Nat) (p : Path) (j : Nat) : PV → Value → Prop
  | .vec ver n sz cs, rv => ∃ b o t o' c, g.blk lv sl (p ++ [(j, ver)]) = some (b, o, t) ∧ rv = .slice (some ⟨b, o', none⟩) n c ∧ (n ≤ c ∧ c ≤ 9223372036854775807) ∧ (c ≠ 0 → o' = o ∧ o + c * sz ≤ t) ∧ cs.length = n * sz
  | .vnil _ _, rv => rv = .slice none 0 0
  | .vfrz _ sz xs, rv => PV.deps (lv + 1) xs = true ∧ V g (.lst none false sz xs) rv
  | .gone _ _, rv => vcell rv = true
  | .lrec _, _ => False
  | c, rv => c.isCell = true ∧ c.untag1 = c ∧ c.dep (lv + 1) = true ∧ V g c rv
theorem MC.plain {g : Gh} {lv sl : Nat} {p : Path} {j : Nat} {c : PV} {rv : Value} (h : c.isCell = true) : MC g lv sl p j c rv ↔ c.untag1 = c ∧ c.dep (lv + 1) = true ∧ V g c rv := by
  cases c <;> first | (simp [PV.isCell] at h; done) | (simp only [MC, h, true_and])
theorem isPlace_cell {c : PV} (h : c.isCell = true) : isPlace c = false := by cases c <;> first | rfl | (simp [PV.isCell] at h)
theorem MC.cell {g : Gh} {lv sl : Nat} {p : Path} {j : Nat} {c : PV} {rv : Value} (h : MC g lv sl p j c rv) (hp : isPlace c = false) : c.isCell = true := by
  cases c <;> first | exact h.1 | (simp [isPlace] at hp)
theorem MC.vcell {g : Gh} {lv sl : Nat} {p : Path} {j : Nat} {c : PV} {rv : Value} (h : MC g lv sl p j c rv) : vcell rv = true := by
  cases c with
  | vec => obtain ⟨_, _, _, _, _, _, rfl, _⟩ := h; rfl
  | vnil => have h' : rv = .slice none 0 0 := h; subst h'; rfl
  | vfrz => exact h.2.vcell rfl
  | gone => exact h
  | lrec => exact h.elim
  | _ => exact h.2.2.2.vcell h.1
theorem MC.mono {g g' : Gh} (hle : g.le g') {lv sl : Nat} {p : Path} {j : Nat} {c : PV} {rv : Value} (h : MC g lv sl p j c rv) : MC g' lv sl p j c rv := by
  cases c with
  | vec => obtain ⟨b, o, t, o', c, h1, h2⟩ := h; exact ⟨b, o, t, o', c, hle.blk _ _ _ _ h1, h2⟩
  | vnil => exact h
  | vfrz => exact ⟨h.1, h.2.mono hle⟩
  | gone => exact h
  | lrec => exact h.elim
  | _ => exact ⟨h.1, h.2.1, h.2.2.1, h.2.2.2.mono hle⟩
theorem MC.sim {g : Gh} {lv sl : Nat} {p : Path} {j : Nat} {c c' : PV} {rv : Value} (h : MC g lv sl p j c rv) (hs : Sim c c') : MC g lv sl p j c' rv := by
  cases hs with
  | refl => exact h
  | vec v n sz a b hl => obtain ⟨b', o, t, o', c, h1, h2, h3, h4, h5⟩ := h; exact ⟨b', o, t, o', c, h1, h2, h3, h4, hl ▸ h5⟩
/-- A record's state, as its number tells it. -/
def turned (r : Loop) (s : Nat) : Loop :=
  { r with
    state := match s with | 0 => .ready | 1 => .busy | _ => .done
    pending := match s with | 0 => none | 1 => r.pending | 2 => some .ret | k + 3 => some (.exit k) }

structure Rel (g : Gh) (m : Mem) (w : World) : Prop where
  hG : ∀ b o v, g.G b o = some v → w.cell? ⟨b, o, none⟩ = some v ∧ vcell v = true
  hM : ∀ lv sl p b o t, g.blk lv sl p = some (b, o, t) → ∀ cs, mget m lv sl p = some cs → ∃ C E, w.heap[b]? = some (.cells C E (0, 0)) ∧ C.size = t ∧ o + cs.length ≤ t ∧
    (∀ j c, cs[j]? = some c → MC g lv sl p j c (C.getD (o + j) undef)) ∧ ∀ q, g.G b q = none
  hL : ∀ lv sl l r, g.lp lv sl = some (l, r) → ∀ cs, mget m lv sl [] = some cs → ∃ s, cs = [.lrec s] ∧ ∃ pn, w.heap[l]? = some (.loop (turned { r with pending := pn } s))
  inj : ∀ l s p l' s' p' b o t o' t' cs cs', g.blk l s p = some (b, o, t) → g.blk l' s' p' = some (b, o', t') → mget m l s p = some cs → mget m l' s' p' = some cs' → l = l' ∧ s = s' ∧ p = p'
  injL : ∀ l s l' s' b r r' cs cs', g.lp l s = some (b, r) → g.lp l' s' = some (b, r') → mget m l s [] = some cs → mget m l' s' [] = some cs' → l = l' ∧ s = s'
  ver : ∀ lv sl p j v x, g.blk lv sl (p ++ [(j, v)]) = some x → ∀ cs, mget m lv sl p = some cs → ∃ c, cs[j]? = some c ∧ v < nextVer c
  lv : ∀ l s p x, g.blk l s p = some x → l < m.length
  lpv : ∀ l s x, g.lp l s = some x → l < m.length
  bd : ∀ l s p b o t, g.blk l s p = some (b, o, t) → b < w.heap.size
  bdL : ∀ l s b r, g.lp l s = some (b, r) → b < w.heap.size
  pre : ∀ lv sl q x y, g.blk lv sl (q ++ [x]) = some y → ∃ z, g.blk lv sl q = some z
end Go.Proofs.Ytnagbdodcjlbjaa.ZJM
