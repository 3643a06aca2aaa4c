/- The flag of the safety section; writes from outside: the plain law, and the small functions. -/
import Derived.Test.YtmffcpiffkclgaaZEM10
import Derived.Test.YtmffcpiffkclgaaZEQ7
set_option linter.unusedSimpArgs false
set_option linter.unusedVariables false
set_option maxRecDepth 10000
namespace Go.Proofs.Ytmffcpiffkclgaa.ZJM.DC
open Go.Proofs.Ytmffcpiffkclgaa.ZJM Go.RowKit

theorem slotB_hold (r : RD) (i s : Int) (b : List Int) (y : Slot) : slotB (holdAt r i s b) y = if y.i = i ∧ y.s = s ∧ (findIx r.l i s).isSome = true then b else slotB r y := by
  cases hf : findIx r.l i s with
  | none => simp [holdAt, hf]
  | some n =>
    obtain ⟨hn, k1, k2⟩ := findIx_some hf
    have e : holdAt r i s b = holdR r n b := by rw [holdAt, hf]
    rw [e]
    have hk := skel_find (skel_hold r n b) y.i y.s
    unfold slotB
    rw [hk]
    cases hj : findIx r.l y.i y.s with
    | none =>
      rw [if_neg]
      rintro ⟨h1, h2, _⟩
      rw [h1, h2, hf] at hj; cases hj
    | some j =>
      obtain ⟨hjl, j1, j2⟩ := findIx_some hj
      by_cases h : y.i = i ∧ y.s = s
      · rw [if_pos ⟨h.1, h.2, rfl⟩]
        rw [h.1, h.2, hf] at hj
        cases hj
        simp [holdR, upE, hn]
      · rw [if_neg (fun hh => h ⟨hh.1, hh.2.1⟩)]
        have hne : n ≠ j := by
          rintro rfl
          exact h ⟨by rw [← j1, k1], by rw [← j2, k2]⟩
        simp [holdR, upE, hjl, hne]
theorem skel_entry {r r' : RD} (h : skel r = skel r') (i s : Int) : (findIx r.l i s = none ∧ findIx r'.l i s = none) ∨ ∃ n x x', findIx r.l i s = some n ∧ findIx r'.l i s = some n ∧ r.l[n]? = some x ∧ r'.l[n]? = some x' ∧ x.k = x'.k ∧ x.a = x'.a ∧ x.l = x'.l ∧ x.h = x'.h := by
  have hf := skel_find h i s
  cases hq : findIx r'.l i s with
  | none => rw [hq] at hf; exact .inl ⟨hf, rfl⟩
  | some n =>
    rw [hq] at hf
    have hj := skel_get h n
    obtain ⟨h1, _⟩ := findIx_some hf
    obtain ⟨h2, _⟩ := findIx_some hq
    rw [List.getElem?_eq_getElem h1, List.getElem?_eq_getElem h2] at hj
    simp only [Option.map_some, Option.some.injEq, skE, Prod.mk.injEq] at hj
    obtain ⟨_, _, e1, e2, e3, e4⟩ := hj
    exact .inr ⟨n, _, _, hf, rfl, List.getElem?_eq_getElem h1, List.getElem?_eq_getElem h2, e1, e2, e3, e4⟩
theorem skel_num {r r' : RD} (h : skel r = skel r') {i s : Int} (hb : slotB r ⟨i, s, 0⟩ = slotB r' ⟨i, s, 0⟩) : numR r i s = numR r' i s := by
  unfold numR
  unfold slotB at hb
  simp only at hb
  rcases skel_entry h i s with ⟨h1, h2⟩ | ⟨j, x, x', h1, h2, h3, h4, e1, e2, e3, e4⟩
  · rw [h1, h2]
  · rw [h1, h2] at hb ⊢
    simp only [h3, h4] at hb ⊢
    rw [e1, e2, e3, e4, hb]
theorem skel_set (r : RD) (i s n : Int) : skel (setR r i s n) = skel r := by
  unfold setR; split
  · exact skel_holdAt _ _ _ _
  · rfl
theorem set_some {r : RD} {i s n : Int} (h : setC r i s n = 0) : (findIx r.l i s).isSome = true := by
  unfold setC at h
  cases hq : findIx r.l i s with
  | none => rw [hq] at h; simp at h
  | some j => rfl
theorem slotB_set {r : RD} {i s n : Int} (h : setC r i s n = 0) (y : Slot) : slotB (setR r i s n) y = if y.i = i ∧ y.s = s then setB r i s n else slotB r y := by
  rw [setR, if_pos h, slotB_hold]
  have := set_some h
  by_cases hk : y.i = i ∧ y.s = s
  · rw [if_pos ⟨hk.1, hk.2, this⟩, if_pos hk]
  · rw [if_neg fun hh => hk ⟨hh.1, hh.2.1⟩, if_neg hk]
/-! ### the functions -/
theorem app106 (i s : Int) : app E false (.fn 78 []) [.int .i64 i, .int .i64 s] [] = some (ky i s, emptyBag, []) := by
  rw [app_fn E rfl h106 rfl]
  simp [c106]
section
variable {m : Mem} {lv a a' ver : Nat} {l : List Row} {c : Int} (hd : DA m lv a a' ver l c) {r : RD} (hs : Sim l c r)
include hd hs
end
end Go.Proofs.Ytmffcpiffkclgaa.ZJM.DC
