/- The flag of the safety section; writes from outside: the plain law, and the small functions. -/
import Derived.Test.YtmffcpiffkclgaaZEM10
import Derived.Test.YtmffcpiffkclgaaZEQ7
set_option linter.unusedSimpArgs false
set_option linter.unusedVariables false
set_option maxRecDepth 10000
namespace Go.Proofs.Ytmffcpiffkclgaa.ZJM.DC
open Go.Proofs.Ytmffcpiffkclgaa.ZJM Go.RowKit

theorem skel_entry {r r' : RD} (h : skel r = skel r') (i s : Int) : (findIx r.l i s = none ∧ findIx r'.l i s = none) ∨ ∃ n x x', findIx r.l i s = some n ∧ findIx r'.l i s = some n ∧ r.l[n]? = some x ∧ r'.l[n]? = some x' ∧ x.k = x'.k ∧ x.a = x'.a ∧ x.l = x'.l ∧ x.h = x'.h := by
  have hf := skel_find h i s
  cases hq : findIx r'.l i s with
  | none => rw [hq] at hf; exact .inl ⟨hf, rfl⟩
  | some n =>
    rw [hq] at hf
    have hj := skel_get h n
    obtain ⟨h1, _⟩ := findIx_some hf
    obtain ⟨h2, _⟩ := findIx_some hq
    rw [List.getElem?_eq_getElem h1, List.getElem?_eq_getElem h2] at hj
    simp only [Option.map_some, Option.some.injEq, skE, Prod.mk.injEq] at hj
    obtain ⟨_, _, e1, e2, e3, e4⟩ := hj
    exact .inr ⟨n, _, _, hf, rfl, List.getElem?_eq_getElem h1, List.getElem?_eq_getElem h2, e1, e2, e3, e4⟩
theorem skel_set (r : RD) (i s n : Int) : skel (setR r i s n) = skel r := by
  unfold setR; split
  · exact skel_holdAt _ _ _ _
  · rfl
/-! ### the functions -/
theorem app106 (i s : Int) : app E false (.fn 78 []) [.int .i64 i, .int .i64 s] [] = some (ky i s, emptyBag, []) := by
  rw [app_fn E rfl h106 rfl]
  simp [c106]
section
variable {m : Mem} {lv a a' ver : Nat} {l : List Row} {c : Int} (hd : DA m lv a a' ver l c) {r : RD} (hs : Sim l c r)
include hd hs
end
end Go.Proofs.Ytmffcpiffkclgaa.ZJM.DC
