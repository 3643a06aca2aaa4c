/- The flag of the safety section; writes from outside: the plain law, and the small functions. -/
import Derived.Test.YtmffcpiffkclgaaZEM10
import Derived.Test.YtmffcpiffkclgaaZEQ7
set_option linter.unusedSimpArgs false
set_option linter.unusedVariables false
set_option maxRecDepth 10000
namespace Go.Proofs.Ytmffcpiffkclgaa.ZJM.DC
open Go.Proofs.Ytmffcpiffkclgaa.ZJM Go.RowKit

theorem slotB_hold (r : RD) (i s : Int) (b : List Int) (y : Slot) : slotB (holdAt r i s b) y = if y.i = i ∧ y.s = s ∧ (findIx r.l i s).isSome = true then b else slotB r y := by
  cases hf : findIx r.l i s with
  | none => simp [holdAt, hf]
  | some n =>
    obtain ⟨hn, k1, k2⟩ := findIx_some hf
    have e : holdAt r i s b = holdR r n b := by rw [holdAt, hf]
    rw [e]
    have hk := skel_find (skel_hold r n b) y.i y.s
    unfold slotB
    rw [hk]
    cases hj : findIx r.l y.i y.s with
    | none =>
      rw [if_neg]
      rintro ⟨h1, h2, _⟩
      rw [h1, h2, hf] at hj; cases hj
    | some j =>
      obtain ⟨hjl, j1, j2⟩ := findIx_some hj
      by_cases h : y.i = i ∧ y.s = s
      · rw [if_pos ⟨h.1, h.2, rfl⟩]
        rw [h.1, h.2, hf] at hj
        cases hj
        simp [holdR, upE, hn]
      · rw [if_neg (fun hh => h ⟨hh.1, hh.2.1⟩)]
        have hne : n ≠ j := by
          rintro rfl
          exact h ⟨by rw [← j1, k1], by rw [← j2, k2]⟩
        simp [holdR, upE, hjl, hne]
section
variable {m : Mem} {lv a a' ver : Nat} {l : List Row} {c : Int} (hd : DA m lv a a' ver l c) {r : RD} (hs : Sim l c r)
include hd hs
end
end Go.Proofs.Ytmffcpiffkclgaa.ZJM.DC
