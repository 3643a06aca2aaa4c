/- A region, code, a call: the ideal machine is sound. -/
import Derived.Test.YtbbpkkeaddbcnaaZIM12
set_option linter.unusedSimpArgs false
set_option linter.unusedVariables false
namespace Go.Proofs.Ytbbpkkeaddbcnaa.ZIM
open Go.RowKit

def guardOk (ops : Array Oper) (o : Oper) (c : COp) : Bool :=
  match o.guard, c.guard with
  | none, none => true
  | some (j, b), some (s, b') => b == b' && decide ((ops[j]?).bind (·.dst) = some s)
  | _, _ => false
def chkOper (P : Program) (nt : Nat) (ops : Array Oper) (o : Oper) (c : COp) : Bool := chkC P o.op c.op c.args && chkDst nt o c && guardOk ops o c
def chkOps (P : Program) (nt : Nat) (ops : Array Oper) : List Oper → List COp → Bool
  | [], [] => true
  | o :: os, c :: cs => chkOper P nt ops o c && chkOps P nt ops os cs
  | _, _ => false
section
variable {P : Program} {d nt : Nat} {m0 : Mem} {g0 : Gh} {w0 : World}

theorem chkC_defer {c : Call} {k : OpC} {args : List Opd} : chkC P (.defer c) k args = false := by cases k <;> rfl
theorem semAt_ok {ro : Option Nat} {o : Oper} {c : OpC} {args : List Opd} (hk : chkC P o.op c args = true) (ρ : Operand → Value) : o.semAt ro ρ = execOp ρ o :=
  Oper.semAt_eq ro ρ o fun x hx => by rw [hx, chkC_defer] at hk; cases hk

theorem InvE.und {st : St} {a : Act} {w : World} (h : InvE d nt m0 g0 w0 st a w) {dst : Option Nat} (hd : ∀ t, dst = some t → t < nt) : InvE d nt m0 g0 w0 (st.put dst .und) (a.put dst undef) w := by
  obtain ⟨g, om, szm, h⟩ := h
  exact ⟨g, om, szm, h.put hd .und (by simp only [Tg]; trivial)⟩
theorem wanted_none {o : Oper} (h : o.guard = none) (y : Nat → Option Bool) : Region.wanted o y = true := by simp [Region.wanted, h]
theorem wanted_some {o : Oper} {j : Nat} {b : Bool} (h : o.guard = some (j, b)) (y : Nat → Option Bool) : Region.wanted o y = (y j == some b) := by simp [Region.wanted, h]

theorem yielded_ok {st : St} {a : Act} {w : World} (h : InvE d nt m0 g0 w0 st a w) {ops : Array Oper} {j s : Nat} (hj : (ops[j]?).bind (·.dst) = some s) {b : Bool} (hs : get st.f s = some (.bool b)) : yielded ops a.tmps j = some b := by
  obtain ⟨g, om, szm, h⟩ := h
  obtain ⟨h1, h2, _⟩ := h.f s _ hs
  have h3 : a.tmps.getD s undef = .bool b := by generalize a.tmps.getD s undef = q at h2; cases h2; rfl
  have hlt : s < a.tmps.size := by rw [h.nt]; exact h1
  have h4 : a.tmps[s]? = some (.bool b) := by
    rw [Array.getD_eq_getD_getElem?, Array.getElem?_eq_getElem hlt, Option.getD_some] at h3
    rw [Array.getElem?_eq_getElem hlt, h3]
  simp [yielded, hj, h4]

theorem yielded_und {st : St} {a : Act} {w : World} (h : InvE d nt m0 g0 w0 st a w) {ops : Array Oper} {j s : Nat} (hj : (ops[j]?).bind (·.dst) = some s) (hs : get st.f s = some .und) : yielded ops a.tmps j = none := by
  obtain ⟨g, om, szm, h⟩ := h
  obtain ⟨h1, h2, _⟩ := h.f s _ hs
  have h3 : a.tmps.getD s undef = undef := by generalize a.tmps.getD s undef = q at h2; cases h2; rfl
  have hlt : s < a.tmps.size := by rw [h.nt]; exact h1
  have h4 : a.tmps[s]? = some undef := by
    rw [Array.getD_eq_getD_getElem?, Array.getElem?_eq_getElem hlt, Option.getD_some] at h3
    rw [Array.getElem?_eq_getElem hlt, h3]
  simp [yielded, hj, h4, undef]

/-- One operation, wanted or not. -/
theorem cop_ok {ro : Option Nat} {K : Callee} (hK : Snd P K) {ops : Array Oper} {o : Oper} {c : COp} (hc : chkOper P nt ops o c = true) {st st' : St} {a : Act} {w : World} (h : InvE d nt m0 g0 w0 st a w) (he : c.ev K st = some st')
    {next : Act → World → Prop} {Q : Exit → Act → World → Prop} (hn : ∀ a' w', InvE d nt m0 g0 w0 st' a' w' → next a' w') :
    if Region.wanted o (yielded ops a.tmps) then o.wpIn (Fw ro) 0 P a w next Q else (∀ f, o.about P w a.eval = some f → (Fw ro).fn f) ∧ next (a.put o.dst undef) w := by
  simp only [chkOper, Bool.and_eq_true] at hc
  obtain ⟨⟨hc1, hc2⟩, hc3⟩ := hc
  have run : ∀ vs, evs st.f c.args = some vs → opEv K c.dst c.op vs st = some st' → o.wpIn (Fw ro) 0 P a w next Q := by
    intro vs hv hop
    obtain ⟨g, om, szm, hi⟩ := h
    refine ⟨fun _ _ => trivial, ?_⟩
    have hsem : o.semAt (Fw ro).round a.eval = execOp a.eval o := semAt_ok hc1 a.eval
    rw [hsem]
    exact op_ok hK hi hc1 hc2 hv hop hn
  simp only [COp.ev] at he
  cases hg : o.guard with
  | none =>
    rw [wanted_none hg, if_pos rfl]
    have hcg : c.guard = none := by
      simp only [guardOk, hg] at hc3
      split at hc3 <;> first | assumption | cases hc3 | simp_all
    rw [hcg] at he
    simp only at he
    split at he
    · rename_i vs hv; exact run vs hv he
    · cases he
  | some p =>
    obtain ⟨j, b⟩ := p
    obtain ⟨s, hcg, hjs⟩ : ∃ s, c.guard = some (s, b) ∧ (ops[j]?).bind (·.dst) = some s := by
      simp only [guardOk, hg] at hc3
      split at hc3
      · simp_all
      · rename_i j' b1 s b' h1 h2
        simp only [Bool.and_eq_true, beq_iff_eq, decide_eq_true_eq] at hc3
        cases h1
        obtain ⟨rfl, h3⟩ := hc3
        exact ⟨s, h2, h3⟩
      · cases hc3
    rw [hcg] at he
    simp only at he
    split at he
    · rename_i b2 hs
      have hy := yielded_ok h hjs hs
      rw [wanted_some hg, hy]
      split at he
      · rename_i hb
        have : b2 = b := beq_iff_eq.1 hb
        subst this
        simp only [beq_self_eq_true, if_true]
        split at he
        · rename_i vs hv; exact run vs hv he
        · cases he
      · rename_i hb
        have hne : b2 ≠ b := by simpa using hb
        cases he
        rw [if_neg (by simpa using hne)]
        refine ⟨fun _ _ => trivial, hn _ _ ?_⟩
        have hdst : o.dst = c.dst := by simp only [chkDst, Bool.and_eq_true, decide_eq_true_eq] at hc2; exact hc2.1.1
        rw [hdst]
        refine h.und fun t ht => ?_
        simp only [chkDst, Bool.and_eq_true, decide_eq_true_eq] at hc2
        have := hc2.1.2
        rw [ht] at this
        simpa using this
    · rename_i hs
      have hy := yielded_und h hjs hs
      rw [wanted_some hg, hy]
      cases he
      rw [if_neg (by simp)]
      refine ⟨fun _ _ => trivial, hn _ _ ?_⟩
      have hdst : o.dst = c.dst := by simp only [chkDst, Bool.and_eq_true, decide_eq_true_eq] at hc2; exact hc2.1.1
      rw [hdst]
      refine h.und fun t ht => ?_
      simp only [chkDst, Bool.and_eq_true, decide_eq_true_eq] at hc2
      have := hc2.1.2
      rw [ht] at this
      simpa using this
    · cases he

theorem reg_ok {ro : Option Nat} {K : Callee} (hK : Snd P K) {ops : Array Oper} {Q : Exit → Act → World → Prop} : ∀ {cs : List COp} {os : List Oper} {i : Nat} {st st' : St} {a : Act} {w : World},
    chkOps P nt ops os cs = true → (∀ j o, os[j]? = some o → ops[i + j]? = some o) → InvE d nt m0 g0 w0 st a w → regEv K cs st = some st' → (∀ a' w', InvE d nt m0 g0 w0 st' a' w' → Q .normal a' w') →
    wpOpsIn (Fw ro) 0 P ops Q (List.range' i os.length) a w
  | [], [], i, st, st', a, w, _, _, h, he, hq => by
    simp only [regEv, Option.some.injEq] at he; subst he
    exact hq a w h
  | c :: cs, o :: os, i, st, st', a, w, hk, ho, h, he, hq => by
    simp only [chkOps, Bool.and_eq_true] at hk
    simp only [regEv] at he
    split at he
    · rename_i st1 h1
      have ho0 := ho 0 o rfl
      simp only [Nat.add_zero] at ho0
      have := cop_ok (ro := ro) hK hk.1 h h1 (next := wpOpsIn (Fw ro) 0 P ops Q (List.range' (i + 1) os.length)) (Q := Q)
        (fun a' w' hi => reg_ok hK hk.2 (fun j o hj => by have := ho (j + 1) o (by simpa using hj); rwa [show i + (j + 1) = i + 1 + j by omega] at this) hi he hq)
      simp only [List.length_cons, List.range'_succ, wpOpsIn, ho0]
      exact this
    · cases he
  | [], _ :: _, _, _, _, _, _, hk, _, _, _, _ => by simp [chkOps] at hk
  | _ :: _, [], _, _, _, _, _, hk, _, _, _, _ => by simp [chkOps] at hk

end
end Go.Proofs.Ytbbpkkeaddbcnaa.ZIM
