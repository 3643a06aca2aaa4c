/- Code: the ideal machine is sound. -/
import Derived.Test.YtbbpkkeaddbcnaaZIM14
set_option linter.unusedSimpArgs false
set_option linter.unusedVariables false
namespace Go.Proofs.Ytbbpkkeaddbcnaa.ZIM
open Go.RowKit

def chkCd (P : Program) (nt : Nat) : Code → Cd → Bool
  | .skip, .skip => true
  | .region _ ops draw, .reg cs => !draw && chkOps P nt ops ops.toList cs
  | .region _ ops draw, .draw k rows cs => draw && chkOps P nt ops ops.toList cs && drawOk ops cs k rows
  | .seq a b, .seq a' b' => chkCd P nt a a' && chkCd P nt b b'
  | .cond c a b, .cond c' a' b' => opdOk c c' && chkCd P nt a a' && chkCd P nt b b'
  | .block id a, .block id' a' => id == id' && chkCd P nt a a'
  | .loop a, .loop _ _ _ a' => chkCd P nt a a'
  | .exit id, .exit id' => id == id'
  | .ret, .ret => true
  | _, _ => false
def resOk (P : Program) : ResultVar → ResC → Bool
  | .tmp t, .t t' => t == t'
  | .cell a t, .cell a' ag sz => a == a' && tyAg P t == some ag && tySz P t == some sz
  | _, _ => false
def ressOk (P : Program) : List ResultVar → List ResC → Bool
  | [], [] => true
  | r :: rs, c :: cs => resOk P r c && ressOk P rs cs
  | _, _ => false
def chkFn (P : Program) (fn : Func) (c : CFn) : Bool :=
  match fn.body with
  | some b => decide (c.np ≤ fn.ntmps) && decide (fn.name ≠ "runtime.NumGoroutine") && ressOk P fn.results.toList c.res && chkCd P fn.ntmps b c.body
  | none => false

section
variable {P : Program} {d nt : Nat} {m0 : Mem} {g0 : Gh} {w0 : World}

/-- How code ends. -/
def QE (d nt : Nat) (m0 : Mem) (g0 : Gh) (w0 : World) (r : Ex × St) : Exit → Act → World → Prop
  | .normal, a, w => r.1 = .normal ∧ InvE d nt m0 g0 w0 r.2 a w
  | .exit id, a, w => r.1 = .exit id ∧ InvE d nt m0 g0 w0 r.2 a w
  | .ret, a, w => r.1 = .ret ∧ InvE d nt m0 g0 w0 r.2 a w
  | _, _, _ => False

theorem code_ok (hm : P.follows .mixedOrders = true) {ro : Option Nat} {K : Callee} (hK : Snd P K) (n : Nat) : ∀ {cd : Cd} {c : Code} {st : St} {r : Ex × St} {a : Act} {w : World}, chkCd P nt c cd = true → InvE d nt m0 g0 w0 st a w → cd.ev K n st = some r →
    c.wpIn (Fw ro) 0 P (QE d nt m0 g0 w0 r) a w := by
  intro cd
  induction cd with
  | skip =>
    intro c st r a w hk h he
    cases c <;> simp only [chkCd] at hk <;> try (cases hk; done)
    simp only [Cd.ev, Option.some.injEq] at he; subst he
    exact wpIn_skip ⟨rfl, h⟩
  | draw k rows cs =>
    intro c st r a w hk h he
    cases c <;> simp only [chkCd] at hk <;> try (cases hk; done)
    rename_i id ops dr
    simp only [Bool.and_eq_true] at hk
    obtain ⟨⟨rfl, hk⟩, hdr⟩ := hk
    simp only [Cd.ev] at he
    split at he
    · rename_i st' h1
      cases he
      exact draw_ok hm hK hk hdr h h1 fun a' w' hi => ⟨rfl, hi⟩
    · cases he
  | reg cs =>
    intro c st r a w hk h he
    cases c <;> simp only [chkCd] at hk <;> try (cases hk; done)
    rename_i id ops dr
    simp only [Bool.and_eq_true, Bool.not_eq_true'] at hk
    obtain ⟨rfl, hk⟩ := hk
    simp only [Cd.ev] at he
    split at he
    · rename_i st' h1
      cases he
      refine wpIn_region ?_
      have := reg_ok (ro := ro) (Q := QE d nt m0 g0 w0 (.normal, st')) hK (i := 0) hk (fun j o hj => by simpa using hj) h h1 (fun a' w' hi => ⟨rfl, hi⟩)
      simpa [List.range_eq_range'] using this
    · cases he
  | seq x y ihx ihy =>
    intro c st r a w hk h he
    cases c <;> simp only [chkCd] at hk <;> try (cases hk; done)
    simp only [Bool.and_eq_true] at hk
    simp only [Cd.ev] at he
    refine wpIn_seq ?_
    split at he
    · rename_i st1 h1
      refine wpIn_mono (ihx hk.1 h h1) ?_
      intro e a' w' hq
      cases e with
      | normal => exact ihy hk.2 hq.2 he
      | exit id => exact absurd hq.1 (by simp)
      | ret => exact absurd hq.1 (by simp)
      | goto _ => exact hq.elim
      | panic _ => exact hq.elim
      | outgrown => exact hq.elim
    · rename_i hne
      refine wpIn_mono (ihx hk.1 h he) ?_
      intro e a' w' hq
      cases e with
      | normal => exact absurd (by obtain ⟨r1, r2⟩ := r; simp only [QE] at hq; obtain ⟨rfl, _⟩ := hq; exact he) (hne r.2)
      | exit id => exact hq
      | ret => exact hq
      | goto _ => exact hq.elim
      | panic _ => exact hq.elim
      | outgrown => exact hq.elim
  | cond c0 x y ihx ihy =>
    intro c st r a w hk h he
    cases c <;> simp only [chkCd] at hk <;> try (cases hk; done)
    rename_i cc x' y'
    simp only [Bool.and_eq_true] at hk
    simp only [Cd.ev] at he
    obtain ⟨g, om, szm, hi⟩ := h
    split at he
    · rename_i hc
      have hv := (opd_V hi hk.1.1 hc).1
      have hb : a.eval cc = .bool true := by generalize a.eval cc = q at hv; cases hv; rfl
      exact wpIn_cond_true hb (ihx hk.1.2 ⟨g, om, szm, hi⟩ he)
    · rename_i hc
      have hv := (opd_V hi hk.1.1 hc).1
      have hb : a.eval cc = .bool false := by generalize a.eval cc = q at hv; cases hv; rfl
      exact wpIn_cond_false hb (ihy hk.2 ⟨g, om, szm, hi⟩ he)
    · cases he
  | block id x ih =>
    intro c st r a w hk h he
    cases c <;> simp only [chkCd] at hk <;> try (cases hk; done)
    rename_i id' x'
    simp only [Bool.and_eq_true, beq_iff_eq] at hk
    obtain ⟨rfl, hk⟩ := hk
    simp only [Cd.ev] at he
    refine wpIn_block ?_
    split at he
    · rename_i id1 st1 h1
      refine wpIn_mono (ih hk h h1) ?_
      intro e a' w' hq
      cases e with
      | normal => exact absurd hq.1 (by simp)
      | exit id2 =>
        have h2 : id1 = id2 := by have := hq.1; simpa using this
        subst h2
        simp only [Exit.inBlock]
        split at he
        · rename_i hb
          have := beq_iff_eq.1 hb
          subst this
          cases he
          rw [if_pos rfl]; exact ⟨rfl, hq.2⟩
        · rename_i hb
          cases he
          rw [if_neg (by simpa using hb)]; exact ⟨rfl, hq.2⟩
      | ret => exact absurd hq.1 (by simp)
      | goto _ => exact hq.elim
      | panic _ => exact hq.elim
      | outgrown => exact hq.elim
    · rename_i hne
      refine wpIn_mono (ih hk h he) ?_
      intro e a' w' hq
      cases e with
      | normal => exact hq
      | exit id2 => exact absurd (by obtain ⟨r1, r2⟩ := r; simp only [QE] at hq; obtain ⟨rfl, _⟩ := hq; exact he) (hne id2 r.2)
      | ret => exact hq
      | goto _ => exact hq.elim
      | panic _ => exact hq.elim
      | outgrown => exact hq.elim
  | loop fs ks ts x ih =>
    intro c st r a w hk h he
    cases c <;> simp only [chkCd] at hk <;> try (cases hk; done)
    rename_i x'
    simp only [Cd.ev] at he
    refine wpIn_loop_rounds n ?_
    have key : ∀ (m : Nat) (st : St) (a : Act) (w : World), InvE d nt m0 g0 w0 st a w → loopN (maskSt fs ks ts) (x.ev K n) m st = some r → Code.roundsIn (Fw ro) 0 P x' (QE d nt m0 g0 w0 r) m a w := by
      intro m
      induction m with
      | zero => intro st a w _ he; simp [loopN] at he
      | succ m ihm =>
        intro st a w h he
        simp only [loopN] at he
        rw [roundsIn_succ]
        split at he
        · cases he
        · rename_i st1 hm
          obtain ⟨g, om, szm, hi⟩ := h
          obtain ⟨g', om', hi'⟩ := hi.mask hm
          have hI1 : InvE d nt m0 g0 w0 st1 a w := ⟨g', om', szm, hi'⟩
          split at he
          · rename_i st2 h2
            refine wpIn_mono (ih hk hI1 h2) ?_
            intro e a' w' hq
            cases e with
            | normal => exact ihm st2 a' w' hq.2 he
            | exit id => exact absurd hq.1 (by simp)
            | ret => exact absurd hq.1 (by simp)
            | goto _ => exact hq.elim
            | panic _ => exact hq.elim
            | outgrown => exact hq.elim
          · rename_i hne
            refine wpIn_mono (ih hk hI1 he) ?_
            intro e a' w' hq
            cases e with
            | normal => exact absurd (by obtain ⟨r1, r2⟩ := r; simp only [QE] at hq; obtain ⟨rfl, _⟩ := hq; exact he) (hne r.2)
            | exit id => exact hq
            | ret => exact hq
            | goto _ => exact hq.elim
            | panic _ => exact hq.elim
            | outgrown => exact hq.elim
    exact key n st a w h he
  | exit id =>
    intro c st r a w hk h he
    cases c <;> simp only [chkCd] at hk <;> try (cases hk; done)
    have := beq_iff_eq.1 hk
    subst this
    simp only [Cd.ev, Option.some.injEq] at he; subst he
    exact wpIn_exit ⟨rfl, h⟩
  | ret =>
    intro c st r a w hk h he
    cases c <;> simp only [chkCd] at hk <;> try (cases hk; done)
    simp only [Cd.ev, Option.some.injEq] at he; subst he
    exact wpIn_ret ⟨rfl, h⟩
end
end Go.Proofs.Ytbbpkkeaddbcnaa.ZIM
