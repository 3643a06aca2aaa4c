/- A region whose order is open. -/
import Derived.Test.YtbbpkkeaddbcnaaZIM13
import Derived.OrdersIn
set_option linter.unusedSimpArgs false
set_option linter.unusedVariables false
namespace Go.Proofs.Ytbbpkkeaddbcnaa.ZIM
open Go.RowKit

/-! ### the check -/
def opdSlot : Opd → Option Nat
  | .t n => some n
  | .c _ => none
def slotsOf (c : COp) : List Nat := (match c.guard with | some (g, _) => [g] | none => []) ++ c.args.filterMap opdSlot
def touches (s : Option Nat) (c : COp) : Bool :=
  match s with
  | some s => (slotsOf c).contains s || c.dst == some s
  | none => false
def edgeMask (rows : List Nat) (j : Nat) : List Edge → Nat
  | [] => 0
  | e :: r => if (Region.binds .any e && decide (e.on < j)) = true then (2 ^ e.on ||| rows.getD e.on 0) ||| edgeMask rows j r else edgeMask rows j r
/-- Operation j waits for what its row says. -/
def rowOk (rows : List Nat) (j : Nat) (o : Oper) : Bool :=
  (rows.getD j 0 &&& edgeMask rows j o.after.toList == rows.getD j 0) && o.after.all fun e => !Region.binds .any e || decide (e.on < j)
def pairsOk (rows : List Nat) (cs : List COp) (n : Nat) : Bool :=
  (List.range n).all fun i => (List.range i).all fun j => match cs[i]?, cs[j]? with
    | some a, some b => !(touches b.dst a || touches a.dst b) || (rows.getD i 0).testBit j
    | _, _ => true
def bslOk (c : COp) : Bool :=
  match c.op with
  | .bsl _ _ _ => c.dst.isSome
  | _ => true
def tailOk (rows : List Nat) (k n : Nat) : Bool := (List.range n).all fun i => decide (i < k) || (List.range i).all fun j => (rows.getD i 0).testBit j
def rowsOk (rows : List Nat) : Nat → List Oper → Bool
  | _, [] => true
  | j, o :: os => rowOk rows j o && rowsOk rows (j + 1) os
def drawOk (ops : Array Oper) (cs : List COp) (k : Nat) (rows : List Nat) : Bool :=
  cs.all bslOk && decide (k ≤ cs.length) && rowsOk rows 0 ops.toList && pairsOk rows cs k && tailOk rows k cs.length

section
variable {P : Program} {d nt : Nat} {m0 : Mem} {g0 : Gh} {w0 : World}

/-! ### an operation that only reads -/
theorem callH_ok {K : Callee} (hK : Snd P K) {g : Gh} {om : Nat → Value} {szm : Nat → Nat} {st : St} {a : Act} {w : World} (h : Inv d nt m0 g0 w0 g om szm st a w) {fv v : PV} {vs : List PV} {rf : Value} {ra : Array Value}
    (he : callH K fv vs = some v) (hf : V g fv rf) (hl : vs.length = ra.size) (ha : ∀ j c, vs[j]? = some c → V g c (ra.getD j undef)) :
    ∃ f caps fn, rf = .func (.func f) #[] caps ∧ P.funcs[f]? = some fn ∧ fn.body.isSome = true ∧ fn.name ≠ "runtime.NumGoroutine" ∧
      CallsIn Fence.wide 0 P f (ra ++ caps) w fun e w' => ∃ rv, e = .returned rv ∧ ∃ g', Inv d nt m0 g0 w0 g' om szm st a w' ∧ V g' v rv ∧ v.untag = v := by
  simp only [callH] at he
  split at he
  · rename_i hdep
    simp only [Bool.and_eq_true] at hdep
    split at he
    · rename_i v' hKe
      cases he
      let g1 : Gh := { g with blk := fun _ _ => none }
      have hV : ∀ u r, V g u r → u.dep 0 = true → V g1 u r := fun u r hu hd => V.under (g := g) (g' := g1) (n := 0) (fun _ _ _ x => x) (fun l s hl => by omega) hu hd
      have hR : Rel g1 [] w := ⟨h.rel.hG, (fun l s b hb => by cases hb), (fun l s l' s' b hb => by cases hb)⟩
      obtain ⟨f, caps, fn, h1, h2, h3, h4, h5⟩ := hK _ _ _ _ _ hKe g1 w rf ra hR (hV _ _ hf hdep.1) (by simpa using hl)
        (fun j c hj => by
          have hj' := hj
          rw [List.getElem?_map] at hj
          obtain ⟨u, hu, rfl⟩ := Option.map_eq_some_iff.1 hj
          exact hV _ _ (ha j u hu).untag (deps_mem hdep.2 _ (getElem?_mem' hj')))
        (fun c hc => by obtain ⟨u, _, rfl⟩ := List.mem_map.1 hc; exact untag_untag u)
      refine ⟨f, caps, fn, h1, h2, h3, h4, h5.mono ?_⟩
      rintro e w' ⟨rv, g2, rfl, hp⟩
      have hk : Kp 0 g1 w g2 w' := hp.kp
      have hold : ∀ b, b < w.heap.size → w'.heap[b]? = w.heap[b]? := fun b hb => hk.heap b hb (fun l s hh => by cases hh)
      let g3 : Gh := { g2 with blk := g.blk }
      have hle : g.le g3 := ⟨fun b o u hu => hk.G b o u hu, fun _ _ _ x => x⟩
      have hb2 : ∀ l s b, g2.blk l s = some b → False := fun l s b hb => by have := hp.rel.lt l s b hb; simp at this
      have hle2 : g2.le g3 := ⟨fun _ _ _ x => x, fun l s b hb => (hb2 l s b hb).elim⟩
      refine ⟨rv, rfl, g3, ?_, hp.val.mono hle2, hp.un⟩
      refine h.world hle ⟨hp.rel.hG, fun l s b hb => ?_, h.rel.inj⟩ (fun n p b hn hb => ?_) (fun sl cs b C E hs hb hh => ?_) ?_ (fun l s b _ hb => ⟨hb, hold b (h.rel.blkLt hb)⟩)
      · obtain ⟨cs, C, E, a1, a2, a3, a4, a5⟩ := h.rel.hM l s b hb
        have hlt := h.rel.blkLt hb
        refine ⟨cs, C, E, a1, by rw [hold b hlt]; exact a2, a3, fun j c hj => ?_, fun o => ?_⟩
        · obtain ⟨x, y, z⟩ := a4 j c hj; exact ⟨x, y, z.mono hle⟩
        · show g2.G b o = none
          rw [hk.Gold b o hlt]; exact a5 o
      · have hlt := (h.ownLt hn hb).2
        obtain ⟨vals, x, y⟩ := h.own n p hn
        exact ⟨hold b hlt, (y b hb).1, fun j => hk.Gold b j hlt⟩
      · have hlt := h.rel.blkLt (show g.blk d sl = some b from hb)
        rw [hold b hlt] at hh
        exact h.tb sl cs b C E hs hb hh
      · refine ⟨Nat.le_trans h.kp.size hk.size, fun b hb hn => ?_, fun b o u hu => hk.G _ _ _ (h.kp.G _ _ _ hu), fun b o hb => ?_, h.kp.blk, hk.os.trans h.kp.os, hk.tape.trans h.kp.tape, hk.output.trans h.kp.output, h.kp.new⟩
        · rw [hold b (by have := h.kp.size; omega)]; exact h.kp.heap b hb hn
        · show g2.G b o = _
          rw [hk.Gold b o (by have := h.kp.size; omega)]; exact h.kp.Gold b o hb
    · cases he
  · cases he

theorem opH_ok {ro : Option Nat} {K : Callee} (hK : Snd P K) {g : Gh} {om : Nat → Value} {szm : Nat → Nat} {st : St} {a : Act} {w : World} (h : Inv d nt m0 g0 w0 g om szm st a w) {o : Oper} {c : COp} (hk : chkC P o.op c.op c.args = true) (hdst : chkDst nt o c = true) (hbs : bslOk c = true) {vs : List PV} (hv : evs st.f c.args = some vs)
    {v : PV} (he : opH K c.op vs st = some v) {next : Act → World → Prop} {Q : Exit → Act → World → Prop} (hn : ∀ a' w', InvE d nt m0 g0 w0 (st.put c.dst v) a' w' → next a' w') :
    o.uponIn (Fw ro) 0 P a next Q ((execOp a.eval o).run P w) := by
  have hdst0 := hdst
  simp only [chkDst, Bool.and_eq_true, decide_eq_true_eq] at hdst
  obtain ⟨⟨hd1, hd2⟩, hd3⟩ := hdst
  have hd : ∀ t, c.dst = some t → t < nt := fun t ht => by rw [ht] at hd2; simpa using hd2
  have pure_case : ∀ v', c.op.ev st.own st.m vs = some v' → v' = v → o.uponIn (Fw ro) 0 P a next Q ((execOp a.eval o).run P w) := by
    intro v' hv' hst
    subst hst
    obtain ⟨r, h1, h2, h3⟩ := pure_ok h hk hv hv'
    rw [h1, Oper.uponIn_value, hd1]
    exact hn _ _ ⟨g, om, szm, h.put hd h2 h3⟩
  obtain ⟨cdst, cg, cop, cargs⟩ := c
  simp only at hk hv he hd1 hd2 hd3 hd pure_case hn
  cases cop
  case nil tag sz e =>
    simp only [opH] at he
    split at he
    · cases he
    · rename_i ht
      have ht' : tag = false := by simpa using ht
      subst ht'
      cases he
      have key : (execOp a.eval o).run P w = .ok (.value (.slice none 0 0)) w := by
        obtain ⟨dst, op, ty, pos, aft, gd⟩ := o
        simp only [chkC] at hk
        split at hk
        · rfl
        · rfl
        · cases hk
      rw [key, Oper.uponIn_value, hd1]
      exact hn _ _ ⟨g, om, szm, h.put hd (.nil none sz) (by simp only [Tg]; trivial)⟩
  case bsl tag sz e =>
    simp only [opH] at he
    split at he
    · cases he
    · rename_i ht
      have ht' : tag = false := by simpa using ht
      subst ht'
      split at he
      · rename_i hsz
        cases he
        cases cdst with
        | none => simp [bslOk] at hbs
        | some dd =>
          refine op_ok (ro := ro) hK h (c := ⟨some dd, cg, .bsl false sz e, cargs⟩) hk hdst0 hv (st' := st.put (some dd) (.lst none false sz (vs.map PV.untag))) ?_ hn
          simp [opEv, hsz, newList, St.put]
      · cases he
  case call f =>
    simp only [opH] at he
    obtain ⟨dst, op, ty, pos, aft, gd⟩ := o
    simp only [chkC] at hk
    split at hk
    · rename_i f' as ts
      simp only [Bool.and_eq_true, beq_iff_eq] at hk
      obtain ⟨rfl, hk⟩ := hk
      obtain ⟨hl, hV⟩ := opds_V h hk hv
      obtain ⟨f0, caps, fn, hrf, hfn, hbody, hname, hc⟩ := callH_ok hK h (rf := .func (.func f) #[] #[]) (ra := as.map a.eval) he (.fn f [] #[] rfl (fun j c hj => by simp at hj)) (by simpa using hl.symm)
        (fun j c hj => by
          have hlt : j < as.size := by have := (List.getElem?_eq_some_iff.1 hj).1; simp at hl; omega
          have := (hV j c as[j] hj (by simp [hlt])).1
          simpa [hlt] using this)
      injection hrf with hrf1 _ hrf3
      injection hrf1 with hrf1
      subst hrf1; subst hrf3
      refine call_upon (fn := fn) (f := f) (ra := as.map a.eval ++ #[]) ?_ hc ?_
      · simp [execOp, resolve, invoke, callFunc, Deferred.ofValue, Act.eval, hfn, hname, Option.isNone_iff_eq_none, Option.isSome_iff_ne_none.1 hbody]
      · rintro rv w' ⟨g', hi, hvv, hu⟩
        simp only at hd1
        rw [hd1]
        exact hn _ _ ⟨g', om, szm, hi.put hd hvv (Tg_of hu)⟩
    · cases hk
  case callv =>
    simp only [opH] at he
    obtain ⟨dst, op, ty, pos, aft, gd⟩ := o
    simp only [chkC] at hk
    split at hk
    · rename_i x as ts
      split at he
      · rename_i fv vs'
        obtain ⟨hl, hV⟩ := opds_V h hk hv
        have hl2 : as.toList.length = vs'.length := by simpa using hl
        have hx := hV 0 fv x rfl rfl
        obtain ⟨f0, caps, fn, hrf, hfn, hbody, hname, hc⟩ := callH_ok hK h (rf := a.eval x) (ra := as.map a.eval) he hx.1 (by simpa using hl2.symm)
          (fun j c hj => by
            have hlt : j < as.size := by have := (List.getElem?_eq_some_iff.1 hj).1; simp at hl2; omega
            have := (hV (j + 1) c as[j] (by simpa using hj) (by simp [hlt])).1
            simpa [hlt] using this)
        refine call_upon (fn := fn) (f := f0) (ra := as.map a.eval ++ caps) ?_ hc ?_
        · simp [execOp, resolve, invoke, callFunc, Deferred.ofValue, hrf, hfn, hname, Option.isNone_iff_eq_none, Option.isSome_iff_ne_none.1 hbody]
        · rintro rv w' ⟨g', hi, hvv, hu⟩
          simp only at hd1
          rw [hd1]
          exact hn _ _ ⟨g', om, szm, hi.put hd hvv (Tg_of hu)⟩
      · cases he
    · cases hk
  all_goals
    simp only [opH] at he
    exact pure_case v he rfl

theorem copH_ok {ro : Option Nat} {K : Callee} (hK : Snd P K) {ops : Array Oper} {o : Oper} {c : COp} (hc : chkOper P nt ops o c = true) (hbs : bslOk c = true) {st : St} {v : PV} {a : Act} {w : World} (h : InvE d nt m0 g0 w0 st a w) (he : c.evH K st = some v)
    {next : Act → World → Prop} {Q : Exit → Act → World → Prop} (hn : ∀ a' w', InvE d nt m0 g0 w0 (st.put c.dst v) a' w' → next a' w') :
    if Region.wanted o (yielded ops a.tmps) then o.wpIn (Fw ro) 0 P a w next Q else (∀ f, o.about P w a.eval = some f → (Fw ro).fn f) ∧ next (a.put o.dst undef) w := by
  simp only [chkOper, Bool.and_eq_true] at hc
  obtain ⟨⟨hc1, hc2⟩, hc3⟩ := hc
  have run : ∀ vs, evs st.f c.args = some vs → opH K c.op vs st = some v → o.wpIn (Fw ro) 0 P a w next Q := by
    intro vs hv hop
    obtain ⟨g, om, szm, hi⟩ := h
    refine ⟨fun _ _ => trivial, ?_⟩
    have hsem : o.semAt (Fw ro).round a.eval = execOp a.eval o := semAt_ok hc1 a.eval
    rw [hsem]
    exact opH_ok hK hi hc1 hc2 hbs hv hop hn
  simp only [COp.evH] at he
  cases hg : o.guard with
  | none =>
    rw [wanted_none hg, if_pos rfl]
    have hcg : c.guard = none := by
      simp only [guardOk, hg] at hc3
      split at hc3 <;> first | assumption | cases hc3 | simp_all
    rw [hcg] at he
    simp only at he
    split at he
    · rename_i vs hv; exact run vs hv he
    · cases he
  | some p =>
    obtain ⟨j, b⟩ := p
    obtain ⟨s, hcg, hjs⟩ : ∃ s, c.guard = some (s, b) ∧ (ops[j]?).bind (·.dst) = some s := by
      simp only [guardOk, hg] at hc3
      split at hc3
      · simp_all
      · rename_i j' b1 s b' h1 h2
        simp only [Bool.and_eq_true, beq_iff_eq, decide_eq_true_eq] at hc3
        cases h1
        obtain ⟨rfl, h3⟩ := hc3
        exact ⟨s, h2, h3⟩
      · cases hc3
    rw [hcg] at he
    simp only at he
    split at he
    · rename_i b2 hs
      have hy := yielded_ok h hjs hs
      rw [wanted_some hg, hy]
      split at he
      · rename_i hb
        have : b2 = b := beq_iff_eq.1 hb
        subst this
        simp only [beq_self_eq_true, if_true]
        split at he
        · rename_i vs hv; exact run vs hv he
        · cases he
      · rename_i hb
        have hne : b2 ≠ b := by simpa using hb
        cases he
        rw [if_neg (by simpa using hne)]
        refine ⟨fun _ _ => trivial, hn _ _ ?_⟩
        have hdst : o.dst = c.dst := by simp only [chkDst, Bool.and_eq_true, decide_eq_true_eq] at hc2; exact hc2.1.1
        rw [hdst]
        refine h.und fun t ht => ?_
        simp only [chkDst, Bool.and_eq_true, decide_eq_true_eq] at hc2
        have := hc2.1.2
        rw [ht] at this
        simpa using this
    · rename_i hs
      have hy := yielded_und h hjs hs
      rw [wanted_some hg, hy]
      cases he
      rw [if_neg (by simp)]
      refine ⟨fun _ _ => trivial, hn _ _ ?_⟩
      have hdst : o.dst = c.dst := by simp only [chkDst, Bool.and_eq_true, decide_eq_true_eq] at hc2; exact hc2.1.1
      rw [hdst]
      refine h.und fun t ht => ?_
      simp only [chkDst, Bool.and_eq_true, decide_eq_true_eq] at hc2
      have := hc2.1.2
      rw [ht] at this
      simpa using this
    · cases he
end
end Go.Proofs.Ytbbpkkeaddbcnaa.ZIM
