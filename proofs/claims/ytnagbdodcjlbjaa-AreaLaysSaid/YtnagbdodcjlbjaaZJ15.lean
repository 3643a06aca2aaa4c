/- One operation: the ideal machine is sound. -/
import Derived.Test.YtnagbdodcjlbjaaZJ14
set_option linter.unusedSimpArgs false
set_option linter.unusedVariables false
namespace Go.Proofs.Ytnagbdodcjlbjaa.ZJM
open Go.RowKit

section
variable {P : Program} {okP : OkP × Tab} {d nt : Nat} {m0 : Mem} {g0 : Gh} {w0 : World} {g : Gh} {om : Nat → Value} {szm : Nat → Nat} {st : St} {a : Act} {w : World}

def chkDst (nt : Nat) (o : Oper) (c : COp) : Bool :=
  decide (o.dst = c.dst) && (match c.dst with | some t => decide (t < nt) | none => true) && (match c.op with | .store _ => c.dst.isNone | _ => true)

/-- The fence of a call, or of a round. -/
def Fw (ro : Option Nat) : Fence := { fn := fun _ => True, depth := none, alive := false, round := ro }

theorem call_upon {ro : Option Nat} {o : Oper} {f : FuncId} {ra : Array Value} {next : Act → World → Prop} {Q : Exit → Act → World → Prop} {R : Value → World → Prop}
    (hr : (execOp a.eval o).run P w = .ok (.enter f ra) w) (hc : CallsIn Fence.wide 0 P f ra w fun e w' => ∃ rv, e = .returned rv ∧ R rv w') (hn : ∀ rv w', R rv w' → next (a.put o.dst rv) w') :
    o.uponIn (Fw ro) 0 P a next Q ((execOp a.eval o).run P w) := by
  rw [hr, Oper.uponIn_enter]
  refine ⟨fun h => by simp [Fw] at h, ?_⟩
  have hc' : CallsIn (Fw ro) 0 P f ra w fun e w' => ∃ rv, e = .returned rv ∧ R rv w' := hc
  refine hc'.mono ?_
  rintro e w' ⟨rv, rfl, h⟩
  exact hn rv w' h
theorem round_upon {ro : Option Nat} {o : Oper} {l : Nat} {f : FuncId} {tmps : Array Value} {assign body : Code} {next : Act → World → Prop} {Q : Exit → Act → World → Prop} {R : Value → World → Prop}
    (hr : (execOp a.eval o).run P w = .ok (.round l f tmps assign body) w) (hc : RoundIn Fence.wide 0 P l f tmps assign body w fun e w' => ∃ rv, e = .returned rv ∧ R rv w') (hn : ∀ rv w', R rv w' → next (a.put o.dst rv) w') :
    o.uponIn (Fw ro) 0 P a next Q ((execOp a.eval o).run P w) := by
  rw [hr, Oper.uponIn_round]
  refine ⟨fun h => by simp [Fw] at h, ?_⟩
  have hc' : RoundIn (Fw ro) 0 P l f tmps assign body w fun e w' => ∃ rv, e = .returned rv ∧ R rv w' := hc
  refine hc'.mono ?_
  rintro e w' ⟨rv, rfl, h⟩
  exact hn rv w' h
theorem callEv_ok {K : Callee} (hK : Snd P okP K) (hok : OkG okP g0 w0) (h : Inv d nt m0 g0 w0 g om szm st a w) {dst : Option Nat} (hd : ∀ t, dst = some t → t < nt) {fv : PV} {vs : List PV} {rf : Value} {ra : Array Value} (hf : V g fv rf) (hl : vs.length = ra.size)
    (ha : ∀ j c, vs[j]? = some c → V g c (ra.getD j undef)) {pr : Bool} {st' : St} (he : callEv K pr st dst fv vs = some st') : Ends P rf ra w fun rv w' => InvE d nt m0 g0 w0 st' (a.put dst rv) w' := by
  unfold callEv at he
  split at he
  · rename_i v b own' m' hKe
    refine (hK _ _ _ _ _ _ _ hKe g w rf ra (hok.kp h.kp) h.rel hf (by simpa using hl) (fun j c hj => ?_) (fun c hc => ?_)).mono ?_
    · rw [List.getElem?_map] at hj
      obtain ⟨u, hu, rfl⟩ := Option.map_eq_some_iff.1 hj
      exact (ha j u hu).untag
    · obtain ⟨u, _, rfl⟩ := List.mem_map.1 hc; exact untag_untag u
    · rintro rv w' ⟨g', hp⟩
      exact h.called hp hd he
  · cases he
theorem args_V {as : Array Operand} {vs : List PV} (hl : as.toList.length = vs.length) (hV : ∀ (i : Nat) (v : PV) (x : Operand), vs[i]? = some v → as.toList[i]? = some x → V g v (a.eval x)) :
    vs.length = (as.map a.eval).size ∧ ∀ j c, vs[j]? = some c → V g c ((as.map a.eval).getD j undef) := by
  refine ⟨by simpa using hl.symm, fun j c hj => ?_⟩
  have hlt : j < as.size := by have := (List.getElem?_eq_some_iff.1 hj).1; simp at hl; omega
  have := hV j c as[j] hj (by simp [hlt])
  simpa [hlt] using this

theorem callH_ok {K : Callee} (hK : Snd P okP K) (hok : OkG okP g0 w0) (h : Inv d nt m0 g0 w0 g om szm st a w) {fv v : PV} {vs : List PV} {rf : Value} {ra : Array Value}
    (he : callH K fv vs = some v) (hf : V g fv rf) (hl : vs.length = ra.size) (ha : ∀ j c, vs[j]? = some c → V g c (ra.getD j undef)) :
    Ends P rf ra w fun rv w' => ∃ g', Inv d nt m0 g0 w0 g' om szm st a w' ∧ V g' v rv ∧ Tg st.tops om szm v rv := by
  simp only [callH] at he
  split at he
  · rename_i hdep
    simp only [Bool.and_eq_true] at hdep
    split at he
    · rename_i v' b hKe
      split at he
      · rename_i hbo hbt
        cases he
        let g1 : Gh := { g with blk := fun _ _ _ => none, lp := fun _ _ => none }
        have hV : ∀ u r, V g u r → u.dep 0 = true → V g1 u r := fun u r hu hd => V.under (g := g) (g' := g1) (n := 0) (fun _ _ _ x => x) (fun l s p hl => by omega) (fun l s hl => by omega) rfl hu hd
        have hR : Rel g1 [] w := ⟨h.rel.hG, (fun l s p b o t hb => by cases hb), (fun l s b r hb => by cases hb), (fun l s p l' s' p' b o t o' t' cs cs' hb => by cases hb), (fun l s l' s' b r r' cs cs' hb => by cases hb), (fun l s p j v x hb => by cases hb), (fun l s p x hb => by cases hb), (fun l s x hb => by cases hb), (fun l s p b o t hb => by cases hb), (fun l s b r hb => by cases hb), (fun l s q x y hb => by cases hb)⟩
        refine (hK _ _ _ _ _ _ _ hKe g1 w rf ra ⟨(hok.kp h.kp).1, (hok.kp h.kp).2.1, fun b hb => ⟨⟨(fun _ _ _ _ _ hh => by cases hh), (fun _ _ _ hh => by cases hh)⟩, ((hok.kp h.kp).2.2 b hb).2⟩⟩ hR (hV _ _ hf hdep.1) (by simpa using hl)
          (fun j c hj => by
            have hj' := hj
            rw [List.getElem?_map] at hj
            obtain ⟨u, hu, rfl⟩ := Option.map_eq_some_iff.1 hj
            exact hV _ _ (ha j u hu).untag (deps_mem hdep.2 _ (getElem?_mem' hj')))
          (fun c hc => by obtain ⟨u, _, rfl⟩ := List.mem_map.1 hc; exact untag_untag u)).mono ?_
        rintro rv w' ⟨g2, hp⟩
        have hk : Kp 0 g1 w g2 w' := hp.kp
        have hfree1 : ∀ b, g1.free b := fun b => ⟨(fun _ _ _ _ _ hh => by cases hh), (fun _ _ _ hh => by cases hh)⟩
        have hold : ∀ b, b < w.heap.size → w'.heap[b]? = w.heap[b]? ∧ ∀ q, g2.G b q = g.G b q := fun b hb => hk.keep b hb (hfree1 b)
        let g3 : Gh := { g2 with blk := g.blk, lp := g.lp }
        have hle : g.le g3 := ⟨fun b o u hu => hk.G b o u hu, fun _ _ _ _ x => x, fun _ _ _ x => x, hk.ok⟩
        have hb2 : ∀ l s p x, g2.blk l s p = some x → False := fun l s p x hx => by
          have h1 := hp.rel.lv _ _ _ _ hx
          simp only [List.length_cons, List.length_nil] at h1
          have h2 : l = 0 := by omega
          subst h2
          have := hp.nm _ _ _ hx
          rw [hbo] at this; simp at this
        have hl2 : ∀ l s x, g2.lp l s = some x → False := fun l s x hx => by
          have h1 := hp.rel.lpv _ _ _ hx
          simp only [List.length_cons, List.length_nil] at h1
          have h2 : l = 0 := by omega
          subst h2
          have h3 := hp.nmL s
          simp only [List.length_nil] at h3
          rw [h3] at hx; cases hx
        have hle2 : g2.le g3 := ⟨fun _ _ _ x => x, fun l s p x hx => (hb2 _ _ _ _ hx).elim, fun l s x hx => (hl2 _ _ _ hx).elim, rfl⟩
        obtain ⟨omb, szmb, ht, _⟩ := hp.tg
        refine ⟨g3, ?_, hp.val.mono hle2, ?_⟩
        · have hrel : Rel g3 (st.own :: st.m) w' := h.rel.world hk.size hp.rel.hG hle.G rfl rfl hk.ok (fun b C E hb _ => by
            have hlt := (Array.getElem?_eq_some_iff.1 hb).1
            exact ⟨by rw [(hold b hlt).1]; exact hb, (hold b hlt).2⟩) (fun b r hb => by
            have hlt := (Array.getElem?_eq_some_iff.1 hb).1
            rw [(hold b hlt).1]; exact hb)
          exact h.turn (own' := st.own) (dead' := st.dead) (m' := st.m) hle hrel h.lv ⟨hk.size, fun b hb _ => hold b hb, hle.G, fun _ _ _ _ _ x => x, fun _ _ _ => rfl, fun l s p b o t x => .inl ⟨l, s, p, o, t, x⟩, fun l s b r x => .inl ⟨l, s, r, x⟩, fun l s p x _ y => ⟨p, x, y⟩, hk.os, hk.tape, hk.output, hk.ok⟩ h.nm h.nmL (fun _ _ _ => rfl)
        · rw [hbt] at ht
          refine Tg.of_cells (fun u r hh => ?_) ht
          cases u with
          | lst o nl sz xs =>
            cases o with
            | none => trivial
            | some t => obtain ⟨q, hq, _⟩ := hh; simp [get] at hq
          | _ => trivial
      · cases he
    · cases he
  · cases he

/-- A call of a function by its name, or of a function value: the model's step. -/
theorem call_step {ro : Option Nat} {o : Oper} {f : FuncId} {as : Array Operand} {next : Act → World → Prop} {Q : Exit → Act → World → Prop} {R : Value → World → Prop} {c : Call} (ho : o.op = .call c) (hc : c.callee = .value (.func f)) (has : c.args = as)
    (he : Ends P (.func (.func f) #[] #[]) (as.map a.eval) w R) (hn : ∀ rv w', R rv w' → next (a.put o.dst rv) w') : o.uponIn (Fw ro) 0 P a next Q ((execOp a.eval o).run P w) := by
  obtain ⟨callee, args, ts⟩ := c
  simp only at hc has
  subst hc; subst has
  rcases he with ⟨f0, caps, fn, hrf, hfn, hbody, hname, hc⟩ | ⟨l, r, hrf, _⟩
  · injection hrf with hrf1 _ hrf3
    injection hrf1 with hrf1
    subst hrf1; subst hrf3
    refine call_upon (f := f) (ra := args.map a.eval ++ #[]) ?_ hc hn
    simp [execOp, ho, resolve, invoke, callFunc, Deferred.ofValue, Act.eval, hfn, hname, Option.isNone_iff_eq_none, Option.isSome_iff_ne_none.1 hbody]
  · injection hrf with hrf1; cases hrf1
theorem callv_step {ro : Option Nat} {o : Oper} {x : Operand} {as : Array Operand} {next : Act → World → Prop} {Q : Exit → Act → World → Prop} {R : Value → World → Prop} {c : Call} (ho : o.op = .call c) (hc : c.callee = .value x) (has : c.args = as)
    (he : Ends P (a.eval x) (as.map a.eval) w R) (hn : ∀ rv w', R rv w' → next (a.put o.dst rv) w') : o.uponIn (Fw ro) 0 P a next Q ((execOp a.eval o).run P w) := by
  obtain ⟨callee, args, ts⟩ := c
  simp only at hc has
  subst hc; subst has
  rcases he with ⟨f0, caps, fn, hrf, hfn, hbody, hname, hc⟩ | ⟨l, r, hrf, hlo, hsz, hc⟩
  · refine call_upon (f := f0) (ra := args.map a.eval ++ caps) ?_ hc hn
    simp [execOp, ho, resolve, invoke, callFunc, Deferred.ofValue, hrf, hfn, hname, Option.isNone_iff_eq_none, Option.isSome_iff_ne_none.1 hbody]
  · refine round_upon ?_ hc hn
    have := run_yield (P := P) hlo hsz
    simp [execOp, ho, resolve, invoke, callFunc, Deferred.ofValue, hrf, this]

theorem op_ok {ro : Option Nat} {K : Callee} (hK : Snd P okP K) (hok : OkG okP g0 w0) (h : Inv d nt m0 g0 w0 g om szm st a w) {o : Oper} {c : COp} (hk : chkC P o.op c.op c.args = true) (hdst : chkDst nt o c = true) {vs : List PV} (hv : evs st.f c.args = some vs) {st' : St}
    (he : opEv K c.dst c.op vs st = some st') {next : Act → World → Prop} {Q : Exit → Act → World → Prop} (hn : ∀ a' w', InvE d nt m0 g0 w0 st' a' w' → next a' w') :
    o.uponIn (Fw ro) 0 P a next Q ((execOp a.eval o).run P w) := by
  simp only [chkDst, Bool.and_eq_true, decide_eq_true_eq] at hdst
  obtain ⟨⟨hd1, hd2⟩, hd3⟩ := hdst
  have hd : ∀ t, c.dst = some t → t < nt := fun t ht => by rw [ht] at hd2; simpa using hd2
  have pure_case : ∀ v, c.op.ev st.own st.m vs = some v → st' = st.put c.dst v → o.uponIn (Fw ro) 0 P a next Q ((execOp a.eval o).run P w) := by
    intro v hv' hst
    obtain ⟨r, h1, h2, h3⟩ := pure_ok h hk hv hv'
    rw [h1, Oper.uponIn_value, hd1]
    exact hn _ _ ⟨g, om, szm, hst ▸ h.put hd h2 h3⟩
  obtain ⟨cdst, cg, cop, cargs⟩ := c
  simp only at hk hv he hd1 hd2 hd3 hd pure_case
  obtain ⟨dst, op, ty, pos, aft, gd⟩ := o
  simp only at hd1 hk
  subst hd1
  cases cop
  case store sz =>
    simp only [opEv] at he
    simp only [chkC] at hk
    split at hk
    · rename_i t x y
      simp only [Bool.and_eq_true, beq_iff_eq] at hk
      obtain ⟨u, v', rfl, h1, h2⟩ := opds2 h hk.2 hv
      simp only [on2] at he
      obtain ⟨w', g', h3, h4⟩ := store_ok h hk.1 h1.1 h2.1 he
      have hdn : dst = none := by simpa using hd3
      subst hdn
      have hr : (execOp a.eval ⟨none, .store t x y, ty, pos, aft, gd⟩).run P w = .ok .skip w' := by simp only [execOp, Sem.run_bind, h3, Result.andThen_ok, Sem.run_pure]
      rw [hr, Oper.uponIn_skip]
      exact hn _ _ ⟨g', om, szm, h4⟩
    · cases hk
  case alloc z =>
    simp only [opEv] at he
    simp only [chkC] at hk
    split at hk
    · rename_i t
      simp only [Bool.and_eq_true] at hk
      obtain ⟨zv, hz1, hz2, hz3, hz4⟩ := zeroOk_spec hk.1
      obtain ⟨g', h4⟩ := h.newVar (E := t) hd hz2 (fun j c hj => ⟨(hz3 c (getElem?_mem' hj)).1, hz4 g j c hj⟩) he
      have hr : (execOp a.eval ⟨dst, .alloc t, ty, pos, aft, gd⟩).run P w = .ok (.value (.pointer (some ⟨w.heap.size, 0, none⟩))) (w.alloc (.cells zv.cells t (0, 0))) := by
        simp only [execOp, Instr.alloc, Sem.run_bind, run_zero hz1, Result.andThen_ok, newVar, newRow, run_newObj, Sem.run_pure, Go.newVar]
        rfl
      rw [hr, Oper.uponIn_value]
      exact hn _ _ ⟨g', om, szm, h4⟩
    · cases hk
  case mks sz bytes z =>
    simp only [opEv] at he
    simp only [chkC] at hk
    split at hk
    · rename_i t x y
      simp only [Bool.and_eq_true] at hk
      obtain ⟨hf, hk⟩ := hk
      split at hf
      · rename_i e hse
        simp only [Bool.and_eq_true, beq_iff_eq] at hf
        obtain ⟨⟨hel, hzo⟩, hzl⟩ := hf
        obtain ⟨u, v', rfl, h1, h2⟩ := opds2 h hk hv
        simp only [on2] at he
        simp only [elemOk] at hel
        split at hel
        · rename_i i hi
          simp only [Bool.and_eq_true, beq_iff_eq, decide_eq_true_eq] at hel
          obtain ⟨⟨⟨⟨_, hsz⟩, hb⟩, hsz0⟩, hb0⟩ := hel
          obtain ⟨zv, hz1, hz2, hz3, hz4⟩ := zeroOk_spec hzo
          obtain ⟨r, w', g', h3, h4⟩ := mks_ok h (isSlice_eq hse) hi hsz hb hsz0 hb0 hz1 hz2 hz3 hz4 hzl hd h1.1 h2.1 he
          have hr : (execOp a.eval ⟨dst, .makeSlice t x y, ty, pos, aft, gd⟩).run P w = .ok (.value r) w' := by
            simp only [execOp, Sem.run_bind, h3, Result.andThen_ok, Sem.run_pure]
          rw [hr, Oper.uponIn_value]
          exact hn _ _ ⟨g', om, szm, h4⟩
        · cases hel
      · cases hf
    · cases hk
  case s2b tag e =>
    simp only [opEv] at he
    simp only [chkC] at hk
    split at hk
    · rename_i s dT x
      simp only [Bool.and_eq_true, beq_iff_eq, Bool.not_eq_true'] at hk
      obtain ⟨⟨⟨⟨hk1, hk2⟩, hk3⟩, rfl⟩, hk⟩ := hk
      obtain ⟨u, rfl, h1, _⟩ := opds1 h hk hv
      simp only [on1] at he
      obtain ⟨r, w', g', h3, h4⟩ := s2b_ok h (isStr_eq hk1) (isSlice_eq hk2) (isInt_eq hk3) hd h1 he
      have hr : (execOp a.eval ⟨dst, .convert s dT x, ty, pos, aft, gd⟩).run P w = .ok (.value r) w' := by
        simp only [execOp, Sem.run_bind, h3, Result.andThen_ok, Sem.run_pure]
      rw [hr, Oper.uponIn_value]
      exact hn _ _ ⟨g', om, szm, h4⟩
    · cases hk
  case fload ag sz =>
    simp only [opEv] at he
    simp only [chkC] at hk
    split at hk
    · rename_i t x
      simp only [Bool.and_eq_true, beq_iff_eq] at hk
      obtain ⟨u, rfl, h1, _⟩ := opds1 h hk.2 hv
      simp only [on1] at he
      obtain ⟨r, g', h3, h4⟩ := fload_ok h hk.1.1 hk.1.2 hd h1 he
      have hr : (execOp a.eval ⟨dst, .load t x, ty, pos, aft, gd⟩).run P w = .ok (.value r) w := by
        simp only [execOp, Sem.run_bind, h3, Result.andThen_ok, Sem.run_pure]
      rw [hr, Oper.uponIn_value]
      exact hn _ _ ⟨g', om, szm, h4⟩
    · cases hk
  case cpy sz =>
    simp only [opEv] at he
    simp only [chkC] at hk
    split at hk
    · rename_i as ts
      simp only [Bool.and_eq_true] at hk
      obtain ⟨hk1, hk3⟩ := hk
      split at hk1
      · rename_i t t2 hts
        split at hk1
        · rename_i e hse
          have hs := beq_iff_eq.1 hk1
          split at hk3
          · rename_i x y has
            obtain ⟨u, v', rfl, h1, h2⟩ := opds2 h hk3 hv
            simp only [on2] at he
            have has' : as = #[x, y] := by apply Array.ext'; simpa using has
            have hts' : ts = #[t, t2] := by apply Array.ext'; simpa using hts
            subst has'; subst hts'
            obtain ⟨r, w', h3, h4⟩ := cpy_ok (P := P) (sT := t2) (ty := ty) h (isSlice_eq hse) hs hd h1.1 h2.1 he
            have hr : (execOp a.eval ⟨dst, .call { callee := .builtin .copy, args := #[x, y], argTypes := #[t, t2] }, ty, pos, aft, gd⟩).run P w = .ok (.value r) w' := by
              simp [execOp, resolve, invoke, builtin, h3]
            rw [hr, Oper.uponIn_value]
            exact hn _ _ ⟨g, om, szm, h4⟩
          · cases hk3
        · cases hk1
      · cases hk1
    · cases hk
  case cpys =>
    simp only [opEv] at he
    simp only [chkC] at hk
    split at hk
    · rename_i as ts
      simp only [Bool.and_eq_true] at hk
      obtain ⟨hk1, hk3⟩ := hk
      split at hk1
      · rename_i t t2 hts
        split at hk1
        · rename_i e hse
          have hs := beq_iff_eq.1 hk1
          split at hk3
          · rename_i x y has
            obtain ⟨u, v', rfl, h1, h2⟩ := opds2 h hk3 hv
            simp only [on2] at he
            have has' : as = #[x, y] := by apply Array.ext'; simpa using has
            have hts' : ts = #[t, t2] := by apply Array.ext'; simpa using hts
            subst has'; subst hts'
            obtain ⟨r, w', h3, h4⟩ := cpys_ok (P := P) (sT := t2) (ty := ty) h (isSlice_eq hse) hs hd h1.1 h2.1 he
            have hr : (execOp a.eval ⟨dst, .call { callee := .builtin .copy, args := #[x, y], argTypes := #[t, t2] }, ty, pos, aft, gd⟩).run P w = .ok (.value r) w' := by
              simp [execOp, resolve, invoke, builtin, h3]
            rw [hr, Oper.uponIn_value]
            exact hn _ _ ⟨g, om, szm, h4⟩
          · cases hk3
        · cases hk1
      · cases hk1
    · cases hk
  case clr sz z =>
    simp only [opEv] at he
    simp only [chkC] at hk
    split at hk
    · rename_i as ts
      simp only [Bool.and_eq_true] at hk
      obtain ⟨hk1, hk3⟩ := hk
      split at hk1
      · rename_i t hts
        split at hk1
        · rename_i e hse
          simp only [Bool.and_eq_true, beq_iff_eq, decide_eq_true_eq] at hk1
          obtain ⟨⟨⟨hs, hzo⟩, hzl⟩, hs0⟩ := hk1
          split at hk3
          · rename_i x has
            obtain ⟨u, rfl, h1, _⟩ := opds1 h hk3 hv
            simp only [on1] at he
            have has' : as = #[x] := by apply Array.ext'; simpa using has
            have hts' : ts = #[t] := by apply Array.ext'; simpa using hts
            subst has'; subst hts'
            obtain ⟨zv, hz1, hz2, hz3, hz4⟩ := zeroOk_spec hzo
            obtain ⟨w', h3, h4⟩ := clr_ok (P := P) (ty := ty) h (isSlice_eq hse) hz1 hz2 hz3 hz4 hs0 hd h1 he
            have hr : (execOp a.eval ⟨dst, .call { callee := .builtin .clear, args := #[x], argTypes := #[t] }, ty, pos, aft, gd⟩).run P w = .ok (.value (.tuple #[])) w' := by
              simp [execOp, resolve, invoke, builtin, h3]
            rw [hr, Oper.uponIn_value]
            exact hn _ _ ⟨g, om, szm, h4⟩
          · cases hk3
        · cases hk1
      · cases hk1
    · cases hk
  case box =>
    simp only [opEv] at he
    simp only [chkC] at hk
    split at hk
    · rename_i t x
      obtain ⟨v', rfl, h1, h2⟩ := opds1 h hk hv
      simp only [on1] at he
      have hcell : v'.cells.all PV.isCell = true := by
        unfold Go.Proofs.Ytnagbdodcjlbjaa.ZJM.newVar at he
        split at he
        · split at he
          · rename_i hc; simp only [Bool.and_eq_true] at hc; exact hc.2
          · cases he
        · cases he
      have hval : v'.isVal = true := by
        cases v' <;> first | exact hcell | (simpa [PV.cells, PV.isVal] using hcell)
      obtain ⟨h3, h4⟩ := cells_V h1 hval
      obtain ⟨g', h6⟩ := h.newVar (E := t) hd h3 (fun j c hj => ⟨isVal_cells hval c (getElem?_mem' hj), h4 j c hj⟩) he
      have hr : (execOp a.eval ⟨dst, .box t x, ty, pos, aft, gd⟩).run P w = .ok (.value (.pointer (some ⟨w.heap.size, 0, none⟩))) (w.alloc (.cells (a.eval x).cells t (0, 0))) := by
        simp only [execOp, Instr.box, Sem.run_bind, Result.andThen_ok, newRow, run_newObj, Sem.run_pure, Go.newVar]
        rfl
      rw [hr, Oper.uponIn_value]
      exact hn _ _ ⟨g', om, szm, h6⟩
    · cases hk
  case nil tag sz e =>
    simp only [opEv] at he
    simp only [chkC] at hk
    obtain ⟨om', szm', h1⟩ := h.newNil hd he
    split at hk
    · rw [show (execOp a.eval ⟨dst, _, ty, pos, aft, gd⟩).run P w = .ok (.value (.slice none 0 0)) w from rfl, Oper.uponIn_value]
      exact hn _ _ ⟨g, om', szm', h1⟩
    · rw [show (execOp a.eval ⟨dst, _, ty, pos, aft, gd⟩).run P w = .ok (.value (.slice none 0 0)) w from rfl, Oper.uponIn_value]
      exact hn _ _ ⟨g, om', szm', h1⟩
    · cases hk
  case bsl tag sz e =>
    simp only [opEv] at he
    simp only [chkC] at hk
    split at hk
    · rename_i t n parts
      simp only [Bool.and_eq_true, beq_iff_eq, decide_eq_true_eq] at hk
      obtain ⟨⟨⟨⟨⟨⟨⟨hk1, hk2⟩, hk0⟩, hk3⟩, hk4⟩, hk5⟩, hk6⟩, hk7⟩ := hk
      obtain ⟨zv, hzv⟩ := Option.isSome_iff_exists.1 hk3
      obtain ⟨hl, hV⟩ := opds_V h hk7 hv
      split at he
      · -- an empty row of our own
        split at he
        · rename_i hmark
          cases dst with
          | none => simp [rowLit] at he
          | some dd =>
            simp only [rowLit] at he
            split at he
            · rename_i hfree
              cases he
              have hp0 : parts.toList.map (·.2) = [] := by
                have h8 := hl
                simp only [List.length_nil] at h8
                exact List.length_eq_zero_iff.1 (by first | exact h8.symm | exact h8 | omega)
              have hps : parts = #[] := by
                have : parts.toList = [] := List.map_eq_nil_iff.1 hp0
                exact Array.toList_eq_nil_iff.1 this
              have hr := run_buildSlice (isSlice_eq hk1) hk2 hzv [] (fun r hr => by cases hr) (by simp) w
              obtain ⟨g', h1⟩ := h.newRow (dst := dd) (E := e) (hd dd rfl) hfree (cs := []) (C := #[]) rfl (fun j c hj => by simp at hj) 0 (sz - rowMark) (by omega) (by simp)
              have hr2 : (execOp a.eval ⟨some dd, .buildSlice t n parts, ty, pos, aft, gd⟩).run P w = .ok (.value (.slice (some ⟨w.heap.size, 0, none⟩) 0 0)) (w.alloc (.cells #[] e (0, 0))) := by
                subst hps
                have hn0 : n = 0 := by simpa using hk4
                subst hn0
                simp only [execOp, Sem.run_bind]
                have e1 : (#[] : Array (Nat × Operand)).map (fun x => (x.1, a.eval x.2)) = (((([] : List Value).zipIdx 0).map fun x => (x.2, x.1)).toArray) := by simp
                rw [e1]
                have hr' := hr
                simp only [List.length_nil] at hr'
                rw [hr']
                rfl
              rw [hr2, Oper.uponIn_value]
              exact hn _ _ ⟨g', om, szm, h1⟩
            · cases he
        · cases he
      rename_i hmark
      have hrs : realSz sz = sz := if_neg hmark
      rw [hrs] at hk0 hk2 hk5
      split at he
      · rename_i hsz
        have hl' : vs.length = ((parts.toList.map (·.2)).map a.eval).length := by simpa using hl.symm
        have hV' : ∀ (i : Nat) (v : PV) (r : Value), vs[i]? = some v → ((parts.toList.map (·.2)).map a.eval)[i]? = some r → V g v r := by
          intro i v r hv' hr
          rw [List.getElem?_map] at hr
          obtain ⟨x, hx, rfl⟩ := Option.map_eq_some_iff.1 hr
          exact (hV i v x hv' hx).1
        have hrsz : ∀ r ∈ (parts.toList.map (·.2)).map a.eval, r.cells.size = sz := by
          intro r hr
          obtain ⟨i, hi⟩ := List.getElem?_of_mem hr
          have hilt := (List.getElem?_eq_some_iff.1 hi).1
          have hvi : vs[i]? = some (vs[i]'(by omega)) := List.getElem?_eq_getElem (by omega)
          have hx := List.all_eq_true.1 hsz _ (getElem?_mem' hvi)
          simp only [Bool.and_eq_true, beq_iff_eq] at hx
          have := (cells_V (hV' i _ r hvi hi) hx.1).1
          omega
        have hn1 : n = ((parts.toList.map (·.2)).map a.eval).length := by simp [hk4]
        have hparts : parts.map (fun x => (x.1, a.eval x.2)) = ((((parts.toList.map (·.2)).map a.eval).zipIdx 0).map fun x => (x.2, x.1)).toArray := by
          apply Array.ext'
          simp only [Array.toList_map]
          apply List.ext_getElem?
          intro i
          simp only [List.getElem?_map, List.getElem?_zipIdx, Nat.zero_add]
          have h6 := congrArg (fun l => l[i]?) hk6
          simp only [List.getElem?_map] at h6
          cases hp : parts.toList[i]? with
          | none => simp
          | some p =>
            rw [hp] at h6
            simp only [Option.map_some] at h6
            have h7 := (List.getElem?_eq_some_iff.1 h6.symm).2
            simp at h7
            simp [← h7]
        obtain ⟨g', om', szm', h1⟩ := h.lit (E := e) hd hl' hsz hV' (by
          have : ((parts.toList.map (·.2)).map a.eval).length * sz ≤ 2 ^ 24 := by rw [← hn1]; exact hk5
          have h1 : ((parts.toList.map (·.2)).map a.eval).length ≤ 2 ^ 24 := Nat.le_trans (Nat.le_mul_of_pos_right _ hk0) this
          exact Nat.le_trans h1 (Nat.le_trans (by decide) maxLen_ge)) he
        have hr := run_buildSlice (isSlice_eq hk1) hk2 hzv _ hrsz (by rw [← hn1]; exact hk5) w
        have hr2 : (execOp a.eval ⟨dst, .buildSlice t n parts, ty, pos, aft, gd⟩).run P w = .ok (.value (.slice (some ⟨w.heap.size, 0, none⟩) ((parts.toList.map (·.2)).map a.eval).length ((parts.toList.map (·.2)).map a.eval).length))
            (w.alloc (.cells (((parts.toList.map (·.2)).map a.eval).flatMap (·.cells.toList)).toArray e (0, 0))) := by
          simp only [execOp, Sem.run_bind]
          rw [hparts, hn1, hr]
          rfl
        rw [hr2, Oper.uponIn_value]
        exact hn _ _ ⟨g', om', szm', h1⟩
      · cases he
    · cases hk
  case app tag sz bytes e =>
    simp only [opEv] at he
    simp only [chkC] at hk
    split at hk
    · rename_i as ts
      simp only [Bool.and_eq_true] at hk
      obtain ⟨⟨hk1, hk2⟩, hk3⟩ := hk
      split at hk1
      · rename_i t t' hts
        simp only [Bool.and_eq_true, beq_iff_eq] at hk1
        obtain ⟨rfl, hse⟩ := hk1
        split at hk3
        · rename_i x y has
          obtain ⟨u, v', rfl, h1, h2⟩ := opds2 h hk3 hv
          simp only [on2] at he
          have has' : as = #[x, y] := by apply Array.ext'; simpa using has
          have hts' : ts = #[t, t] := by apply Array.ext'; simpa using hts
          subst has'; subst hts'
          simp only [elemOk] at hk2
          split at hk2
          · rename_i i hi
            simp only [Bool.and_eq_true, beq_iff_eq, decide_eq_true_eq] at hk2
            obtain ⟨⟨⟨⟨hz, hs⟩, hb⟩, hs0⟩, hb0⟩ := hk2
            split at hz
            · rename_i z hz'
              have hzs := beq_iff_eq.1 hz
              split at he
              · rename_i y' hy'
                obtain ⟨r, w', g', om', szm', h3, h4⟩ := app_ok (ty := ty) h (isSlice_eq hse) hi hz' hb hb0 (by rw [hzs, hs]) hs hs0 hd h1.1 h1.2 (deref_src h h2.1 hy') he
                have hr : (execOp a.eval ⟨dst, .call { callee := .builtin .append, args := #[x, y], argTypes := #[t, t] }, ty, pos, aft, gd⟩).run P w = .ok (.value r) w' := by
                  simp [execOp, resolve, invoke, builtin, h3]
                rw [hr, Oper.uponIn_value]
                exact hn _ _ ⟨g', om', szm', h4⟩
              · cases he
            · cases hz
          · cases hk2
        · cases hk3
      · cases hk1
    · cases hk
  case appr sz bytes e =>
    simp only [opEv] at he
    simp only [chkC] at hk
    split at hk
    · rename_i as ts
      simp only [Bool.and_eq_true] at hk
      obtain ⟨⟨hk1, hk2⟩, hk3⟩ := hk
      split at hk1
      · rename_i t t' hts
        simp only [Bool.and_eq_true, beq_iff_eq] at hk1
        obtain ⟨rfl, hse⟩ := hk1
        split at hk3
        · rename_i x y has
          obtain ⟨u, v', rfl, h1, h2⟩ := opds2 h hk3 hv
          simp only [on2] at he
          have has' : as = #[x, y] := by apply Array.ext'; simpa using has
          have hts' : ts = #[t, t] := by apply Array.ext'; simpa using hts
          subst has'; subst hts'
          simp only [elemOk] at hk2
          split at hk2
          · rename_i i hi
            simp only [Bool.and_eq_true, beq_iff_eq, decide_eq_true_eq] at hk2
            obtain ⟨⟨⟨⟨hz, hs⟩, hb⟩, hs0⟩, hb0⟩ := hk2
            split at hz
            · rename_i z hz'
              have hzs := beq_iff_eq.1 hz
              split at he
              · rename_i y' hy'
                obtain ⟨r, w', g', h3, h4⟩ := appr_ok (ty := ty) h (isSlice_eq hse) hi hz' hb hb0 (by rw [hzs, hs]) hs hs0 hd h1.1 (deref_src h h2.1 hy') he
                have hr : (execOp a.eval ⟨dst, .call { callee := .builtin .append, args := #[x, y], argTypes := #[t, t] }, ty, pos, aft, gd⟩).run P w = .ok (.value r) w' := by
                  simp [execOp, resolve, invoke, builtin, h3]
                rw [hr, Oper.uponIn_value]
                exact hn _ _ ⟨g', om, szm, h4⟩
              · cases he
            · cases hz
          · cases hk2
        · cases hk3
      · cases hk1
    · cases hk
  case call f pr =>
    simp only [opEv] at he
    simp only [chkC] at hk
    split at hk
    · rename_i f' as ts
      simp only [Bool.and_eq_true, beq_iff_eq] at hk
      obtain ⟨rfl, hk⟩ := hk
      obtain ⟨hl, hV⟩ := opds_V h hk hv
      obtain ⟨hl2, hV2⟩ := args_V (a := a) (g := g) hl (fun i v x h1 h2 => (hV i v x h1 h2).1)
      rcases callEv_ok hK hok h hd (rf := .func (.func f) #[] #[]) (.fn f [] #[] rfl (fun j c hj => by simp at hj)) hl2 hV2 he with ⟨f0, caps, fn, hrf, hfn, hbody, hname, hc⟩ | ⟨l, r, hrf, _⟩
      · injection hrf with hrf1 _ hrf3
        injection hrf1 with hrf1
        subst hrf1; subst hrf3
        refine call_upon (f := f) (ra := as.map a.eval ++ #[]) ?_ hc fun rv w' hi => hn _ _ hi
        simp [execOp, resolve, invoke, callFunc, Deferred.ofValue, Act.eval, hfn, hname, Option.isNone_iff_eq_none, Option.isSome_iff_ne_none.1 hbody]
      · injection hrf with hrf1; cases hrf1
    · cases hk
  case callv =>
    simp only [opEv] at he
    simp only [chkC] at hk
    split at hk
    · rename_i x as ts
      split at he
      · rename_i fv vs'
        obtain ⟨hl, hV⟩ := opds_V h hk hv
        have hx := hV 0 fv x rfl rfl
        obtain ⟨hl2, hV2⟩ := args_V (a := a) (g := g) (as := as) (vs := vs') (by simpa using hl) (fun i v y h1 h2 => (hV (i + 1) v y (by simpa using h1) (by simpa using h2)).1)
        rcases callEv_ok hK hok h hd hx.1 hl2 hV2 he with ⟨f0, caps, fn, hrf, hfn, hbody, hname, hc⟩ | ⟨l, r, hrf, hlo, hsz, hc⟩
        · refine call_upon (f := f0) (ra := as.map a.eval ++ caps) ?_ hc fun rv w' hi => hn _ _ hi
          simp [execOp, resolve, invoke, callFunc, Deferred.ofValue, hrf, hfn, hname, Option.isNone_iff_eq_none, Option.isSome_iff_ne_none.1 hbody]
        · refine round_upon ?_ hc fun rv w' hi => hn _ _ hi
          have := run_yield (P := P) hlo hsz
          simp [execOp, resolve, invoke, callFunc, Deferred.ofValue, hrf, this]
      · cases he
    · cases hk
  case callh f =>
    simp only [opEv, putO] at he
    simp only [chkC] at hk
    split at hk
    · rename_i f' as ts
      simp only [Bool.and_eq_true, beq_iff_eq] at hk
      obtain ⟨rfl, hk⟩ := hk
      obtain ⟨hl, hV⟩ := opds_V h hk hv
      obtain ⟨hl2, hV2⟩ := args_V (a := a) (g := g) hl (fun i v x h1 h2 => (hV i v x h1 h2).1)
      split at he
      · rename_i v' hcv
        cases he
        refine call_step rfl rfl rfl (callH_ok hK hok h (rf := .func (.func f) #[] #[]) hcv (.fn f [] #[] rfl (fun j c hj => by simp at hj)) hl2 hV2) ?_
        rintro rv w' ⟨g', hi, hvv, hu⟩
        exact hn _ _ ⟨g', om, szm, hi.put hd hvv hu⟩
      · cases he
    · cases hk
  case callvh =>
    simp only [opEv, putO] at he
    simp only [chkC] at hk
    split at hk
    · rename_i x as ts
      split at he
      · rename_i v' hcv
        cases he
        unfold callHv at hcv
        split at hcv
        · rename_i fv vs'
          obtain ⟨hl, hV⟩ := opds_V h hk hv
          have hx := hV 0 fv x rfl rfl
          obtain ⟨hl2, hV2⟩ := args_V (a := a) (g := g) (as := as) (vs := vs') (by simpa using hl) (fun i v y h1 h2 => (hV (i + 1) v y (by simpa using h1) (by simpa using h2)).1)
          refine callv_step rfl rfl rfl (callH_ok hK hok h hcv hx.1 hl2 hV2) ?_
          rintro rv w' ⟨g', hi, hvv, hu⟩
          exact hn _ _ ⟨g', om, szm, hi.put hd hvv hu⟩
        · cases hcv
      · cases he
    · cases hk
  all_goals
    simp only [opEv] at he
    split at he
    · rename_i v hv'
      exact pure_case v hv' (Option.some.inj he).symm
    · cases he
end
end Go.Proofs.Ytnagbdodcjlbjaa.ZJM
