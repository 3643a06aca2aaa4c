/- Code: the ideal machine is sound. -/
import Derived.Test.YtmffcpiffkclgaaZJ18
import Derived.Test.YtmffcpiffkclgaaZJ17C
set_option linter.unusedSimpArgs false
set_option linter.unusedVariables false
namespace Go.Proofs.Ytmffcpiffkclgaa.ZJM
open Go.RowKit

theorem nodupB_spec : ∀ {l : List Nat}, nodupB l = true → l.Nodup
  | [], _ => List.nodup_nil
  | x :: r, h => by
    simp only [nodupB, Bool.and_eq_true, Bool.not_eq_true'] at h
    rw [List.nodup_cons]
    refine ⟨fun hm => ?_, nodupB_spec h.2⟩
    have : r.contains x = true := by simpa using hm
    rw [h.1] at this; cases this
def chkCd (P : Program) (nt : Nat) : Option (FuncId × List Rd) → Code → Cd → Bool
  | _, .skip, .skip => true
  | _, .region _ ops draw, .reg cs => !draw && chkOps P nt ops ops.toList cs
  | _, .region _ ops draw, .draw k rows cs => draw && chkOps P nt ops ops.toList cs && (if k = xMode then drawxOk ops cs rows else drawOk ops cs k rows)
  | o, .seq a b, .seq a' b' => chkCd P nt o a a' && chkCd P nt o b b'
  | o, .cond c a b, .cond c' a' b' => opdOk c c' && chkCd P nt o a a' && chkCd P nt o b b'
  | o, .block id a, .block id' a' => id == id' && chkCd P nt o a a'
  | o, .loop a, .loop _ _ _ _ a' => chkCd P nt o a a'
  | some (f0, rds), .rangeFunc g ps assign body, .range g' _ fs f i => f == f0 && opdOk g g' && (match rds[i]? with
      | some rd => decide (rd.ps = ps.toList) && decide (rd.fs = fs) && nodupB rd.ps && rd.ps.all (fun t => decide (t < nt)) && chkCd P nt none assign rd.assign && chkCd P nt none body rd.body
      | none => false)
  | _, .exit id, .exit id' => id == id'
  | _, .ret, .ret => true
  | _, _, _ => false
def resOk (P : Program) : ResultVar → ResC → Bool
  | .tmp t, .t t' _ => t == t'
  | .cell a t, .cell a' ag sz => a == a' && tyAg P t == some ag && tySz P t == some sz
  | _, _ => false
def ressOk (P : Program) : List ResultVar → List ResC → Bool
  | [], [] => true
  | r :: rs, c :: cs => resOk P r c && ressOk P rs cs
  | _, _ => false
def chkFn (P : Program) (f : FuncId) (fn : Func) (c : CFn) : Bool :=
  match fn.body with
  | some b => decide (c.np ≤ fn.ntmps) && decide (fn.name ≠ "runtime.NumGoroutine") && ressOk P fn.results.toList c.res && chkCd P fn.ntmps (some (f, c.rds)) b c.body
  | none => false
/-- The code of a loop's rounds. -/
def RoOk (P : Program) (fns : FuncId → Option CFn) : OkP := fun f i fs r =>
  ∃ c rd, fns f = some c ∧ c.rds[i]? = some rd ∧ rd.fs = fs ∧ r.params.toList = rd.ps ∧ rd.ps.Nodup ∧ (∀ t ∈ rd.ps, t < r.tmps.size) ∧ (∀ s ∈ fs, s < r.tmps.size) ∧
    chkCd P r.tmps.size none r.assign rd.assign = true ∧ chkCd P r.tmps.size none r.body rd.body = true

section
variable {P : Program} {okP : OkP × Tab} {d nt : Nat} {m0 : Mem} {g0 : Gh} {w0 : World}

/-- How code ends. -/
def QE (d nt : Nat) (m0 : Mem) (g0 : Gh) (w0 : World) (r : Ex × St) : Exit → Act → World → Prop
  | .normal, a, w => r.1 = .normal ∧ InvE d nt m0 g0 w0 r.2 a w
  | .exit id, a, w => r.1 = .exit id ∧ InvE d nt m0 g0 w0 r.2 a w
  | .ret, a, w => r.1 = .ret ∧ InvE d nt m0 g0 w0 r.2 a w
  | _, _, _ => False

theorem gets_caps {f : List (Nat × PV)} : ∀ {fs : List Nat} {caps : List (Nat × PV)}, gets f fs = some caps → caps.length = fs.length ∧ ∀ (j : Nat) (c : Nat × PV) (s : Nat), caps[j]? = some c → fs[j]? = some s → get f s = some c.2
  | [], caps, h => by simp only [gets, Option.some.injEq] at h; subst h; exact ⟨rfl, fun j c s hc => by simp at hc⟩
  | t :: fs, caps, h => by
    simp only [gets] at h
    split at h
    · rename_i v vs hv hvs
      cases h
      obtain ⟨h1, h2⟩ := gets_caps hvs
      refine ⟨by simp [h1], fun j c s hc hs => ?_⟩
      cases j with
      | zero => simp only [List.getElem?_cons_zero, Option.some.injEq] at hc hs; subst hc; subst hs; exact hv
      | succ j => exact h2 j c s (by simpa using hc) (by simpa using hs)
    · cases h

theorem leftBy_cases {st : St} {j : Nat} {r : Ex × St} (h : leftBy st j = some r) : ∃ s, get st.own j = some [.lrec s] ∧ s ≠ 1 ∧ r.2 = st.kill (some j) ∧ r.1 = (match s with | 0 => .normal | 2 => .ret | 1 => .normal | k + 3 => .exit k) := by
  unfold leftBy at h
  split at h
  · rename_i hj; cases h; exact ⟨0, hj, by decide, rfl, rfl⟩
  · rename_i hj; cases h; exact ⟨2, hj, by decide, rfl, rfl⟩
  · rename_i k hj; cases h; exact ⟨k + 3, hj, by omega, rfl, rfl⟩
  · cases h

theorem range_ok {fns : FuncId → Option CFn} (hokP : okP.1 = RoOk P fns) {K : Callee} (hK : Snd P okP K) (hok : OkG okP g0 w0) {f0 : FuncId} {cfn : CFn} (hf0 : fns f0 = some cfn) {g : Operand} {ps : Array Tmp} {assign body : Code} {g' : Opd} {j : Nat} {fs : List Nat} {f : FuncId} {i : Nat}
    (hk : chkCd P nt (some (f0, cfn.rds)) (.rangeFunc g ps assign body) (.range g' j fs f i) = true) {st : St} {r : Ex × St} {a : Act} {w : World} (h : InvE d nt m0 g0 w0 st a w) (he : rangeEv K g' j fs f i st = some r) :
    (Code.rangeFunc g ps assign body).wpIn (Fw none) 0 P (QE d nt m0 g0 w0 r) a w := by
  simp only [chkCd, Bool.and_eq_true, beq_iff_eq] at hk
  obtain ⟨⟨rfl, hg⟩, hk⟩ := hk
  split at hk
  case h_2 => cases hk
  rename_i rd hrd
  simp only [Bool.and_eq_true, decide_eq_true_eq, List.all_eq_true] at hk
  obtain ⟨⟨⟨⟨⟨hps, hfs⟩, hnd⟩, hlt⟩, hka⟩, hkb⟩ := hk
  obtain ⟨gh, om, szm, hi⟩ := h
  unfold rangeEv at he
  split at he
  case h_2 => cases he
  rename_i f1 cap1 caps hgv hcaps hfree
  have hgV := (opd_V hi hg hgv).1
  obtain ⟨capsV, hgval⟩ : ∃ vs, a.eval g = .func (.func f1) #[] vs := by generalize a.eval g = q at hgV; cases hgV; exact ⟨_, rfl⟩
  split at he
  case h_2 => cases he
  rename_i v b own' m' hKe
  split at he
  case h_2 => cases he
  rename_i hbo hbt
  refine wpIn_rangeFunc fun fn _ => ?_
  let r0 : Loop := { state := .ready, pending := none, fn, tmps := a.tmps, params := ps, assign, body, defers := w.heap.size }
  obtain ⟨g1, hle1, hlp1, hi1⟩ := hi.enter hfree (r0 := r0) ⟨rfl, rfl⟩
  obtain ⟨hcl, hcg⟩ := gets_caps hcaps
  have hntm : a.tmps.size = nt := hi.nt
  have hfslt : ∀ s ∈ fs, s < a.tmps.size := by
    intro s hs
    obtain ⟨jj, hjj⟩ := List.getElem?_of_mem hs
    have hjlt : jj < caps.length := by rw [hcl]; exact (List.getElem?_eq_some_iff.1 hjj).1
    have := hcg jj _ s (List.getElem?_eq_getElem hjlt) hjj
    rw [hntm]; exact (hi.f s _ this).1
  have hroF : g1.ok f i fs r0 := by
    rw [hle1.ok, hi.kp.ok, hok.1, hokP]
    exact ⟨cfn, rd, hf0, hrd, hfs, hps.symm, nodupB_spec hnd, fun t ht => by show t < a.tmps.size; rw [hntm]; exact hlt t ht, hfslt, by show chkCd P a.tmps.size none assign rd.assign = true; rw [hntm]; exact hka, by show chkCd P a.tmps.size none body rd.body = true; rw [hntm]; exact hkb⟩
  have hy : V g1 (.rnd f i fs (caps.map fun p => p.2.untag) st.m.length j) (.func (.yield (w.heap.size + 1)) #[] #[]) := by
    refine .rnd f i fs _ _ j _ r0 (by rw [hi.lv]; exact hlp1) hroF (by simp [hcl]) fun jj c s hc hs => ?_
    rw [List.getElem?_map] at hc
    obtain ⟨p, hp, rfl⟩ := Option.map_eq_some_iff.1 hc
    exact ((hi.f s _ (hcg jj p s hp hs)).2.1.mono hle1).untag
  have hends := hK _ _ _ _ _ _ _ hKe g1 _ (.func (.func f1) #[] capsV) #[.func (.yield (w.heap.size + 1)) #[] #[]] (hok.kp hi1.kp) hi1.rel (by rw [← hgval]; exact hgV.mono hle1) rfl
    (fun jj c hc => by
      cases jj with
      | zero => simp only [List.getElem?_cons_zero, Option.some.injEq] at hc; subst hc; exact hy
      | succ jj => simp at hc) (fun c hc => by simp only [List.mem_singleton] at hc; subst hc; rfl)
  rcases hends with ⟨f2, caps2, fn2, hrf, hfn, hbody, hname, hcall⟩ | ⟨l, r, hrf, _⟩
  case inr => injection hrf with hrf1; cases hrf1
  injection hrf with hrf1 _ hrf3
  injection hrf1 with hrf1
  subst hrf1; subst hrf3
  refine ⟨w.heap.size + 1, [{ target := .collected w.heap.size, args := #[] }], ((w.alloc (.deferred (some []))).alloc (.loop r0)), { target := .fn (.func f1) capsV, args := #[] ++ #[.func (.yield (w.heap.size + 1)) #[] #[]] }, ((w.alloc (.deferred (some []))).alloc (.loop r0)), f1, #[] ++ #[.func (.yield (w.heap.size + 1)) #[] #[]] ++ capsV, ((w.alloc (.deferred (some []))).alloc (.loop r0)), run_enterLoop_outer fn a.tmps ps assign body, ?_, fun _ _ => trivial, ?_, fun hh => by simp [Fw] at hh, ?_⟩
  · simp [resolve, Deferred.ofValue, hgval, show ∀ v, a.eval (.const v) = v from fun _ => rfl]
  · simp [invoke, callFunc, hfn, hname, Option.isNone_iff_eq_none, Option.isSome_iff_ne_none.1 hbody]
  have hcall' : CallsIn (Fw none) 0 P f1 (#[] ++ #[.func (.yield (w.heap.size + 1)) #[] #[]] ++ capsV) ((w.alloc (.deferred (some []))).alloc (.loop r0)) fun e w' => ∃ rv, e = .returned rv ∧ ∃ g', CallPost (((j, [.lrec 0]) :: st.own) :: st.m) g1 ((w.alloc (.deferred (some []))).alloc (.loop r0)) (own' :: m') b v g' w' rv := by
    have : #[] ++ #[Value.func (.yield (w.heap.size + 1)) #[] #[]] ++ capsV = #[.func (.yield (w.heap.size + 1)) #[] #[]] ++ capsV := by simp
    rw [this]
    exact hcall
  refine hcall'.mono ?_
  rintro e w3 ⟨rv, rfl, g2, hp⟩
  obtain ⟨g3, hle3, hi3⟩ := hi1.calledLe hp (dst := none) (fun t ht => by cases ht) (st' := { st with own := own', m := m' }) (by
    unfold unpack
    simp only [hbo, hbt]
    rfl)
  obtain ⟨om3, szm3, hi3⟩ := hi3
  obtain ⟨s, hs1, hs2, hs3, hs4⟩ := leftBy_cases he
  simp only at hs1
  have hlp3 := hle3.lp _ _ _ hlp1
  have hm3 : mget (own' :: m') d j [] = some [.lrec s] := by
    have := hi3.lv
    simp only at this
    rw [← this, mget_own, lget_nil]; exact hs1
  obtain ⟨pn, hheap⟩ := hi3.rel.notLoop hlp3 hm3
  have hst : (turned { r0 with pending := pn } s).state ≠ .busy := by
    match s, hs2 with
    | 0, _ => exact fun hh => LoopState.noConfusion hh
    | 2, _ => exact fun hh => LoopState.noConfusion hh
    | k + 3, _ => exact fun hh => LoopState.noConfusion hh
  refine ⟨_, _, run_endLoop hheap hst, ?_⟩
  have hI : InvE d nt m0 g0 w0 r.2 { a with defers := [{ target := .collected w.heap.size, args := #[] }] ++ a.defers } (w3.putObj (w.heap.size + 1) (.loop { turned { r0 with pending := pn } s with state := .exhausted })) := by
    rw [hs3]
    refine ⟨g3, om3, szm3, (hi3.kill j).putDead hheap ⟨d, j, r0, hlp3⟩ fun lv jj r1 zs hl hz => ?_⟩
    simp only [St.kill] at hz
    have hz0 : ∃ zs0, mget (own' :: m') lv jj [] = some zs0 ∧ ¬ (lv = d ∧ jj = j) := by
      have hl3 := hi3.lv
      simp only at hl3
      rw [mget_cons, hl3] at hz
      by_cases hl' : lv = d
      · rw [if_pos hl', lget_del] at hz
        split at hz
        · cases hz
        · rename_i hne
          exact ⟨zs, by rw [mget_cons, hl3, if_pos hl']; exact hz, fun hh => hne hh.2⟩
      · rw [if_neg hl'] at hz
        exact ⟨zs, by rw [mget_cons, hl3, if_neg hl']; exact hz, fun hh => hl' hh.1⟩
    obtain ⟨zs0, hz0, hne⟩ := hz0
    exact hne (hi3.rel.injL _ _ _ _ _ _ _ _ _ hl hlp3 hz0 hm3)
  match s, hs2, hs4 with
  | 0, _, hs4 => exact ⟨hs4, hI⟩
  | 2, _, hs4 => exact wpIn_ret ⟨hs4, hI⟩
  | k + 3, _, hs4 => exact wpIn_exit ⟨hs4, hI⟩

theorem code_ok (hm : P.follows .mixedOrders = true) {fns : FuncId → Option CFn} (hokP : okP.1 = RoOk P fns) {ro : Option Nat} {K : Callee} (hK : Snd P okP K) (hok : OkG okP g0 w0) (n : Nat) : ∀ {cd : Cd} {c : Code} {o : Option (FuncId × List Rd)} {st : St} {r : Ex × St} {a : Act} {w : World}, (∀ p, o = some p → ro = none ∧ ∃ cfn, fns p.1 = some cfn ∧ cfn.rds = p.2) → chkCd P nt o c cd = true → InvE d nt m0 g0 w0 st a w → cd.ev K n st = some r →
    c.wpIn (Fw ro) 0 P (QE d nt m0 g0 w0 r) a w := by
  intro cd
  induction cd with
  | skip =>
    intro c o st r a w ho hk h he
    cases c <;> simp only [chkCd] at hk <;> try (cases hk; done)
    simp only [Cd.ev, Option.some.injEq] at he; subst he
    exact wpIn_skip ⟨rfl, h⟩
  | draw k rows cs =>
    intro c o st r a w ho hk h he
    cases c <;> simp only [chkCd] at hk <;> try (cases hk; done)
    rename_i id ops dr
    simp only [Bool.and_eq_true] at hk
    obtain ⟨⟨rfl, hk⟩, hdr⟩ := hk
    simp only [Cd.ev] at he
    split at he
    · rename_i st' h1
      cases he
      by_cases hx : k = xMode
      · rw [if_pos hx] at hdr
        simp only [drawEv, if_pos hx] at h1
        exact drawx_ok hm hK hok hk hdr h h1 fun a' w' hi => ⟨rfl, hi⟩
      · rw [if_neg hx] at hdr
        exact draw_ok hm hK hok hk hdr h h1 hx fun a' w' hi => ⟨rfl, hi⟩
    · cases he
  | reg cs =>
    intro c o st r a w ho hk h he
    cases c <;> simp only [chkCd] at hk <;> try (cases hk; done)
    rename_i id ops dr
    simp only [Bool.and_eq_true, Bool.not_eq_true'] at hk
    obtain ⟨rfl, hk⟩ := hk
    simp only [Cd.ev] at he
    split at he
    · rename_i st' h1
      cases he
      refine wpIn_region ?_
      have := reg_ok (ro := ro) (Q := QE d nt m0 g0 w0 (.normal, st')) hK hok (i := 0) hk (fun j o hj => by simpa using hj) h h1 (fun a' w' hi => ⟨rfl, hi⟩)
      simpa [List.range_eq_range'] using this
    · cases he
  | seq x y ihx ihy =>
    intro c o st r a w ho hk h he
    cases c <;> simp only [chkCd] at hk <;> try (cases hk; done)
    simp only [Bool.and_eq_true] at hk
    simp only [Cd.ev] at he
    refine wpIn_seq ?_
    split at he
    · rename_i st1 h1
      refine wpIn_mono (ihx ho hk.1 h h1) ?_
      intro e a' w' hq
      cases e with
      | normal => exact ihy ho hk.2 hq.2 he
      | exit id => exact absurd hq.1 (by simp)
      | ret => exact absurd hq.1 (by simp)
      | goto _ => exact hq.elim
      | panic _ => exact hq.elim
      | outgrown => exact hq.elim
    · rename_i hne
      refine wpIn_mono (ihx ho hk.1 h he) ?_
      intro e a' w' hq
      cases e with
      | normal => exact absurd (by obtain ⟨r1, r2⟩ := r; simp only [QE] at hq; obtain ⟨rfl, _⟩ := hq; exact he) (hne r.2)
      | exit id => exact hq
      | ret => exact hq
      | goto _ => exact hq.elim
      | panic _ => exact hq.elim
      | outgrown => exact hq.elim
  | cond c0 x y ihx ihy =>
    intro c o st r a w ho hk h he
    cases c <;> simp only [chkCd] at hk <;> try (cases hk; done)
    rename_i cc x' y'
    simp only [Bool.and_eq_true] at hk
    simp only [Cd.ev] at he
    obtain ⟨g, om, szm, hi⟩ := h
    split at he
    · rename_i hc
      have hv := (opd_V hi hk.1.1 hc).1
      have hb : a.eval cc = .bool true := by generalize a.eval cc = q at hv; cases hv; rfl
      exact wpIn_cond_true hb (ihx ho hk.1.2 ⟨g, om, szm, hi⟩ he)
    · rename_i hc
      have hv := (opd_V hi hk.1.1 hc).1
      have hb : a.eval cc = .bool false := by generalize a.eval cc = q at hv; cases hv; rfl
      exact wpIn_cond_false hb (ihy ho hk.2 ⟨g, om, szm, hi⟩ he)
    · cases he
  | block id x ih =>
    intro c o st r a w ho hk h he
    cases c <;> simp only [chkCd] at hk <;> try (cases hk; done)
    rename_i id' x'
    simp only [Bool.and_eq_true, beq_iff_eq] at hk
    obtain ⟨rfl, hk⟩ := hk
    simp only [Cd.ev] at he
    refine wpIn_block ?_
    split at he
    · rename_i id1 st1 h1
      refine wpIn_mono (ih ho hk h h1) ?_
      intro e a' w' hq
      cases e with
      | normal => exact absurd hq.1 (by simp)
      | exit id2 =>
        have h2 : id1 = id2 := by have := hq.1; simpa using this
        subst h2
        simp only [Exit.inBlock]
        split at he
        · rename_i hb
          have := beq_iff_eq.1 hb
          subst this
          cases he
          rw [if_pos rfl]; exact ⟨rfl, hq.2⟩
        · rename_i hb
          cases he
          rw [if_neg (by simpa using hb)]; exact ⟨rfl, hq.2⟩
      | ret => exact absurd hq.1 (by simp)
      | goto _ => exact hq.elim
      | panic _ => exact hq.elim
      | outgrown => exact hq.elim
    · rename_i hne
      refine wpIn_mono (ih ho hk h he) ?_
      intro e a' w' hq
      cases e with
      | normal => exact hq
      | exit id2 => exact absurd (by obtain ⟨r1, r2⟩ := r; simp only [QE] at hq; obtain ⟨rfl, _⟩ := hq; exact he) (hne id2 r.2)
      | ret => exact hq
      | goto _ => exact hq.elim
      | panic _ => exact hq.elim
      | outgrown => exact hq.elim
  | loop fs ks ts ds x ih =>
    intro c o st r a w ho hk h he
    cases c <;> simp only [chkCd] at hk <;> try (cases hk; done)
    rename_i x'
    simp only [Cd.ev] at he
    refine wpIn_loop_rounds n ?_
    have key : ∀ (m : Nat) (st : St) (a : Act) (w : World), InvE d nt m0 g0 w0 st a w → loopN (maskSt fs ks ts ds) (x.ev K n) m st = some r → Code.roundsIn (Fw ro) 0 P x' (QE d nt m0 g0 w0 r) m a w := by
      intro m
      induction m with
      | zero => intro st a w _ he; simp [loopN] at he
      | succ m ihm =>
        intro st a w h he
        simp only [loopN] at he
        rw [roundsIn_succ]
        split at he
        · cases he
        · rename_i st1 hm
          obtain ⟨g, om, szm, hi⟩ := h
          obtain ⟨g', om', hi'⟩ := hi.mask hm
          have hI1 : InvE d nt m0 g0 w0 st1 a w := ⟨g', om', szm, hi'⟩
          split at he
          · rename_i st2 h2
            refine wpIn_mono (ih ho hk hI1 h2) ?_
            intro e a' w' hq
            cases e with
            | normal => exact ihm st2 a' w' hq.2 he
            | exit id => exact absurd hq.1 (by simp)
            | ret => exact absurd hq.1 (by simp)
            | goto _ => exact hq.elim
            | panic _ => exact hq.elim
            | outgrown => exact hq.elim
          · rename_i hne
            refine wpIn_mono (ih ho hk hI1 he) ?_
            intro e a' w' hq
            cases e with
            | normal => exact absurd (by obtain ⟨r1, r2⟩ := r; simp only [QE] at hq; obtain ⟨rfl, _⟩ := hq; exact he) (hne r.2)
            | exit id => exact hq
            | ret => exact hq
            | goto _ => exact hq.elim
            | panic _ => exact hq.elim
            | outgrown => exact hq.elim
    exact key n st a w h he
  | range g j fs f i =>
    intro c o st r a w ho hk h he
    cases c with
    | rangeFunc gg ps assign body =>
      cases o with
      | none => simp [chkCd] at hk
      | some p =>
        obtain ⟨f0, rds⟩ := p
        obtain ⟨rfl, cfn, hf0, rfl⟩ := ho _ rfl
        simp only [Cd.ev] at he
        exact range_ok hokP hK hok hf0 hk h he
    | _ => simp [chkCd] at hk
  | exit id =>
    intro c o st r a w ho hk h he
    cases c <;> simp only [chkCd] at hk <;> try (cases hk; done)
    have := beq_iff_eq.1 hk
    subst this
    simp only [Cd.ev, Option.some.injEq] at he; subst he
    exact wpIn_exit ⟨rfl, h⟩
  | ret =>
    intro c o st r a w ho hk h he
    cases c <;> simp only [chkCd] at hk <;> try (cases hk; done)
    simp only [Cd.ev, Option.some.injEq] at he; subst he
    exact wpIn_ret ⟨rfl, h⟩
end
end Go.Proofs.Ytmffcpiffkclgaa.ZJM
