/- A region whose order is open: whatever the order, it answers as in the text's. -/
import Derived.Test.YtbbpkkeaddbcnaaZIM15
set_option linter.unusedSimpArgs false
set_option linter.unusedVariables false
namespace Go.Proofs.Ytbbpkkeaddbcnaa.ZIM
open Go.RowKit

def putf (f : List (Nat × PV)) (d : Option Nat) (v : PV) : List (Nat × PV) :=
  match d with
  | some d => (d, v) :: f
  | none => f
/-- The frame after the listed ones. -/
def putL (p : Nat → Bool) : Nat → List (COp × PV) → List (Nat × PV) → List (Nat × PV)
  | _, [], f => f
  | i, x :: r, f => putL p (i + 1) r (if p i = true then putf f x.1.dst x.2 else f)

theorem get_putf (f : List (Nat × PV)) (d : Option Nat) (v : PV) (t : Nat) : get (putf f d v) t = if d = some t then some v else get f t := by
  cases d with
  | none => simp [putf]
  | some d => rw [putf, get_cons]; by_cases h : d = t <;> simp [h]

theorem putL_congr {p q : Nat → Bool} {s : Nat} : ∀ {l : List (COp × PV)} {i : Nat} {f f' : List (Nat × PV)}, get f s = get f' s → (∀ m x, l[m]? = some x → x.1.dst = some s → p (i + m) = q (i + m)) → get (putL p i l f) s = get (putL q i l f') s
  | [], _, _, _, h, _ => h
  | x :: r, i, f, f', h, hq => by
    simp only [putL]
    refine putL_congr ?_ fun m y hm hy => by have := hq (m + 1) y (by simpa using hm) hy; rwa [show i + (m + 1) = i + 1 + m by omega] at this
    have h0 := hq 0 x rfl
    simp only [Nat.add_zero] at h0
    by_cases hx : x.1.dst = some s
    · rw [h0 hx]
      split
      · rw [get_putf, get_putf, if_pos hx, if_pos hx]
      · exact h
    · have e1 : ∀ (b : Bool) (g : List (Nat × PV)), get (if b = true then putf g x.1.dst x.2 else g) s = get g s := by
        intro b g
        split
        · rw [get_putf, if_neg hx]
        · rfl
      rw [e1, e1, h]

theorem putL_last {p : Nat → Bool} {s : Nat} : ∀ {l : List (COp × PV)} {i m : Nat} {f : List (Nat × PV)} {x : COp × PV}, l[m]? = some x → x.1.dst = some s → p (i + m) = true →
    (∀ m' y, m < m' → l[m']? = some y → y.1.dst = some s → p (i + m') = false) → get (putL p i l f) s = some x.2
  | [], _, _, _, _, h, _, _, _ => by simp at h
  | x :: r, i, 0, f, y, h, hd, hp, hl => by
    simp only [List.getElem?_cons_zero, Option.some.injEq] at h
    subst h
    simp only [putL]
    simp only [Nat.add_zero] at hp
    rw [if_pos hp]
    rw [putL_congr (q := fun _ => false) (f' := putf f x.1.dst x.2) rfl fun m y hm hy => by have := hl (m + 1) y (by omega) (by simpa using hm) hy; rwa [show i + (m + 1) = i + 1 + m by omega] at this]
    have : ∀ (l : List (COp × PV)) (i : Nat) (f : List (Nat × PV)), putL (fun _ => false) i l f = f := by
      intro l
      induction l with
      | nil => intro i f; rfl
      | cons z r ih => intro i f; simp [putL, ih]
    rw [this, get_putf, if_pos hd]
  | x :: r, i, m + 1, f, y, h, hd, hp, hl => by
    simp only [putL]
    refine putL_last (m := m) (by simpa using h) hd (by rwa [show i + 1 + m = i + (m + 1) by omega]) fun m' z hm hz hzd => ?_
    have := hl (m' + 1) z (by omega) (by simpa using hz) hzd
    rwa [show i + (m' + 1) = i + 1 + m' by omega] at this

/-- The values that the head's operations have in the text's order. -/
def headVs (K : Callee) : List COp → St → Option (List PV)
  | [], _ => some []
  | o :: r, st => match o.evH K st with
    | some v => (headVs K r (st.put o.dst v)).map (v :: ·)
    | none => none
theorem St.put_eq (st : St) (d : Option Nat) (v : PV) : st.put d v = { st with f := putf st.f d v } := by cases d <;> rfl

theorem headVs_spec {K : Callee} : ∀ {cs : List COp} {st st' : St}, headEv K cs st = some st' → ∃ l : List (COp × PV), l.map (·.1) = cs ∧ st' = { st with f := putL (fun _ => true) 0 l st.f } ∧
    ∀ (j : Nat) (x : COp × PV), l[j]? = some x → x.1.evH K { st with f := putL (fun m => decide (m < j)) 0 l st.f } = some x.2
  | [], st, st', h => by simp only [headEv, Option.some.injEq] at h; subst h; exact ⟨[], rfl, rfl, fun j x hj => by simp at hj⟩
  | c :: cs, st, st', h => by
    simp only [headEv] at h
    split at h
    · rename_i v hv
      obtain ⟨l, h1, h2, h3⟩ := headVs_spec h
      have shift : ∀ (p q : Nat → Bool) (l : List (COp × PV)) (i i' : Nat) (f : List (Nat × PV)), (∀ m, p (i + m) = q (i' + m)) → putL p i l f = putL q i' l f := by
        intro p q l
        induction l with
        | nil => intros; rfl
        | cons y r ih =>
          intro i i' f hpq
          simp only [putL]
          have h0 := hpq 0
          simp only [Nat.add_zero] at h0
          rw [h0]
          exact ih _ _ _ fun m => by have := hpq (m + 1); rwa [show i + (m + 1) = i + 1 + m by omega, show i' + (m + 1) = i' + 1 + m by omega] at this
      have none : ∀ (p : Nat → Bool) (l : List (COp × PV)) (i : Nat) (f : List (Nat × PV)), (∀ m, p (i + m) = false) → putL p i l f = f := by
        intro p l
        induction l with
        | nil => intros; rfl
        | cons y r ih =>
          intro i f hp
          have h0 := hp 0
          simp only [Nat.add_zero] at h0
          simp only [putL, h0]
          exact ih _ _ fun m => by have := hp (m + 1); rwa [show i + (m + 1) = i + 1 + m by omega] at this
      refine ⟨(c, v) :: l, by simp [h1], ?_, fun j x hj => ?_⟩
      · rw [h2, St.put_eq]
        simp only [putL, if_pos]
        rw [shift (fun _ => true) (fun _ => true) l 0 (0 + 1) _ (fun _ => rfl)]
      · cases j with
        | zero =>
          simp only [List.getElem?_cons_zero, Option.some.injEq] at hj
          subst hj
          simp only [putL]
          rw [none _ l _ _ (fun m => by simp)]
          simpa using hv
        | succ j =>
          have := h3 j x (by simpa using hj)
          rw [St.put_eq] at this
          simp only [putL]
          rw [if_pos (by simp), shift (fun m => decide (m < j + 1)) (fun m => decide (m < j)) l (0 + 1) 0 _ (fun m => by simp only [decide_eq_decide]; omega)]
          exact this
    · cases h

theorem evs_congr {f f' : List (Nat × PV)} : ∀ {as : List Opd}, (∀ s ∈ as.filterMap opdSlot, get f s = get f' s) → evs f as = evs f' as
  | [], _ => rfl
  | .t n :: r, h => by
    have h0 := h n (by simp [opdSlot])
    have h1 := evs_congr (as := r) fun s hs => h s (by simp only [List.filterMap_cons, opdSlot]; exact List.mem_cons_of_mem _ hs)
    simp only [evs, Opd.ev, h0, h1]
  | .c v :: r, h => by
    have h1 := evs_congr (as := r) fun s hs => h s (by simp only [List.filterMap_cons, opdSlot]; exact hs)
    simp only [evs, Opd.ev, h1]
theorem evH_congr {K : Callee} {st : St} {c : COp} {f f' : List (Nat × PV)} (h : ∀ s ∈ slotsOf c, get f s = get f' s) : c.evH K { st with f := f } = c.evH K { st with f := f' } := by
  have h1 : evs f c.args = evs f' c.args := evs_congr fun s hs => h s (by simp only [slotsOf, List.mem_append]; exact .inr hs)
  have h2 : ∀ vs, opH K c.op vs { st with f := f } = opH K c.op vs { st with f := f' } := by intro vs; cases c.op <;> rfl
  simp only [COp.evH, h1, h2]
  split
  · rfl
  · rename_i g b hg
    have : get f g = get f' g := h g (by simp [slotsOf, hg])
    simp only [this]
section
variable {P : Program} {d nt : Nat} {m0 : Mem} {g0 : Gh} {w0 : World}

theorem InvE.congr {st : St} {a : Act} {w : World} (h : InvE d nt m0 g0 w0 st a w) {f' : List (Nat × PV)} (hf : ∀ t, get f' t = get st.f t) : InvE d nt m0 g0 w0 { st with f := f' } a w := by
  obtain ⟨g, om, szm, h⟩ := h
  exact ⟨g, om, szm, ⟨h.rel, h.lv, fun t v hv => h.f t v (by rwa [← hf t]), h.nt, h.df, h.tb, h.own, h.apart, h.kp, h.mt⟩⟩
theorem InvE.drawn {st : St} {a : Act} {w : World} (h : InvE d nt m0 g0 w0 st a w) {n : Nat} : InvE d nt m0 g0 w0 st a { w with drawn := n } := by
  obtain ⟨g, om, szm, h⟩ := h
  exact ⟨g, om, szm, ⟨⟨h.rel.1, h.rel.2, h.rel.3⟩, h.lv, h.f, h.nt, h.df, h.tb, fun n p hp => h.own n p hp, h.apart, ⟨h.kp.1, h.kp.2, h.kp.3, h.kp.4, h.kp.5, h.kp.6, h.kp.7, h.kp.8, h.kp.9⟩, fun l s cs b x y => h.mt l s cs b x y⟩⟩

theorem edgeMask_bit {rows : List Nat} {j i : Nat} : ∀ {es : List Edge}, (edgeMask rows j es).testBit i = true → ∃ e ∈ es, Region.binds .any e = true ∧ (i = e.on ∨ (rows.getD e.on 0).testBit i = true)
  | [], h => by simp [edgeMask] at h
  | e :: r, h => by
    simp only [edgeMask] at h
    split at h
    · rename_i hb
      simp only [Bool.and_eq_true, decide_eq_true_eq] at hb
      rw [Nat.testBit_or, Nat.testBit_or, Bool.or_eq_true, Bool.or_eq_true] at h
      rcases h with (h | h) | h
      · rw [Nat.testBit_two_pow] at h
        exact ⟨e, List.mem_cons_self, hb.1, .inl (by have := of_decide_eq_true h; omega)⟩
      · exact ⟨e, List.mem_cons_self, hb.1, .inr h⟩
      · obtain ⟨e', h1, h2⟩ := edgeMask_bit h; exact ⟨e', List.mem_cons_of_mem _ h1, h2⟩
    · obtain ⟨e', h1, h2⟩ := edgeMask_bit h; exact ⟨e', List.mem_cons_of_mem _ h1, h2⟩
theorem rowsOk_get {rows : List Nat} : ∀ {os : List Oper} {j i : Nat} {o : Oper}, rowsOk rows j os = true → os[i]? = some o → rowOk rows (j + i) o = true
  | [], _, _, _, _, h => by simp at h
  | x :: r, j, 0, o, h, ho => by simp only [rowsOk, Bool.and_eq_true] at h; simp at ho; subst ho; exact h.1
  | x :: r, j, i + 1, o, h, ho => by
    simp only [rowsOk, Bool.and_eq_true] at h
    have := rowsOk_get h.2 (i := i) (by simpa using ho)
    rwa [show j + 1 + i = j + (i + 1) by omega] at this
/-- Every operation that j waits for has come up. -/
theorem row_ready {rows : List Nat} {j : Nat} {o : Oper} (h : rowOk rows j o = true) {L : Nat → Bool} (hcl : ∀ j, L j = true → ∀ i, (rows.getD j 0).testBit i = true → L i = true)
    (hr : ∀ e ∈ o.after, Region.binds .any e = true → L e.on = true) {i : Nat} (hi : (rows.getD j 0).testBit i = true) : L i = true := by
  simp only [rowOk, Bool.and_eq_true, beq_iff_eq] at h
  have h1 := h.1
  have : (edgeMask rows j o.after.toList).testBit i = true := by
    rw [← h1, Nat.testBit_and, Bool.and_eq_true] at hi
    exact hi.2
  obtain ⟨e, he, hb, hh⟩ := edgeMask_bit this
  have hon := hr e (by simpa using he) hb
  rcases hh with rfl | hh
  · exact hon
  · exact hcl _ hon _ hh

theorem chkOps_get {ops : Array Oper} : ∀ {os : List Oper} {cs : List COp} {j : Nat} {o : Oper}, chkOps P nt ops os cs = true → os[j]? = some o → ∃ c, cs[j]? = some c ∧ chkOper P nt ops o c = true
  | [], _, _, _, _, h => by simp at h
  | o :: os, [], _, _, h, _ => by simp [chkOps] at h
  | o :: os, c :: cs, 0, _, h, ho => by simp only [chkOps, Bool.and_eq_true] at h; simp at ho; subst ho; exact ⟨c, rfl, h.1⟩
  | o :: os, c :: cs, j + 1, _, h, ho => by
    simp only [chkOps, Bool.and_eq_true] at h
    obtain ⟨c', h1, h2⟩ := chkOps_get h.2 (j := j) (by simpa using ho)
    exact ⟨c', by simpa using h1, h2⟩
theorem chkOps_len {ops : Array Oper} : ∀ {os : List Oper} {cs : List COp}, chkOps P nt ops os cs = true → os.length = cs.length
  | [], [], _ => rfl
  | [], _ :: _, h => by simp [chkOps] at h
  | _ :: _, [], h => by simp [chkOps] at h
  | _ :: os, _ :: cs, h => by simp only [chkOps, Bool.and_eq_true] at h; simp [chkOps_len h.2]

def LB (listed : Array Bool) (j : Nat) : Bool := listed.getD j false
theorem LB_set {listed : Array Bool} {i : Nat} (hi : i < listed.size) (j : Nat) : LB (listed.setIfInBounds i true) j = (decide (j = i) || LB listed j) := by
  simp only [LB, Array.getD_eq_getD_getElem?, Array.getElem?_setIfInBounds]
  by_cases h : i = j
  · subst h; simp [hi]
  · simp [h, Ne.symm h]

def missing (listed : Array Bool) : Nat := ((List.range listed.size).filter fun i => !LB listed i).length
theorem missing_set {listed : Array Bool} {i : Nat} (hi : i < listed.size) (hn : LB listed i = false) : missing (listed.setIfInBounds i true) < missing listed := by
  unfold missing
  have hs : (listed.setIfInBounds i true).size = listed.size := by simp
  rw [hs]
  have key : ∀ l : List Nat, (l.filter fun j => !LB (listed.setIfInBounds i true) j).length ≤ (l.filter fun j => !LB listed j).length ∧
      (i ∈ l → (l.filter fun j => !LB (listed.setIfInBounds i true) j).length < (l.filter fun j => !LB listed j).length) := by
    intro l
    induction l with
    | nil => simp
    | cons x r ih =>
      simp only [List.filter_cons, LB_set hi]
      by_cases hx : x = i
      · subst hx
        simp only [decide_true, Bool.true_or, Bool.not_true, Bool.false_eq_true, if_false, hn, Bool.not_false, if_true, List.length_cons]
        simp only [LB_set hi] at ih
        exact ⟨by omega, fun _ => by omega⟩
      · simp only [LB_set hi] at ih
        simp only [hx, decide_false, Bool.false_or, List.mem_cons]
        cases hb : LB listed x <;> simp only [Bool.not_false, Bool.not_true, if_true, Bool.false_eq_true, if_false, List.length_cons]
        · exact ⟨by omega, fun h => by rcases h with h | h; exact (hx h.symm).elim; have := ih.2 h; omega⟩
        · exact ⟨ih.1, fun h => by rcases h with h | h; exact (hx h.symm).elim; exact ih.2 h⟩
  exact (key _).2 (by simpa using hi)

theorem draw_ok {ro : Option Nat} (hm : P.follows .mixedOrders = true) {K : Callee} (hK : Snd P K) {ops : Array Oper} {cs : List COp} {k : Nat} {rows : List Nat} {Q : Exit → Act → World → Prop} {st st' : St} {a : Act} {w : World} {id : Nat}
    (hk : chkOps P nt ops ops.toList cs = true) (hdr : drawOk ops cs k rows = true) (h : InvE d nt m0 g0 w0 st a w) (h1 : drawEv K k cs st = some st')
    (hq : ∀ a' w', InvE d nt m0 g0 w0 st' a' w' → Q .normal a' w') : (Code.region id ops true).wpIn (Fw ro) 0 P Q a w := by
  refine wpIn_region_any hm ?_
  simp only [drawEv] at h1
  split at h1
  case h_2 => cases h1
  rename_i sth hh
  obtain ⟨l, hl1, hl2, hl3⟩ := headVs_spec hh
  simp only [drawOk, Bool.and_eq_true, decide_eq_true_eq] at hdr
  obtain ⟨⟨⟨⟨hbs, hkn⟩, hrows⟩, hpairs⟩, htail⟩ := hdr
  have hlen := chkOps_len hk
  have hn : ops.size = cs.length := by simpa using hlen
  have hll : l.length = k := by have := congrArg List.length hl1; simp at this; omega
  have hlget : ∀ {j : Nat} {x : COp × PV}, l[j]? = some x → cs[j]? = some x.1 ∧ j < k := by
    intro j x hx
    have h2 : (l.map (·.1))[j]? = some x.1 := by rw [List.getElem?_map, hx]; rfl
    have hj : j < l.length := (List.getElem?_eq_some_iff.1 hx).1
    rw [hl1, List.getElem?_take] at h2
    rw [if_pos (by omega)] at h2
    exact ⟨h2, by omega⟩
  have hpair : ∀ {i j : Nat} {x y : COp × PV}, j < i → l[i]? = some x → l[j]? = some y → (touches y.1.dst x.1 || touches x.1.dst y.1) = true → (rows.getD i 0).testBit j = true := by
    intro i j x y hji hx hy ht
    obtain ⟨h1, h2⟩ := hlget hx
    obtain ⟨h3, h4⟩ := hlget hy
    simp only [pairsOk, List.all_eq_true, List.mem_range] at hpairs
    have := hpairs i h2 j hji
    rw [h1, h3] at this
    simp only [ht, Bool.not_true, Bool.false_or] at this
    exact this
  have htl : ∀ {i j : Nat}, k ≤ i → i < cs.length → j < i → (rows.getD i 0).testBit j = true := by
    intro i j hki hi hji
    simp only [tailOk, List.all_eq_true, List.mem_range, Bool.or_eq_true, decide_eq_true_eq] at htail
    exact (htail i hi).resolve_left (by omega) j hji
  have main : ∀ (fuel : Nat) (listed : Array Bool) (a : Act) (w : World), missing listed ≤ fuel → listed.size = ops.size →
      (∀ j, LB listed j = true → ∀ i, (rows.getD j 0).testBit i = true → LB listed i = true) →
      (((∀ i, k ≤ i → LB listed i = false) ∧ InvE d nt m0 g0 w0 { st with f := putL (LB listed) 0 l st.f } a w) ∨
        (∃ j stj, k ≤ j ∧ j ≤ cs.length ∧ (∀ i, i < cs.length → (LB listed i = decide (i < j))) ∧ InvE d nt m0 g0 w0 stj a w ∧ regEv K (cs.drop j) stj = some st')) →
      wpAnyIn (Fw ro) 0 P .any ops Q fuel listed a w := by
    intro fuel
    have hrow : ∀ {j : Nat} {o : Oper}, ops[j]? = some o → rowOk rows j o = true := by
      intro j o ho
      have := rowsOk_get hrows (i := j) (o := o) (by simpa using ho)
      simpa using this
    -- where nothing is ready, all has come up
    have hdone : ∀ {listed : Array Bool}, listed.size = ops.size → Region.ready .any ops listed = [] → ∀ j, j < ops.size → LB listed j = true := by
      intro listed hsz hr j
      induction j using Nat.strongRecOn with
      | _ j ih =>
        intro hj
        cases hb : LB listed j with
        | true => rfl
        | false =>
          have hmem : j ∈ Region.ready .any ops listed := by
            rw [mem_ready]
            refine ⟨?_, ops[j], by simp [hj], fun e he hbind => ?_⟩
            · have hb' := hb
              simp only [LB, Array.getD_eq_getD_getElem?] at hb'
              simp only [Array.getD_eq_getD_getElem?]
              rw [Array.getElem?_eq_getElem (by omega)] at hb' ⊢
              exact hb'
            · have hro := hrow (j := j) (o := ops[j]) (by simp [hj])
              simp only [rowOk, Bool.and_eq_true, Array.all_eq_true_iff_forall_mem, Bool.or_eq_true, Bool.not_eq_true', decide_eq_true_eq] at hro
              have hlt : e.on < j := (hro.2 e he).resolve_left (by simp [hbind])
              exact ih e.on hlt (by omega)
          rw [hr] at hmem
          cases hmem
    have hend : ∀ {listed : Array Bool} {a : Act} {w : World}, listed.size = ops.size →
      (((∀ i, k ≤ i → LB listed i = false) ∧ InvE d nt m0 g0 w0 { st with f := putL (LB listed) 0 l st.f } a w) ∨
        (∃ j stj, k ≤ j ∧ j ≤ cs.length ∧ (∀ i, i < cs.length → (LB listed i = decide (i < j))) ∧ InvE d nt m0 g0 w0 stj a w ∧ regEv K (cs.drop j) stj = some st')) →
      Region.ready .any ops listed = [] → Q .normal a w := by
      intro listed a w hsz hinv hr
      have hall := hdone hsz hr
      rcases hinv with ⟨hhead, hi⟩ | ⟨j, stj, hkj, hjn, hLj, hi, hreg⟩
      · have hkn' : k = cs.length := by
          rcases Nat.lt_or_ge k cs.length with hlt | hge
          · have := hall k (by omega); rw [hhead k (Nat.le_refl k)] at this; cases this
          · omega
        rw [hkn', List.drop_length] at h1
        simp only [regEv, Option.some.injEq] at h1
        subst h1
        rw [hl2] at hq
        refine hq a w (hi.congr fun t => putL_congr rfl fun m x hx _ => ?_)
        have := (hlget hx).2
        simp only [Nat.zero_add]
        rw [hall m (by omega)]
      · have hjn' : j = cs.length := by
          rcases Nat.lt_or_ge j cs.length with hlt | hge
          · have h2 := hLj j hlt; rw [hall j (by omega)] at h2; simp at h2
          · omega
        rw [hjn', List.drop_length] at hreg
        simp only [regEv, Option.some.injEq] at hreg
        subst hreg
        exact hq a w hi
    induction fuel with
    | zero =>
      intro listed a w hmis hsz hcl hinv
      have hr : Region.ready .any ops listed = [] := by
        cases hr : Region.ready .any ops listed with
        | nil => rfl
        | cons j r =>
          have hmem : j ∈ Region.ready .any ops listed := by rw [hr]; exact List.mem_cons_self
          rw [mem_ready] at hmem
          obtain ⟨h2, o, ho, _⟩ := hmem
          have hj : j < ops.size := (Array.getElem?_eq_some_iff.1 ho).1
          have hb : LB listed j = false := by
            simp only [LB, Array.getD_eq_getD_getElem?] at h2 ⊢
            rw [Array.getElem?_eq_getElem (by omega)] at h2 ⊢
            exact h2
          have := missing_set (i := j) (by omega : j < listed.size) hb
          omega
      exact ⟨hr, hend hsz hinv hr⟩
    | succ fuel ih =>
      intro listed a w hmis hsz hcl hinv
      refine ⟨hend hsz hinv, fun j hmem => ?_⟩
      rw [mem_ready] at hmem
      obtain ⟨h2, o, ho, hedges⟩ := hmem
      have hj : j < ops.size := (Array.getElem?_eq_some_iff.1 ho).1
      have hb : LB listed j = false := by
        simp only [LB, Array.getD_eq_getD_getElem?] at h2 ⊢
        rw [Array.getElem?_eq_getElem (by omega)] at h2 ⊢
        exact h2
      have hjs : j < listed.size := by omega
      obtain ⟨c, hc, hck⟩ := chkOps_get hk (j := j) (o := o) (by simpa using ho)
      have hmis' := missing_set hjs hb
      have hset := LB_set hjs
      have hrl : ∀ i, (rows.getD j 0).testBit i = true → LB listed i = true := fun i hi => row_ready (hrow ho) hcl hedges hi
      have hcl' : ∀ j', LB (listed.setIfInBounds j true) j' = true → ∀ i, (rows.getD j' 0).testBit i = true → LB (listed.setIfInBounds j true) i = true := by
        intro j' hj' i hi
        rw [hset] at hj' ⊢
        simp only [Bool.or_eq_true, decide_eq_true_eq] at hj' ⊢
        rcases hj' with rfl | hj'
        · exact .inr (hrl i hi)
        · exact .inr (hcl j' hj' i hi)
      have step2 : ∀ stj, k ≤ j → (∀ i, i < cs.length → (LB listed i = decide (i < j))) → InvE d nt m0 g0 w0 stj a w → regEv K (cs.drop j) stj = some st' →
          wpOpIn (Fw ro) 0 P ops Q j (wpAnyIn (Fw ro) 0 P .any ops Q fuel (listed.setIfInBounds j true)) a w := by
        intro stj hkj hLj hi hreg
        have hjc : j < cs.length := by omega
        have hcd : cs.drop j = c :: cs.drop (j + 1) := by
          rw [List.drop_eq_getElem_cons hjc]
          congr 1
          have := (List.getElem?_eq_some_iff.1 hc).2
          exact this
        rw [hcd] at hreg
        simp only [regEv] at hreg
        split at hreg
        · rename_i stj' hev
          unfold wpOpIn
          simp only [ho]
          refine cop_ok hK hck hi hev fun a' w' hi' => ?_
          refine ih _ a' w' (by omega) (by simpa using hsz) hcl' (.inr ⟨j + 1, stj', by omega, by omega, fun i hi => ?_, hi', hreg⟩)
          rw [hset, hLj i hi]
          rw [Bool.eq_iff_iff]
          simp only [Bool.or_eq_true, decide_eq_true_eq]
          omega
        · cases hreg
      rcases hinv with ⟨hhead, hi⟩ | ⟨jj, stj, hkj, hjn, hLj, hi, hreg⟩
      · rcases Nat.lt_or_ge j k with hlt | hge
        · -- one that only reads
          have hjl : j < l.length := by omega
          have hx : l[j]? = some l[j] := by simp [hjl]
          obtain ⟨hxc, _⟩ := hlget hx
          have hxc' : l[j].1 = c := by rw [hc] at hxc; injection hxc with hxc; exact hxc.symm
          have hev := hl3 j _ hx
          rw [hxc'] at hev
          have hlater : ∀ m y, j < m → l[m]? = some y → (touches c.dst y.1 || touches y.1.dst c) = true → LB listed m = false := by
            intro m y hjm hy ht
            cases hbm : LB listed m with
            | false => rfl
            | true =>
              have := hcl m hbm j (hpair hjm hy hx (by rw [hxc']; exact ht))
              rw [hb] at this; cases this
          have hcong : c.evH K { st with f := putL (LB listed) 0 l st.f } = some l[j].2 := by
            rw [← hev]
            refine evH_congr fun s hs => putL_congr rfl fun m y hy hyd => ?_
            simp only [Nat.zero_add]
            have ht : touches y.1.dst c = true := by simp [touches, hyd, hs]
            rcases Nat.lt_trichotomy m j with hmj | rfl | hmj
            · rw [hrl m (hpair hmj hx hy (by rw [hxc']; simp [ht]))]; simp [hmj]
            · rw [hb]; simp
            · rw [hlater m y hmj hy (by simp [ht])]
              simp; omega
          unfold wpOpIn
          simp only [ho]
          refine copH_ok hK hck (List.all_eq_true.1 hbs c (List.mem_of_getElem? hc)) hi hcong fun a' w' hi' => ?_
          refine ih _ a' w' (by omega) (by simpa using hsz) hcl' (.inl ⟨fun i hki => ?_, ?_⟩)
          · rw [hset, hhead i hki]; simp; omega
          · rw [St.put_eq] at hi'
            refine hi'.congr fun t => ?_
            show get (putL _ 0 l st.f) t = get (putf (putL (LB listed) 0 l st.f) c.dst l[j].2) t
            rw [get_putf]
            split
            · rename_i hd
              refine putL_last (m := j) hx (by rw [hxc']; exact hd) (by rw [hset]; simp) fun m y hjm hy hyd => ?_
              rw [hset]
              simp only [Nat.zero_add]
              rw [hlater m y hjm hy (by simp [touches, hd, hyd])]
              simp; omega
            · rename_i hd
              refine putL_congr rfl fun m y hy hyd => ?_
              simp only [Nat.zero_add]
              rw [hset]
              have : m ≠ j := by
                rintro rfl
                rw [hx] at hy
                injection hy with hy
                subst hy
                rw [hxc'] at hyd
                exact hd hyd
              simp [this]
        · have hjk : j = k := by
            rcases Nat.lt_or_ge k j with hlt | hge'
            · have := hrl k (htl hge (by omega) hlt); rw [hhead k (Nat.le_refl k)] at this; cases this
            · omega
          subst hjk
          have hL : ∀ i, i < cs.length → LB listed i = decide (i < j) := by
            intro i hi
            rcases Nat.lt_or_ge i j with hlt | hge'
            · rw [hrl i (htl hge (by omega) hlt)]; simp [hlt]
            · rw [hhead i hge']; simp; omega
          refine step2 sth (Nat.le_refl _) hL ?_ h1
          rw [hl2]
          refine hi.congr fun t => putL_congr rfl fun m x hx _ => ?_
          have := (hlget hx).2
          simp only [Nat.zero_add]
          rw [hL m (by omega)]
          simp [this]
      · have hjj : j = jj := by
          rcases Nat.lt_or_ge j jj with hlt | hge
          · have := hLj j (by omega); rw [hb] at this; simp at this; omega
          · rcases Nat.lt_or_ge jj j with hlt | hge'
            · have h3 := hrl jj (htl (by omega) (by omega) hlt)
              rw [hLj jj (by omega)] at h3
              simp at h3
            · omega
        subst hjj
        exact step2 stj hkj hLj hi hreg
  refine main ops.size _ a _ ?_ (by simp) ?_ (.inl ⟨fun i _ => ?_, ?_⟩)
  · unfold missing
    refine Nat.le_trans (List.length_filter_le _ _) ?_
    simp
  · intro j hj
    exfalso
    simp only [LB, Array.getD_eq_getD_getElem?, Array.getElem?_replicate] at hj
    split at hj <;> simp at hj
  · simp only [LB, Array.getD_eq_getD_getElem?, Array.getElem?_replicate]
    split <;> simp
  · refine h.drawn.congr fun t => ?_
    have : ∀ (l : List (COp × PV)) (i : Nat) (f : List (Nat × PV)), get (putL (LB (Array.replicate ops.size false)) i l f) t = get f t := by
      intro l
      induction l with
      | nil => intros; rfl
      | cons y r ih =>
        intro i f
        have : LB (Array.replicate ops.size false) i = false := by
          simp only [LB, Array.getD_eq_getD_getElem?, Array.getElem?_replicate]
          split <;> simp
        simp only [putL, this]
        exact ih _ _
    exact this l 0 st.f
end
end Go.Proofs.Ytbbpkkeaddbcnaa.ZIM
