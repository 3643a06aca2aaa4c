/- Operations with an effect; a region; code; a call: the ideal machine is sound. -/
import Derived.Test.YtbbpkkeaddbcnaaZIM11
import Derived.CallsIn
import Derived.LoopNIn
set_option linter.unusedSimpArgs false
set_option linter.unusedVariables false
namespace Go.Proofs.Ytbbpkkeaddbcnaa.ZIM
open Go.RowKit

section
variable {P : Program} {d nt : Nat} {m0 : Mem} {g0 : Gh} {w0 : World} {g : Gh} {om : Nat → Value} {szm : Nat → Nat} {st : St} {a : Act} {w : World}

theorem mset_length : ∀ {m m' : Mem} {l s : Nat} {x : List PV}, mset m l s x = some m' → m'.length = m.length
  | [], _, _, _, _, h => by simp [mset] at h
  | y :: r, m', l, s, x, h => by
    simp only [mset] at h
    split at h
    · obtain ⟨y', _, rfl⟩ := Option.map_eq_some_iff.1 h; rfl
    · obtain ⟨r', hr, rfl⟩ := Option.map_eq_some_iff.1 h
      simp [mset_length hr]
theorem mget_mset : ∀ {m m' : Mem} {l s : Nat} {x : List PV}, mset m l s x = some m' → ∀ l' s', mget m' l' s' = if l' = l ∧ s' = s then some x else mget m l' s'
  | [], _, _, _, _, h, _, _ => by simp [mset] at h
  | y :: r, m', l, s, x, h, l', s' => by
    simp only [mset] at h
    split at h
    · rename_i he
      have hl := beq_iff_eq.1 he
      obtain ⟨y', hy, rfl⟩ := Option.map_eq_some_iff.1 h
      rw [mget_cons, mget_cons, get_upd hy]
      by_cases hl' : l' = r.length
      · subst hl'
        subst hl
        simp only [beq_self_eq_true, if_true, true_and]
        by_cases hs : s = s'
        · subst hs; simp
        · rw [if_neg hs, if_neg (Ne.symm hs)]
      · have hb : ¬ ((l' == r.length) = true) := by simpa using hl'
        rw [if_neg hb, if_neg (by rw [hl]; intro hh; exact hl' hh.1), if_neg hb]
    · rename_i he
      have hl : l ≠ r.length := by simpa using he
      obtain ⟨r', hr, rfl⟩ := Option.map_eq_some_iff.1 h
      rw [mget_cons, mget_cons, mset_length hr, mget_mset hr]
      by_cases hl' : l' = r.length
      · subst hl'
        simp only [beq_self_eq_true, if_true]
        rw [if_neg (fun hh => hl hh.1.symm)]
      · have hb : ¬ ((l' == r.length) = true) := by simpa using hl'
        rw [if_neg hb, if_neg hb]

theorem cells_Tg {v : PV} {rv : Value} (h : V g v rv) (hc : v.isVal = true) (hT : Tg st.tops om szm v rv) : ∀ j c, v.cells[j]? = some c → TgC st.tops om szm c (rv.cells.getD j undef) := by
  cases v with
  | agg cs =>
    cases h with
    | agg _ vs hn hc hV => exact hT vs rfl
  | tup _ => simp [PV.isVal, PV.isCell] at hc
  | und => simp [PV.isVal, PV.isCell] at hc
  | _ =>
    have hv : vcell rv = true := h.vcell (by simpa [PV.isVal] using hc)
    have hcs : rv.cells = #[rv] := by cases rv <;> first | rfl | (simp [vcell] at hv)
    rw [hcs]
    intro j c hj
    simp only [PV.cells] at hj
    cases j with
    | zero => simp only [List.getElem?_cons_zero, Option.some.injEq] at hj; subst hj; exact hT
    | succ j => simp at hj

theorem vcells {v : PV} {rv : Value} (h : V g v rv) (hc : v.isVal = true) : ∀ u ∈ rv.cells.toList, u.oneCell' = true := by
  obtain ⟨h1, h2⟩ := cells_V h hc
  intro u hu
  obtain ⟨j, hj⟩ := List.getElem?_of_mem hu
  have hlt : j < rv.cells.size := by have := (List.getElem?_eq_some_iff.1 hj).1; simpa using this
  have := h2 j v.cells[j] (List.getElem?_eq_getElem (by omega))
  have h3 := this.vcell (isVal_cells hc _ (List.getElem_mem _))
  have h4 : rv.cells.getD j undef = u := by
    have hj' : rv.cells[j]? = some u := by simpa using hj
    simp [Array.getD_eq_getD_getElem?, hj']
  rw [h4] at h3
  exact vcell_one h3

theorem run_storeVar {t : TypeId} {sz b off : Nat} {C : Array Value} {E : TypeId} {rv : Value} (hs : tySz P t = some sz) (hh : w.heap[b]? = some (.cells C E (0, 0))) (hl : rv.cells.size = sz)
    (hle : off + sz ≤ C.size) (h1 : ∀ u ∈ rv.cells.toList, u.oneCell' = true) :
    (Instr.storeAt t (.pointer (some ⟨b, off, none⟩)) rv).run P w = .ok () (w.setRow b (splice C.toList rv.cells.toList off).toArray) := by
  have := run_storeCells_at P b off E rv.cells.toList 0 C w hh (by simp; omega) h1
  simp only [Nat.add_zero] at this
  simp [Instr.storeAt, Instr.sureAddr, storeVar, run_sizeOf hs, hl, this, splice]

theorem store_ok (h : Inv d nt m0 g0 w0 g om szm st a w) {t : TypeId} {sz : Nat} (hs : tySz P t = some sz) {x y : PV} {rx ry : Value} (hx : V g x rx) (hy : V g y ry) (hyt : Tg st.tops om szm y ry) {st' : St}
    (he : storeEv st sz x y = some st') : ∃ w', (Instr.storeAt t rx ry).run P w = .ok () w' ∧ Inv d nt m0 g0 w0 g om szm st' a w' := by
  cases x with
  | ptr l s off =>
    cases hx with
    | ptr _ _ _ b hb =>
    simp only [storeEv] at he
    split at he
    · rename_i hl
      have hld : l = d := by rw [← h.lv]; exact beq_iff_eq.1 hl
      subst hld
      split at he
      · rename_i cs hcs
        split at he
        · rename_i hc
          simp only [Bool.and_eq_true, beq_iff_eq, decide_eq_true_eq] at hc
          obtain ⟨⟨hval, hlen⟩, hle⟩ := hc
          split at he
          · rename_i own' hup
            cases he
            obtain ⟨cs2, C, E, hm, hh, hsz, h4, h5⟩ := h.rel.hM l s b hb
            rw [← h.lv, mget_own, hcs] at hm
            cases hm
            obtain ⟨hn, hcv⟩ := cells_V hy hval
            have hct := cells_Tg hy hval hyt
            refine ⟨_, run_storeVar hs hh (by omega) (by omega) (vcells hy hval), h.setVar hb (cs' := splice cs y.cells off) rfl ?_ (Upd.row hh) ?_ ?_ ?_⟩
            · intro l' s'
              rw [mget_cons, mget_cons, h.lv, get_upd hup]
              by_cases hl' : l' = l
              · subst hl'
                simp only [beq_self_eq_true, if_true, true_and]
                by_cases hs' : s = s'
                · subst hs'; simp
                · rw [if_neg hs', if_neg (Ne.symm hs')]
              · rw [if_neg (by simpa using hl'), if_neg (by simp [hl']), if_neg (by simpa using hl')]
            · rw [splice_length (by omega)]
              simp [splice_length (cs := C.toList) (new := ry.cells.toList) (off := off) (by simp; omega)]
              exact hsz
            · intro j c hj
              rw [splice_get (by omega)] at hj
              have hC : (splice C.toList ry.cells.toList off).toArray.getD j undef = if off ≤ j ∧ j < off + y.cells.length then ry.cells.getD (j - off) undef else C.getD j undef := by
                rw [Array.getD_eq_getD_getElem?, List.getElem?_toArray, splice_get (by simp; omega)]
                simp only [Array.length_toList, hn]
                split
                · simp [Array.getD_eq_getD_getElem?]
                · simp [Array.getD_eq_getD_getElem?]
              rw [hC]
              by_cases hr : off ≤ j ∧ j < off + y.cells.length
              · rw [if_pos hr] at hj ⊢
                have hv := hcv _ c hj
                refine ⟨isVal_cells hval c (getElem?_mem' hj), ?_, hv, fun _ => hct _ c hj⟩
                exact hv.depAll fun l' s' b' hb' => by have := h.rel.lt l' s' b' hb'; simpa [h.lv] using this
              · rw [if_neg hr] at hj ⊢
                obtain ⟨q1, q2, q3⟩ := h4 j c hj
                exact ⟨q1, q2, q3, fun _ => h.tb s cs b C E hcs hb hh j c hj⟩
            · intro hlt; omega
          · cases he
        · cases he
      · cases he
    · rename_i hl
      have hld : l ≠ d := by rw [← h.lv]; simpa using hl
      split at he
      · rename_i cs hcs
        split at he
        · rename_i hc
          simp only [Bool.and_eq_true, beq_iff_eq, decide_eq_true_eq] at hc
          obtain ⟨⟨⟨hval, hlen⟩, hle⟩, hdep⟩ := hc
          split at he
          · rename_i m' hup
            cases he
            obtain ⟨cs2, C, E, hm, hh, hsz, h4, h5⟩ := h.rel.hM l s b hb
            rw [mget_cons, if_neg hl, hcs] at hm
            cases hm
            obtain ⟨hn, hcv⟩ := cells_V hy hval
            have hlen' : (y.cells.map PV.untag1).length = y.cells.length := by simp
            refine ⟨_, run_storeVar hs hh (by omega) (by omega) (vcells hy hval), h.setVar hb (cs' := splice cs (y.cells.map PV.untag1) off) (mset_length hup) ?_ (Upd.row hh) ?_ ?_ ?_⟩
            · intro l' s'
              rw [mget_cons, mget_cons, mset_length hup, h.lv, mget_mset hup]
              by_cases hl' : l' = d
              · subst hl'
                simp only [beq_self_eq_true, if_true]
                rw [if_neg (by intro hh; exact hld hh.1.symm)]
              · have hb' : ¬ ((l' == d) = true) := by simpa using hl'
                rw [if_neg hb', if_neg hb']
            · rw [splice_length (by omega)]
              simp [splice_length (cs := C.toList) (new := ry.cells.toList) (off := off) (by simp; omega)]
              exact hsz
            · intro j c hj
              rw [splice_get (by omega), hlen'] at hj
              have hC : (splice C.toList ry.cells.toList off).toArray.getD j undef = if off ≤ j ∧ j < off + y.cells.length then ry.cells.getD (j - off) undef else C.getD j undef := by
                rw [Array.getD_eq_getD_getElem?, List.getElem?_toArray, splice_get (by simp; omega)]
                simp only [Array.length_toList, hn]
                split
                · simp [Array.getD_eq_getD_getElem?]
                · simp [Array.getD_eq_getD_getElem?]
              rw [hC]
              by_cases hr : off ≤ j ∧ j < off + y.cells.length
              · rw [if_pos hr] at hj ⊢
                rw [List.getElem?_map] at hj
                obtain ⟨c0, hc0, rfl⟩ := Option.map_eq_some_iff.1 hj
                refine ⟨by rw [isCell_untag1]; exact isVal_cells hval c0 (getElem?_mem' hc0), ?_, (hcv _ c0 hc0).untag1, fun hh => absurd hh hld⟩
                have := cells_dep hdep c0 (getElem?_mem' hc0)
                cases c0 <;> exact this
              · rw [if_neg hr] at hj ⊢
                obtain ⟨q1, q2, q3⟩ := h4 j c hj
                exact ⟨q1, q2, q3, fun hh => absurd hh hld⟩
            · intro hlt j c hj
              rw [splice_get (by omega), hlen'] at hj
              by_cases hr : off ≤ j ∧ j < off + y.cells.length
              · rw [if_pos hr] at hj
                rw [List.getElem?_map] at hj
                obtain ⟨c0, hc0, rfl⟩ := Option.map_eq_some_iff.1 hj
                exact .inl (untag1_untag1 c0)
              · rw [if_neg hr] at hj
                refine .inr ⟨cs, hcs, hj, ?_⟩
                simp only [World.cell?, setRow_heap w b C _ E _ hh, hh]
                simp only [Option.isSome_none, Bool.false_eq_true, if_false]
                rw [List.getElem?_toArray, splice_get (by simp; omega)]
                simp only [Array.length_toList]
                rw [if_neg (by omega)]
                simp
          · cases he
        · cases he
      · cases he
  | _ => simp [storeEv] at he

/-! ### calls -/
/-- What a call leaves. -/
structure CallPost (m : Mem) (g : Gh) (w : World) (m' : Mem) (v : PV) (g' : Gh) (w' : World) (rv : Value) : Prop where
  rel : Rel g' m' w'
  len : m'.length = m.length
  val : V g' v rv
  un : v.untag = v
  kp : Kp m.length g w g' w'
  mt : Mt m w g' m' w'
/-- Whoever is called does what the ideal machine says. -/
def Snd (P : Program) (K : Callee) : Prop :=
  ∀ fv args m v m', K fv args m = some (v, m') → ∀ g w rf (ra : Array Value), Rel g m w → V g fv rf → args.length = ra.size → (∀ j c, args[j]? = some c → V g c (ra.getD j undef)) → (∀ c ∈ args, c.untag = c) →
    ∃ f caps fn, rf = .func (.func f) #[] caps ∧ P.funcs[f]? = some fn ∧ fn.body.isSome = true ∧ fn.name ≠ "runtime.NumGoroutine" ∧
      CallsIn Fence.wide 0 P f (ra ++ caps) w fun e w' => ∃ rv g', e = .returned rv ∧ CallPost m g w m' v g' w' rv

theorem Kp.trans {g' : Gh} {w' : World} (h : Kp d g0 w0 g w) (hb : ∀ l s b, g.blk l s = some b → l < d + 1) (k : Kp (d + 1) g w g' w') (hr : ∀ l s b, g'.blk l s = some b → l < d + 1) : Kp d g0 w0 g' w' := by
  refine ⟨Nat.le_trans h.size k.size, fun b hlt hn => ?_, fun b o v hv => k.G _ _ _ (h.G _ _ _ hv), fun b o hlt => ?_, fun l s hl => ?_, k.os.trans h.os, k.tape.trans h.tape, k.output.trans h.output, fun l s b hl hb' => ?_⟩
  · rw [k.heap b (Nat.lt_of_lt_of_le hlt h.size) ?_]
    · exact h.heap b hlt hn
    · intro l s he
      by_cases hl : l < d
      · rw [h.blk l s hl] at he; exact hn l s he
      · have := h.new l s b (by omega) he; omega
  · rw [k.Gold b o (Nat.lt_of_lt_of_le hlt h.size)]; exact h.Gold b o hlt
  · rw [k.blk l s (by omega)]; exact h.blk l s hl
  · have hlt := hr l s b hb'
    have : l = d := by omega
    subst this
    rw [k.blk l s (by omega)] at hb'
    exact h.new l s b hl hb'

theorem Inv.called (h : Inv d nt m0 g0 w0 g om szm st a w) {own' : Lvl} {m' : Mem} {v : PV} {g' : Gh} {w' : World} {rv : Value} (hp : CallPost (st.own :: st.m) g w (own' :: m') v g' w' rv) {dst : Option Nat} (hd : ∀ t, dst = some t → t < nt) :
    Inv d nt m0 g0 w0 g' om szm ({ st with own := own', m := m' }.put dst v) (a.put dst rv) w' := by
  have hlen : m'.length = d := by have := hp.len; simp only [List.length_cons, h.lv] at this; omega
  have hgl : ∀ l s b, g.blk l s = some b → l < d + 1 := fun l s b hb => by have := h.rel.lt l s b hb; simpa [h.lv] using this
  have hgl' : ∀ l s b, g'.blk l s = some b → l < d + 1 := fun l s b hb => by have := hp.rel.lt l s b hb; simpa [hlen] using this
  have hk : Kp (d + 1) g w g' w' := by have := hp.kp; simpa [h.lv] using this
  have hle : g.le g' := ⟨hk.G, fun l s b hb => by rw [hk.blk l s (hgl l s b hb)]; exact hb⟩
  have hblk : ∀ l s b, g'.blk l s = some b → g.blk l s = some b := fun l s b hb => by rw [← hk.blk l s (hgl' l s b hb)]; exact hb
  have h1 : Inv d nt m0 g0 w0 g' om szm { st with own := own', m := m' } a w' := by
    refine ⟨hp.rel, hlen, fun t u hu => ?_, h.nt, h.df, ?_, fun n p hn => ?_, h.apart, h.kp.trans hgl hk hgl', ?_⟩
    · obtain ⟨x, y, z⟩ := h.f t u hu
      exact ⟨x, y.mono hle, z⟩
    · intro sl cs b C E hs hb hh j c hj
      have hb' := hblk d sl b hb
      rcases hp.mt d sl cs b (by rw [← hlen, mget_own]; exact hs) hb j c hj with h2 | ⟨cs0, h2, h3, h4⟩
      · exact TgC_of h2
      · rw [← h.lv, mget_own] at h2
        obtain ⟨_, C0, E0, _, hh0, hsz0, _⟩ := h.rel.hM d sl b hb'
        have h5 := h.tb sl cs0 b C0 E0 h2 hb' hh0 j c h3
        have h6 : C.getD j undef = C0.getD j undef := by
          simp only [World.cell?, hh, hh0, Option.isSome_none, Bool.false_eq_true, if_false] at h4
          simp [Array.getD_eq_getD_getElem?, h4]
        rw [h6]; exact h5
    · obtain ⟨vals, x, y⟩ := h.own n p hn
      refine ⟨vals, ownsRow_grown x fun b hb => ?_, fun b hb => ⟨fun l s he => (y b hb).1 l s (hblk l s b he), fun j => ?_⟩⟩
      · exact hk.heap b (x.lt b hb).2 (fun l s he => (y b hb).1 l s he)
      · rw [hk.Gold b j (x.lt b hb).2]; exact (y b hb).2 j
    · intro l s cs b hm hb j c hj
      have hlt : l < m'.length := mget_lt hm
      rcases hp.mt l s cs b (by rw [mget_cons, if_neg (by simp only [beq_iff_eq]; omega)]; exact hm) hb j c hj with h2 | ⟨cs0, h2, h3, h4⟩
      · exact .inl h2
      · rw [mget_cons, if_neg (by simp only [beq_iff_eq]; rw [h.lv]; omega)] at h2
        rcases h.mt l s cs0 b h2 (hblk l s b hb) j c h3 with h5 | ⟨cs1, h5, h6, h7⟩
        · exact .inl h5
        · exact .inr ⟨cs1, h5, h6, h4.trans h7⟩
  exact h1.put hd hp.val (Tg_of hp.un)

/-! ### one operation -/
def InvE (d nt : Nat) (m0 : Mem) (g0 : Gh) (w0 : World) (st : St) (a : Act) (w : World) : Prop := ∃ g om szm, Inv d nt m0 g0 w0 g om szm st a w

def chkDst (nt : Nat) (o : Oper) (c : COp) : Bool :=
  decide (o.dst = c.dst) && (match c.dst with | some t => decide (t < nt) | none => true) && (match c.op with | .store _ => c.dst.isNone | _ => true)

/-- The fence of a call, or of a round. -/
def Fw (ro : Option Nat) : Fence := { fn := fun _ => True, depth := none, alive := false, round := ro }

theorem call_upon {ro : Option Nat} {o : Oper} {f : FuncId} {fn : Func} {ra : Array Value} {next : Act → World → Prop} {Q : Exit → Act → World → Prop} {R : Value → World → Prop}
    (hr : (execOp a.eval o).run P w = .ok (.enter f ra) w) (hc : CallsIn Fence.wide 0 P f ra w fun e w' => ∃ rv, e = .returned rv ∧ R rv w') (hn : ∀ rv w', R rv w' → next (a.put o.dst rv) w') :
    o.uponIn (Fw ro) 0 P a next Q ((execOp a.eval o).run P w) := by
  rw [hr, Oper.uponIn_enter]
  refine ⟨fun h => by simp [Fw] at h, ?_⟩
  have hc' : CallsIn (Fw ro) 0 P f ra w fun e w' => ∃ rv, e = .returned rv ∧ R rv w' := hc
  refine hc'.mono ?_
  rintro e w' ⟨rv, rfl, h⟩
  exact hn rv w' h

theorem op_ok {ro : Option Nat} {K : Callee} (hK : Snd P K) (h : Inv d nt m0 g0 w0 g om szm st a w) {o : Oper} {c : COp} (hk : chkC P o.op c.op c.args = true) (hdst : chkDst nt o c = true) {vs : List PV} (hv : evs st.f c.args = some vs) {st' : St}
    (he : opEv K c.dst c.op vs st = some st') {next : Act → World → Prop} {Q : Exit → Act → World → Prop} (hn : ∀ a' w', InvE d nt m0 g0 w0 st' a' w' → next a' w') :
    o.uponIn (Fw ro) 0 P a next Q ((execOp a.eval o).run P w) := by
  simp only [chkDst, Bool.and_eq_true, decide_eq_true_eq] at hdst
  obtain ⟨⟨hd1, hd2⟩, hd3⟩ := hdst
  have hd : ∀ t, c.dst = some t → t < nt := fun t ht => by rw [ht] at hd2; simpa using hd2
  have pure_case : ∀ v, c.op.ev st.own st.m vs = some v → st' = st.put c.dst v → o.uponIn (Fw ro) 0 P a next Q ((execOp a.eval o).run P w) := by
    intro v hv' hst
    obtain ⟨r, h1, h2, h3⟩ := pure_ok h hk hv hv'
    rw [h1, Oper.uponIn_value, hd1]
    exact hn _ _ ⟨g, om, szm, hst ▸ h.put hd h2 h3⟩
  obtain ⟨cdst, cg, cop, cargs⟩ := c
  simp only at hk hv he hd1 hd2 hd3 hd pure_case
  obtain ⟨dst, op, ty, pos, aft, gd⟩ := o
  simp only at hd1 hk
  subst hd1
  cases cop
  case store sz =>
    simp only [opEv] at he
    simp only [chkC] at hk
    split at hk
    · rename_i t x y
      simp only [Bool.and_eq_true, beq_iff_eq] at hk
      obtain ⟨u, v', rfl, h1, h2⟩ := opds2 h hk.2 hv
      simp only [on2] at he
      obtain ⟨w', h3, h4⟩ := store_ok h hk.1 h1.1 h2.1 h2.2 he
      have hdn : dst = none := by simpa using hd3
      subst hdn
      have hr : (execOp a.eval ⟨none, .store t x y, ty, pos, aft, gd⟩).run P w = .ok .skip w' := by simp only [execOp, Sem.run_bind, h3, Result.andThen_ok, Sem.run_pure]
      rw [hr, Oper.uponIn_skip]
      exact hn _ _ ⟨g, om, szm, h4⟩
    · cases hk
  case alloc z =>
    simp only [opEv, newVar] at he
    simp only [chkC] at hk
    split at hk
    · rename_i t
      simp only [Bool.and_eq_true] at hk
      split at he
      · rename_i dd
        split at he
        · rename_i hnone
          split at he
          · rename_i hcell
            cases he
            obtain ⟨zv, hz1, hz2, hz3, hz4⟩ := zeroOk_spec hk.1
            obtain ⟨g', h4⟩ := h.newVar (E := t) (hd dd rfl) hnone hz2 (fun j c hj => ⟨(hz3 c (getElem?_mem' hj)).1, hz4 g j c hj, TgC_of (hz3 c (getElem?_mem' hj)).2⟩)
            have hr : (execOp a.eval ⟨some dd, .alloc t, ty, pos, aft, gd⟩).run P w = .ok (.value (.pointer (some ⟨w.heap.size, 0, none⟩))) (w.alloc (.cells zv.cells t (0, 0))) := by
              simp only [execOp, Instr.alloc, Sem.run_bind, run_zero hz1, Result.andThen_ok, newVar, newRow, run_newObj, Sem.run_pure, Go.newVar]
              rfl
            rw [hr, Oper.uponIn_value]
            exact hn _ _ ⟨g', om, szm, h4⟩
          · cases he
        · cases he
      · cases he
    · cases hk
  case box =>
    simp only [opEv] at he
    simp only [chkC] at hk
    split at hk
    · rename_i t x
      obtain ⟨v', rfl, h1, h2⟩ := opds1 h hk hv
      simp only [on1, newVar] at he
      split at he
      · rename_i dd
        split at he
        · rename_i hnone
          split at he
          · rename_i hcell
            cases he
            have hval : v'.isVal = true := by
              cases v' <;> first | exact hcell | (simpa [PV.cells, PV.isVal] using hcell)
            obtain ⟨h3, h4⟩ := cells_V h1 hval
            have h5 := cells_Tg h1 hval h2
            obtain ⟨g', h6⟩ := h.newVar (E := t) (hd dd rfl) hnone h3 (fun j c hj => ⟨isVal_cells hval c (getElem?_mem' hj), h4 j c hj, h5 j c hj⟩)
            have hr : (execOp a.eval ⟨some dd, .box t x, ty, pos, aft, gd⟩).run P w = .ok (.value (.pointer (some ⟨w.heap.size, 0, none⟩))) (w.alloc (.cells (a.eval x).cells t (0, 0))) := by
              simp only [execOp, Instr.box, Sem.run_bind, Result.andThen_ok, newRow, run_newObj, Sem.run_pure, Go.newVar]
              rfl
            rw [hr, Oper.uponIn_value]
            exact hn _ _ ⟨g', om, szm, h6⟩
          · cases he
        · cases he
      · cases he
    · cases hk
  case nil tag sz e =>
    simp only [opEv] at he
    simp only [chkC] at hk
    obtain ⟨om', szm', h1⟩ := h.newNil hd he
    split at hk
    · rw [show (execOp a.eval ⟨dst, _, ty, pos, aft, gd⟩).run P w = .ok (.value (.slice none 0 0)) w from rfl, Oper.uponIn_value]
      exact hn _ _ ⟨g, om', szm', h1⟩
    · rw [show (execOp a.eval ⟨dst, _, ty, pos, aft, gd⟩).run P w = .ok (.value (.slice none 0 0)) w from rfl, Oper.uponIn_value]
      exact hn _ _ ⟨g, om', szm', h1⟩
    · cases hk
  case bsl tag sz e =>
    simp only [opEv] at he
    simp only [chkC] at hk
    split at hk
    · rename_i t n parts
      simp only [Bool.and_eq_true, beq_iff_eq, decide_eq_true_eq] at hk
      obtain ⟨⟨⟨⟨⟨⟨⟨hk1, hk2⟩, hk0⟩, hk3⟩, hk4⟩, hk5⟩, hk6⟩, hk7⟩ := hk
      obtain ⟨zv, hzv⟩ := Option.isSome_iff_exists.1 hk3
      obtain ⟨hl, hV⟩ := opds_V h hk7 hv
      split at he
      · rename_i hsz
        have hl' : vs.length = ((parts.toList.map (·.2)).map a.eval).length := by simpa using hl.symm
        have hV' : ∀ (i : Nat) (v : PV) (r : Value), vs[i]? = some v → ((parts.toList.map (·.2)).map a.eval)[i]? = some r → V g v r := by
          intro i v r hv' hr
          rw [List.getElem?_map] at hr
          obtain ⟨x, hx, rfl⟩ := Option.map_eq_some_iff.1 hr
          exact (hV i v x hv' hx).1
        have hrsz : ∀ r ∈ (parts.toList.map (·.2)).map a.eval, r.cells.size = sz := by
          intro r hr
          obtain ⟨i, hi⟩ := List.getElem?_of_mem hr
          have hilt := (List.getElem?_eq_some_iff.1 hi).1
          have hvi : vs[i]? = some (vs[i]'(by omega)) := List.getElem?_eq_getElem (by omega)
          have hx := List.all_eq_true.1 hsz _ (getElem?_mem' hvi)
          simp only [Bool.and_eq_true, beq_iff_eq] at hx
          have := (cells_V (hV' i _ r hvi hi) hx.1).1
          omega
        have hn1 : n = ((parts.toList.map (·.2)).map a.eval).length := by simp [hk4]
        have hparts : parts.map (fun x => (x.1, a.eval x.2)) = ((((parts.toList.map (·.2)).map a.eval).zipIdx 0).map fun x => (x.2, x.1)).toArray := by
          apply Array.ext'
          simp only [Array.toList_map]
          apply List.ext_getElem?
          intro i
          simp only [List.getElem?_map, List.getElem?_zipIdx, Nat.zero_add]
          have h6 := congrArg (fun l => l[i]?) hk6
          simp only [List.getElem?_map] at h6
          cases hp : parts.toList[i]? with
          | none => simp
          | some p =>
            rw [hp] at h6
            simp only [Option.map_some] at h6
            have h7 := (List.getElem?_eq_some_iff.1 h6.symm).2
            simp at h7
            simp [← h7]
        obtain ⟨g', om', szm', h1⟩ := h.lit (E := e) hd hl' hsz hV' (by
          have : ((parts.toList.map (·.2)).map a.eval).length * sz ≤ 2 ^ 24 := by rw [← hn1]; exact hk5
          have h1 : ((parts.toList.map (·.2)).map a.eval).length ≤ 2 ^ 24 := Nat.le_trans (Nat.le_mul_of_pos_right _ hk0) this
          exact Nat.le_trans h1 (Nat.le_trans (by decide) maxLen_ge)) he
        have hr := run_buildSlice (isSlice_eq hk1) hk2 hzv _ hrsz (by rw [← hn1]; exact hk5) w
        have hr2 : (execOp a.eval ⟨dst, .buildSlice t n parts, ty, pos, aft, gd⟩).run P w = .ok (.value (.slice (some ⟨w.heap.size, 0, none⟩) ((parts.toList.map (·.2)).map a.eval).length ((parts.toList.map (·.2)).map a.eval).length))
            (w.alloc (.cells (((parts.toList.map (·.2)).map a.eval).flatMap (·.cells.toList)).toArray e (0, 0))) := by
          simp only [execOp, Sem.run_bind]
          rw [hparts, hn1, hr]
          rfl
        rw [hr2, Oper.uponIn_value]
        exact hn _ _ ⟨g', om', szm', h1⟩
      · cases he
    · cases hk
  case app tag sz bytes e =>
    simp only [opEv] at he
    simp only [chkC] at hk
    split at hk
    · rename_i as ts
      simp only [Bool.and_eq_true] at hk
      obtain ⟨⟨hk1, hk2⟩, hk3⟩ := hk
      split at hk1
      · rename_i t t' hts
        simp only [Bool.and_eq_true, beq_iff_eq] at hk1
        obtain ⟨rfl, hse⟩ := hk1
        split at hk3
        · rename_i x y has
          obtain ⟨u, v', rfl, h1, h2⟩ := opds2 h hk3 hv
          simp only [on2] at he
          have has' : as = #[x, y] := by apply Array.ext'; simpa using has
          have hts' : ts = #[t, t] := by apply Array.ext'; simpa using hts
          subst has'; subst hts'
          simp only [elemOk] at hk2
          split at hk2
          · rename_i i hi
            simp only [Bool.and_eq_true, beq_iff_eq, decide_eq_true_eq] at hk2
            obtain ⟨⟨⟨⟨hz, hs⟩, hb⟩, hs0⟩, hb0⟩ := hk2
            split at hz
            · rename_i z hz'
              have hzs := beq_iff_eq.1 hz
              obtain ⟨r, w', g', om', szm', h3, h4⟩ := app_ok (ty := ty) h (isSlice_eq hse) hi hz' hb hb0 (by rw [hzs, hs]) hs hs0 hd h1.1 h1.2 h2.1 he
              have hr : (execOp a.eval ⟨dst, .call { callee := .builtin .append, args := #[x, y], argTypes := #[t, t] }, ty, pos, aft, gd⟩).run P w = .ok (.value r) w' := by
                simp [execOp, resolve, invoke, builtin, h3]
              rw [hr, Oper.uponIn_value]
              exact hn _ _ ⟨g', om', szm', h4⟩
            · cases hz
          · cases hk2
        · cases hk3
      · cases hk1
    · cases hk
  case call f =>
    simp only [opEv, callEv] at he
    simp only [chkC] at hk
    split at hk
    · rename_i f' as ts
      simp only [Bool.and_eq_true, beq_iff_eq] at hk
      obtain ⟨rfl, hk⟩ := hk
      obtain ⟨hl, hV⟩ := opds_V h hk hv
      split at he
      · rename_i v own' m' hKe
        cases he
        obtain ⟨f0, caps, fn, hrf, hfn, hbody, hname, hc⟩ := hK _ _ _ _ _ hKe g w (.func (.func f) #[] #[]) (as.map a.eval) h.rel (.fn f [] #[] rfl (fun j c hj => by simp at hj)) (by simpa using hl.symm)
          (fun j c hj => by
            rw [List.getElem?_map] at hj
            obtain ⟨u, hu, rfl⟩ := Option.map_eq_some_iff.1 hj
            have hlt : j < as.size := by have := (List.getElem?_eq_some_iff.1 hu).1; simp at hl; omega
            have := (hV j u as[j] hu (by simp [hlt])).1.untag
            simpa [hlt] using this)
          (fun c hc => by obtain ⟨u, _, rfl⟩ := List.mem_map.1 hc; exact untag_untag u)
        injection hrf with hrf1 _ hrf3
        injection hrf1 with hrf1
        subst hrf1; subst hrf3
        refine call_upon (fn := fn) (f := f) (ra := as.map a.eval ++ #[]) ?_ (R := fun rv w' => ∃ g', CallPost (st.own :: st.m) g w (own' :: m') v g' w' rv) (hc.mono ?_) ?_
        · simp [execOp, resolve, invoke, callFunc, Deferred.ofValue, Act.eval, hfn, hname, Option.isNone_iff_eq_none, Option.isSome_iff_ne_none.1 hbody]
        · rintro e w' ⟨rv, g', rfl, hp⟩; exact ⟨rv, rfl, g', hp⟩
        · rintro rv w' ⟨g', hp⟩; exact hn _ _ ⟨g', om, szm, h.called hp hd⟩
      · cases he
    · cases hk
  case callv =>
    simp only [opEv] at he
    simp only [chkC] at hk
    split at hk
    · rename_i x as ts
      split at he
      · rename_i fv vs'
        simp only [callEv] at he
        split at he
        · rename_i v own' m' hKe
          cases he
          obtain ⟨hl, hV⟩ := opds_V h hk hv
          have hl2 : as.toList.length = vs'.length := by simpa using hl
          have hx := hV 0 fv x rfl rfl
          obtain ⟨f0, caps, fn, hrf, hfn, hbody, hname, hc⟩ := hK _ _ _ _ _ hKe g w (a.eval x) (as.map a.eval) h.rel hx.1 (by simpa using hl2.symm)
            (fun j c hj => by
              rw [List.getElem?_map] at hj
              obtain ⟨u, hu, rfl⟩ := Option.map_eq_some_iff.1 hj
              have hlt : j < as.size := by have := (List.getElem?_eq_some_iff.1 hu).1; simp at hl2; omega
              have := (hV (j + 1) u as[j] (by simpa using hu) (by simp [hlt])).1.untag
              simpa [hlt] using this)
            (fun c hc => by obtain ⟨u, _, rfl⟩ := List.mem_map.1 hc; exact untag_untag u)
          refine call_upon (fn := fn) (f := f0) (ra := as.map a.eval ++ caps) ?_ (R := fun rv w' => ∃ g', CallPost (st.own :: st.m) g w (own' :: m') v g' w' rv) (hc.mono ?_) ?_
          · simp [execOp, resolve, invoke, callFunc, Deferred.ofValue, hrf, hfn, hname, Option.isNone_iff_eq_none, Option.isSome_iff_ne_none.1 hbody]
          · rintro e w' ⟨rv, g', rfl, hp⟩; exact ⟨rv, rfl, g', hp⟩
          · rintro rv w' ⟨g', hp⟩; exact hn _ _ ⟨g', om, szm, h.called hp hd⟩
        · cases he
      · cases he
    · cases hk
  all_goals
    simp only [opEv] at he
    split at he
    · rename_i v hv'
      exact pure_case v hv' (Option.some.inj he).symm
    · cases he
end
end Go.Proofs.Ytbbpkkeaddbcnaa.ZIM
