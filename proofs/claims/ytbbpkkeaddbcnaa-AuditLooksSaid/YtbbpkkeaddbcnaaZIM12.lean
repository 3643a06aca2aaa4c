/- Operations with an effect; a region; code; a call: the ideal machine is sound. -/
import Derived.Test.YtbbpkkeaddbcnaaZIM11
import Derived.CallsIn
import Derived.LoopNIn
set_option linter.unusedSimpArgs false
set_option linter.unusedVariables false
namespace Go.Proofs.Ytbbpkkeaddbcnaa.ZIM
open Go.RowKit

section
variable {P : Program} {d nt : Nat} {m0 : Mem} {g0 : Gh} {w0 : World} {g : Gh} {om : Nat → Value} {szm : Nat → Nat} {st : St} {a : Act} {w : World}

theorem mset_length : ∀ {m m' : Mem} {l s : Nat} {x : List PV}, mset m l s x = some m' → m'.length = m.length
  | [], _, _, _, _, h => by simp [mset] at h
  | y :: r, m', l, s, x, h => by
    simp only [mset] at h
    split at h
    · obtain ⟨y', _, rfl⟩ := Option.map_eq_some_iff.1 h; rfl
    · obtain ⟨r', hr, rfl⟩ := Option.map_eq_some_iff.1 h
      simp [mset_length hr]
theorem mget_mset : ∀ {m m' : Mem} {l s : Nat} {x : List PV}, mset m l s x = some m' → ∀ l' s', mget m' l' s' = if l' = l ∧ s' = s then some x else mget m l' s'
  | [], _, _, _, _, h, _, _ => by simp [mset] at h
  | y :: r, m', l, s, x, h, l', s' => by
    simp only [mset] at h
    split at h
    · rename_i he
      have hl := beq_iff_eq.1 he
      obtain ⟨y', hy, rfl⟩ := Option.map_eq_some_iff.1 h
      rw [mget_cons, mget_cons, get_upd hy]
      by_cases hl' : l' = r.length
      · subst hl'
        subst hl
        simp only [beq_self_eq_true, if_true, true_and]
        by_cases hs : s = s'
        · subst hs; simp
        · rw [if_neg hs, if_neg (Ne.symm hs)]
      · have hb : ¬ ((l' == r.length) = true) := by simpa using hl'
        rw [if_neg hb, if_neg (by rw [hl]; intro hh; exact hl' hh.1), if_neg hb]
    · rename_i he
      have hl : l ≠ r.length := by simpa using he
      obtain ⟨r', hr, rfl⟩ := Option.map_eq_some_iff.1 h
      rw [mget_cons, mget_cons, mset_length hr, mget_mset hr]
      by_cases hl' : l' = r.length
      · subst hl'
        simp only [beq_self_eq_true, if_true]
        rw [if_neg (fun hh => hl hh.1.symm)]
      · have hb : ¬ ((l' == r.length) = true) := by simpa using hl'
        rw [if_neg hb, if_neg hb]

theorem cells_Tg {v : PV} {rv : Value} (h : V g v rv) (hc : v.isVal = true) (hT : Tg st.tops om szm v rv) : ∀ j c, v.cells[j]? = some c → TgC st.tops om szm c (rv.cells.getD j undef) := by
  cases v with
  | agg cs =>
    cases h with
    | agg _ vs hn hc hV => exact hT vs rfl
  | tup _ => simp [PV.isVal, PV.isCell] at hc
  | und => simp [PV.isVal, PV.isCell] at hc
  | _ =>
    have hv : vcell rv = true := h.vcell (by simpa [PV.isVal] using hc)
    have hcs : rv.cells = #[rv] := by cases rv <;> first | rfl | (simp [vcell] at hv)
    rw [hcs]
    intro j c hj
    simp only [PV.cells] at hj
    cases j with
    | zero => simp only [List.getElem?_cons_zero, Option.some.injEq] at hj; subst hj; exact hT
    | succ j => simp at hj

theorem vcells {v : PV} {rv : Value} (h : V g v rv) (hc : v.isVal = true) : ∀ u ∈ rv.cells.toList, u.oneCell' = true := by
  obtain ⟨h1, h2⟩ := cells_V h hc
  intro u hu
  obtain ⟨j, hj⟩ := List.getElem?_of_mem hu
  have hlt : j < rv.cells.size := by have := (List.getElem?_eq_some_iff.1 hj).1; simpa using this
  have := h2 j v.cells[j] (List.getElem?_eq_getElem (by omega))
  have h3 := this.vcell (isVal_cells hc _ (List.getElem_mem _))
  have h4 : rv.cells.getD j undef = u := by
    have hj' : rv.cells[j]? = some u := by simpa using hj
    simp [Array.getD_eq_getD_getElem?, hj']
  rw [h4] at h3
  exact vcell_one h3

theorem run_storeVar {t : TypeId} {sz b off : Nat} {C : Array Value} {E : TypeId} {rv : Value} (hs : tySz P t = some sz) (hh : w.heap[b]? = some (.cells C E (0, 0))) (hl : rv.cells.size = sz)
    (hle : off + sz ≤ C.size) (h1 : ∀ u ∈ rv.cells.toList, u.oneCell' = true) :
    (Instr.storeAt t (.pointer (some ⟨b, off, none⟩)) rv).run P w = .ok () (w.setRow b (splice C.toList rv.cells.toList off).toArray) := by
  have := run_storeCells_at P b off E rv.cells.toList 0 C w hh (by simp; omega) h1
  simp only [Nat.add_zero] at this
  simp [Instr.storeAt, Instr.sureAddr, storeVar, run_sizeOf hs, hl, this, splice]

theorem store_ok (h : Inv d nt m0 g0 w0 g om szm st a w) {t : TypeId} {sz : Nat} (hs : tySz P t = some sz) {x y : PV} {rx ry : Value} (hx : V g x rx) (hy : V g y ry) (hyt : Tg st.tops om szm y ry) {st' : St}
    (he : storeEv st sz x y = some st') : ∃ w', (Instr.storeAt t rx ry).run P w = .ok () w' ∧ Inv d nt m0 g0 w0 g om szm st' a w' := by
  cases x with
  | ptr l s off =>
    cases hx with
    | ptr _ _ _ b hb =>
    simp only [storeEv] at he
    split at he
    · rename_i hl
      have hld : l = d := by rw [← h.lv]; exact beq_iff_eq.1 hl
      subst hld
      split at he
      · rename_i cs hcs
        split at he
        · rename_i hc
          simp only [Bool.and_eq_true, beq_iff_eq, decide_eq_true_eq] at hc
          obtain ⟨⟨hval, hlen⟩, hle⟩ := hc
          split at he
          · rename_i own' hup
            cases he
            obtain ⟨cs2, C, E, hm, hh, hsz, h4, h5⟩ := h.rel.hM l s b hb
            rw [← h.lv, mget_own, hcs] at hm
            cases hm
            obtain ⟨hn, hcv⟩ := cells_V hy hval
            have hct := cells_Tg hy hval hyt
            refine ⟨_, run_storeVar hs hh (by omega) (by omega) (vcells hy hval), h.setVar hb (cs' := splice cs y.cells off) rfl ?_ (Upd.row hh) ?_ ?_ ?_⟩
            · intro l' s'
              rw [mget_cons, mget_cons, h.lv, get_upd hup]
              by_cases hl' : l' = l
              · subst hl'
                simp only [beq_self_eq_true, if_true, true_and]
                by_cases hs' : s = s'
                · subst hs'; simp
                · rw [if_neg hs', if_neg (Ne.symm hs')]
              · rw [if_neg (by simpa using hl'), if_neg (by simp [hl']), if_neg (by simpa using hl')]
            · rw [splice_length (by omega)]
              simp [splice_length (cs := C.toList) (new := ry.cells.toList) (off := off) (by simp; omega)]
              exact hsz
            · intro j c hj
              rw [splice_get (by omega)] at hj
              have hC : (splice C.toList ry.cells.toList off).toArray.getD j undef = if off ≤ j ∧ j < off + y.cells.length then ry.cells.getD (j - off) undef else C.getD j undef := by
                rw [Array.getD_eq_getD_getElem?, List.getElem?_toArray, splice_get (by simp; omega)]
                simp only [Array.length_toList, hn]
                split
                · simp [Array.getD_eq_getD_getElem?]
                · simp [Array.getD_eq_getD_getElem?]
              rw [hC]
              by_cases hr : off ≤ j ∧ j < off + y.cells.length
              · rw [if_pos hr] at hj ⊢
                have hv := hcv _ c hj
                refine ⟨isVal_cells hval c (getElem?_mem' hj), ?_, hv, fun _ => hct _ c hj⟩
                exact hv.depAll fun l' s' b' hb' => by have := h.rel.lt l' s' b' hb'; simpa [h.lv] using this
              · rw [if_neg hr] at hj ⊢
                obtain ⟨q1, q2, q3⟩ := h4 j c hj
                exact ⟨q1, q2, q3, fun _ => h.tb s cs b C E hcs hb hh j c hj⟩
            · intro hlt; omega
          · cases he
        · cases he
      · cases he
    · rename_i hl
      have hld : l ≠ d := by rw [← h.lv]; simpa using hl
      split at he
      · rename_i cs hcs
        split at he
        · rename_i hc
          simp only [Bool.and_eq_true, beq_iff_eq, decide_eq_true_eq] at hc
          obtain ⟨⟨⟨hval, hlen⟩, hle⟩, hdep⟩ := hc
          split at he
          · rename_i m' hup
            cases he
            obtain ⟨cs2, C, E, hm, hh, hsz, h4, h5⟩ := h.rel.hM l s b hb
            rw [mget_cons, if_neg hl, hcs] at hm
            cases hm
            obtain ⟨hn, hcv⟩ := cells_V hy hval
            have hlen' : (y.cells.map PV.untag1).length = y.cells.length := by simp
            refine ⟨_, run_storeVar hs hh (by omega) (by omega) (vcells hy hval), h.setVar hb (cs' := splice cs (y.cells.map PV.untag1) off) (mset_length hup) ?_ (Upd.row hh) ?_ ?_ ?_⟩
            · intro l' s'
              rw [mget_cons, mget_cons, mset_length hup, h.lv, mget_mset hup]
              by_cases hl' : l' = d
              · subst hl'
                simp only [beq_self_eq_true, if_true]
                rw [if_neg (by intro hh; exact hld hh.1.symm)]
              · have hb' : ¬ ((l' == d) = true) := by simpa using hl'
                rw [if_neg hb', if_neg hb']
            · rw [splice_length (by omega)]
              simp [splice_length (cs := C.toList) (new := ry.cells.toList) (off := off) (by simp; omega)]
              exact hsz
            · intro j c hj
              rw [splice_get (by omega), hlen'] at hj
              have hC : (splice C.toList ry.cells.toList off).toArray.getD j undef = if off ≤ j ∧ j < off + y.cells.length then ry.cells.getD (j - off) undef else C.getD j undef := by
                rw [Array.getD_eq_getD_getElem?, List.getElem?_toArray, splice_get (by simp; omega)]
                simp only [Array.length_toList, hn]
                split
                · simp [Array.getD_eq_getD_getElem?]
                · simp [Array.getD_eq_getD_getElem?]
              rw [hC]
              by_cases hr : off ≤ j ∧ j < off + y.cells.length
              · rw [if_pos hr] at hj ⊢
                rw [List.getElem?_map] at hj
                obtain ⟨c0, hc0, rfl⟩ := Option.map_eq_some_iff.1 hj
                refine ⟨by rw [isCell_untag1]; exact isVal_cells hval c0 (getElem?_mem' hc0), ?_, (hcv _ c0 hc0).untag1, fun hh => absurd hh hld⟩
                have := cells_dep hdep c0 (getElem?_mem' hc0)
                cases c0 <;> exact this
              · rw [if_neg hr] at hj ⊢
                obtain ⟨q1, q2, q3⟩ := h4 j c hj
                exact ⟨q1, q2, q3, fun hh => absurd hh hld⟩
            · intro hlt j c hj
              rw [splice_get (by omega), hlen'] at hj
              by_cases hr : off ≤ j ∧ j < off + y.cells.length
              · rw [if_pos hr] at hj
                rw [List.getElem?_map] at hj
                obtain ⟨c0, hc0, rfl⟩ := Option.map_eq_some_iff.1 hj
                exact .inl (untag1_untag1 c0)
              · rw [if_neg hr] at hj
                refine .inr ⟨cs, hcs, hj, ?_⟩
                simp only [World.cell?, setRow_heap w b C _ E _ hh, hh]
                simp only [Option.isSome_none, Bool.false_eq_true, if_false]
                rw [List.getElem?_toArray, splice_get (by simp; omega)]
                simp only [Array.length_toList]
                rw [if_neg (by omega)]
                simp
          · cases he
        · cases he
      · cases he
  | _ => simp [storeEv] at he

theorem Inv.write (h : Inv d nt m0 g0 w0 g om szm st a w) {lv sl b off : Nat} (hb : g.blk lv sl = some b) {cs : List PV} (hcs : mget (st.own :: st.m) lv sl = some cs) {new : List PV} {vs : List Value} (hlen : new.length = vs.length) (hle : off + new.length ≤ cs.length)
    {C : Array Value} {E : TypeId} (hh : w.heap[b]? = some (.cells C E (0, 0))) (hnew : ∀ j c, new[j]? = some c → c.isCell = true ∧ c.dep (lv + 1) = true ∧ V g c (vs.getD j undef) ∧ c.untag1 = c) {st' : St} (hs : writeSt st lv sl (splice cs new off) = some st') :
    Inv d nt m0 g0 w0 g om szm st' a (w.setRow b (splice C.toList vs off).toArray) := by
  obtain ⟨cs2, C2, E2, hm, hh2, hsz, h4, h5⟩ := h.rel.hM lv sl b hb
  rw [hcs] at hm; cases hm
  rw [hh] at hh2; cases hh2
  have hC : ∀ j, (splice C.toList vs off).toArray.getD j undef = if off ≤ j ∧ j < off + new.length then vs.getD (j - off) undef else C.getD j undef := by
    intro j
    rw [Array.getD_eq_getD_getElem?, List.getElem?_toArray, splice_get (by simp; omega)]
    rw [hlen]
    split
    · rw [List.getD_eq_getElem?_getD]
    · simp [Array.getD_eq_getD_getElem?]
  have hl2 : (splice cs new off).length = (splice C.toList vs off).toArray.size := by
    rw [splice_length hle]
    simp [splice_length (cs := C.toList) (new := vs) (off := off) (by simp; omega)]
    exact hsz
  simp only [writeSt] at hs
  split at hs
  · rename_i hl
    have hld : lv = d := by rw [← h.lv]; exact beq_iff_eq.1 hl
    subst hld
    split at hs
    · rename_i own' hup
      cases hs
      refine h.setVar hb (cs' := splice cs new off) rfl ?_ (Upd.row hh) hl2 ?_ ?_
      · intro l' s'
        rw [mget_cons, mget_cons, h.lv, get_upd hup]
        by_cases hl' : l' = lv
        · subst hl'
          simp only [beq_self_eq_true, if_true, true_and]
          by_cases hs' : sl = s'
          · subst hs'; simp
          · rw [if_neg hs', if_neg (Ne.symm hs')]
        · rw [if_neg (by simpa using hl'), if_neg (by simp [hl']), if_neg (by simpa using hl')]
      · intro j c hj
        rw [splice_get hle] at hj
        rw [hC]
        by_cases hr : off ≤ j ∧ j < off + new.length
        · rw [if_pos hr] at hj ⊢
          obtain ⟨q1, q2, q3, q4⟩ := hnew _ c hj
          exact ⟨q1, q2, q3, fun _ => TgC_of q4⟩
        · rw [if_neg hr] at hj ⊢
          obtain ⟨q1, q2, q3⟩ := h4 j c hj
          have hcs' : get st.own sl = some cs := by rw [← h.lv, mget_own] at hcs; exact hcs
          exact ⟨q1, q2, q3, fun _ => h.tb sl cs b C E hcs' hb hh j c hj⟩
      · intro hlt; omega
    · cases hs
  · rename_i hl
    have hld : lv ≠ d := by rw [← h.lv]; simpa using hl
    have hcs' : mget st.m lv sl = some cs := by rw [mget_cons, if_neg hl] at hcs; exact hcs
    split at hs
    · rename_i m' hup
      cases hs
      refine h.setVar hb (cs' := splice cs new off) (mset_length hup) ?_ (Upd.row hh) hl2 ?_ ?_
      · intro l' s'
        rw [mget_cons, mget_cons, mset_length hup, h.lv, mget_mset hup]
        by_cases hl' : l' = d
        · subst hl'
          simp only [beq_self_eq_true, if_true]
          rw [if_neg (by intro hh; exact hld hh.1.symm)]
        · have hb' : ¬ ((l' == d) = true) := by simpa using hl'
          rw [if_neg hb', if_neg hb']
      · intro j c hj
        rw [splice_get hle] at hj
        rw [hC]
        by_cases hr : off ≤ j ∧ j < off + new.length
        · rw [if_pos hr] at hj ⊢
          obtain ⟨q1, q2, q3, q4⟩ := hnew _ c hj
          exact ⟨q1, q2, q3, fun hh => absurd hh hld⟩
        · rw [if_neg hr] at hj ⊢
          obtain ⟨q1, q2, q3⟩ := h4 j c hj
          exact ⟨q1, q2, q3, fun hh => absurd hh hld⟩
      · intro hlt j c hj
        rw [splice_get hle] at hj
        by_cases hr : off ≤ j ∧ j < off + new.length
        · rw [if_pos hr] at hj
          exact .inl (hnew _ c hj).2.2.2
        · rw [if_neg hr] at hj
          refine .inr ⟨cs, hcs', hj, ?_⟩
          simp only [World.cell?, setRow_heap w b C _ E _ hh, hh]
          simp only [Option.isSome_none, Bool.false_eq_true, if_false]
          rw [List.getElem?_toArray, splice_get (by simp; omega)]
          rw [if_neg (by omega)]
          simp
    · cases hs

theorem okn_plain {lv : Nat} {ks : List Nat} {c : PV} (h : c.okn lv ks [] = true) : c.untag1 = c := by
  cases c with
  | lst o nl sz xs =>
    cases o with
    | none => rfl
    | some t => simp [PV.okn] at h
  | _ => rfl
theorem frz_ok (h : Inv d nt m0 g0 w0 g om szm st a w) {fs ks ts : List Nat} {dst : Option Nat} (hd : ∀ t, dst = some t → t < nt) {x : PV} {rx : Value} (hx : V g x rx) (hxt : Tg st.tops om szm x rx) {st' : St} (he : frzEv st dst fs ks ts x = some st') :
    ∃ g' om', Inv d nt m0 g0 w0 g' om' szm st' (a.put dst rx) w := by
  cases x with
  | lst o nl sz xs =>
    simp only [frzEv, Option.some.injEq] at he
    subst he
    exact ⟨g, om, h.put hd hx hxt⟩
  | slr lv sl off n sz =>
    cases hx with
    | slr _ _ _ _ _ b off' c hb ho hc =>
    simp only [frzEv] at he
    split at he
    · rename_i hcond
      simp only [Bool.and_eq_true, beq_iff_eq, Bool.not_eq_true'] at hcond
      obtain ⟨hl, hks⟩ := hcond
      have hld : lv = d := by rw [← h.lv]; exact hl
      subst hld
      split at he
      · rename_i cs hcs
        split at he
        · rename_i hok
          simp only [Bool.and_eq_true, decide_eq_true_eq] at hok
          obtain ⟨hle, hok1, hok2⟩ := hok
          split at he
          · rename_i st1 hm
            cases he
            obtain ⟨cs2, C, E, h1, h2, h3, h4, h5⟩ := h.rel.hM lv sl b hb
            rw [← h.lv, mget_own, hcs] at h1
            cases h1
            obtain ⟨g1, om1, hi, hG1, hbl1, hV1, homb⟩ := h.mask_full hm
            have hfr := hi.freeze (C := C) h2 (h.kp.new lv sl b (Nat.le_refl _) hb)
              (fun l s hls => by
                obtain ⟨k1, k2⟩ := hbl1 l s b hls
                obtain ⟨rfl, rfl⟩ := h.rel.inj _ _ _ _ _ k1 hb
                have := k2 rfl
                rw [hks] at this; cases this)
              (fun n p hp hbb => by
                obtain ⟨k1, q, k2⟩ := homb n b hbb
                obtain ⟨vals, _, y⟩ := h.own n q k2
                rw [k1] at hbb
                exact (y b hbb).1 lv sl hb)
              (fun o => by rw [hG1]; exact h5 o)
              (fun j hj => by
                have hj2 : j < cs.length := by omega
                obtain ⟨k1, _, k3⟩ := h4 j _ (List.getElem?_eq_getElem hj2)
                have := k3.vcell k1
                simpa [hj] using this)
            have hcell : ∀ u ∈ cs.drop off, u.isCell = true ∧ u.untag1 = u := by
              intro u hu
              have hu' := List.mem_of_mem_drop hu
              obtain ⟨j, hj⟩ := List.getElem?_of_mem hu'
              exact ⟨(h4 j u hj).1, okn_plain (okns_mem hok2 u hu')⟩
            obtain ⟨k1, k2, k3⟩ := chunks_ok (sz := sz) (n := n) (l := cs.drop off) (by simp; omega) hcell
            have hget : ∀ (j : Nat) (c : PV), ((chunks sz n (cs.drop off)).flatMap PV.cells)[j]? = some c → j < n * sz ∧ cs[off + j]? = some c := by
              intro j c hj
              rw [k3, List.getElem?_take] at hj
              split at hj
              · rename_i hlt; rw [List.getElem?_drop] at hj; exact ⟨hlt, hj⟩
              · cases hj
            have hoff : ∀ (j : Nat) (c : PV), ((chunks sz n (cs.drop off)).flatMap PV.cells)[j]? = some c → off' = off := by
              intro j c hj
              obtain ⟨q1, _⟩ := hget j c hj
              refine ho fun h0 => ?_
              subst h0; omega
            have key := V.lst (g := { g1 with G := fun b' o => if b' = b then C[o]? else g1.G b' o }) none sz (chunks sz n (cs.drop off)) b off' c (fun j => C.getD (off' + j) undef) (fun x hx => (k2 x hx).1) (fun x hx => (k2 x hx).2)
              (fun j hj => by
                have h6 := hget j _ (List.getElem?_eq_getElem hj)
                have h7 := hoff j _ (List.getElem?_eq_getElem hj)
                have hlt : off' + j < C.size := by have := (List.getElem?_eq_some_iff.1 h6.2).1; omega
                show (if b = b then _ else _) = _
                rw [if_pos rfl]
                simp [hlt])
              (fun j c hj => by
                have h6 := hget j c hj
                have h7 := hoff j c hj
                obtain ⟨_, _, q3⟩ := h4 _ c h6.2
                rw [h7]
                have hle2 : g1.le { g1 with G := fun b' o => if b' = b then C[o]? else g1.G b' o } := ⟨fun b' o v hbv => by
                  have : b' ≠ b := fun he => by rw [he, hG1, h5 o] at hbv; cases hbv
                  show (if b' = b then _ else _) = _
                  rw [if_neg this]; exact hbv, fun _ _ _ x => x⟩
                exact (hV1 _ _ q3 (okns_mem hok1 c (getElem?_mem' h6.2))).mono hle2) (by rw [k1]; exact hc)
            rw [k1] at key
            exact ⟨_, om1, hfr.put hd key (by simp only [Tg]; trivial)⟩
          · cases he
        · cases he
      · cases he
    · cases he
  | _ => simp [frzEv] at he
theorem clr_ok (h : Inv d nt m0 g0 w0 g om szm st a w) {t e ty : TypeId} {sz : Nat} (ht : P.underlying t = some (.slice e)) {zv : Value} (hz1 : ((P.info? e).bind (·.zero)) = some zv) {z : List PV} (hz2 : z.length = zv.cells.size)
    (hz3 : ∀ c ∈ z, c.isCell = true ∧ c.untag1 = c) (hz4 : ∀ (g : Gh) j c, z[j]? = some c → V g c (zv.cells.getD j undef)) (hsz : 0 < sz) {dst : Option Nat} (hd : ∀ t, dst = some t → t < nt) {x : PV} {rx : Value} (hx : V g x rx) {st' : St} (he : clrEv st dst sz z x = some st') :
    ∃ w', (Builtin.clear_ #[t] ty #[rx]).run P w = .ok (.tuple #[]) w' ∧ Inv d nt m0 g0 w0 g om szm st' (a.put dst (.tuple #[])) w' := by
  cases hx with
  | slr lv sl off n sz' b off' c hb ho hc =>
    simp only [clrEv] at he
    split at he
    · rename_i hcond
      simp only [Bool.and_eq_true, beq_iff_eq] at hcond
      obtain ⟨⟨rfl, hzl⟩, hdep⟩ := hcond
      split at he
      · rename_i cs hcs
        split at he
        · rename_i hle
          split at he
          · rename_i st1 hw
            cases he
            obtain ⟨cs2, C, E, hm, hh, hszC, _, _⟩ := h.rel.hM lv sl b hb
            rw [hcs] at hm; cases hm
            have hzp : 0 < z.length := by omega
            have hrep := fun j (hj : j < n * z.length) => rep_get hzp (n := n) (j := j) hj
            have hrl := rep_len z n
            have hput : ∀ w', Inv d nt m0 g0 w0 g om szm st1 a w' → Inv d nt m0 g0 w0 g om szm (st1.put dst (.tup [])) (a.put dst (.tuple #[])) w' := fun w' hi =>
              hi.put hd (.tup [] #[] rfl (fun j c hj => by simp at hj)) (by simp only [Tg]; trivial)
            let vs : List Value := (Builtin.zeroCells zv.cells n).toList
            have hvl : vs.length = n * z.length := by simp [vs, Builtin.zeroCells, hz2]
            have hvget : ∀ j, j < n * z.length → vs.getD j undef = zv.cells.getD (j % z.length) undef := by
              intro j hj
              have h6 : j % zv.cells.size < zv.cells.size := Nat.mod_lt _ (by omega)
              have hj2 : j < n * zv.cells.size := by rw [← hz2]; exact hj
              rw [hz2]
              simp [vs, Builtin.zeroCells, List.getD_eq_getElem?_getD, hj2, h6]
            have hnew : ∀ j c, (rep z n)[j]? = some c → c.isCell = true ∧ c.dep (lv + 1) = true ∧ V g c (vs.getD j undef) ∧ c.untag1 = c := by
              intro j c hj
              have hlt : j < n * z.length := by rw [← hrl]; exact (List.getElem?_eq_some_iff.1 hj).1
              rw [hrep j hlt] at hj
              have hmem := getElem?_mem' hj
              rw [hvget j hlt]
              exact ⟨(hz3 c hmem).1, dep_mono (Nat.zero_le _) c (deps_mem hdep c hmem), hz4 g _ c hj, (hz3 c hmem).2⟩
            have hinv := h.write (vs := vs) hb hcs (by rw [hrl, hvl]) (by rw [hrl, hzl]; exact hle) hh hnew hw
            by_cases hn : n = 0
            · subst hn
              have hvs : vs = [] := List.eq_nil_of_length_eq_zero (by rw [hvl]; simp)
              rw [hvs] at hinv
              have hself : w.setRow b (splice C.toList [] off).toArray = w := by
                have : splice C.toList ([] : List Value) off = C.toList := by simp [splice]
                rw [this, Array.toArray_toList]
                exact setRow_self w b C E (0, 0) hh
              rw [hself] at hinv
              refine ⟨w, ?_, hput _ hinv⟩
              simp [Builtin.clear_, run_und ht]
            · have := ho hn
              subst this
              refine ⟨_, ?_, hput _ hinv⟩
              have hone : ∀ v ∈ vs, v.oneCell' = true := by
                intro v hv
                obtain ⟨j, hj⟩ := List.getElem?_of_mem hv
                have hlt : j < n * z.length := by rw [← hvl]; exact (List.getElem?_eq_some_iff.1 hj).1
                have hlt2 : j < (rep z n).length := by rw [hrl]; exact hlt
                obtain ⟨q1, _, q3, _⟩ := hnew j _ (List.getElem?_eq_getElem hlt2)
                rw [List.getD_eq_getElem?_getD, hj] at q3
                exact vcell_one (q3.vcell q1)
              have hst := run_storeCells_at (P := P) b off' E vs 0 C w hh (by rw [hvl, hzl]; omega) hone
              have hzv : ∀ w, (zeroValue e).run P w = .ok zv w := fun w => run_zero hz1 w
              obtain ⟨n', rfl⟩ : ∃ n', n = n' + 1 := ⟨n - 1, by omega⟩
              simp only [Builtin.clear_]
              simp [run_und ht, hzv]
              simp only [Nat.add_zero] at hst
              simp only [vs] at hst ⊢
              rw [hst]
              simp [splice]
          · cases he
        · cases he
      · cases he
    · cases he
  | _ => simp [clrEv] at he

/-! ### calls -/
/-- What a call leaves. -/
structure CallPost (m : Mem) (g : Gh) (w : World) (m' : Mem) (v : PV) (g' : Gh) (w' : World) (rv : Value) : Prop where
  rel : Rel g' m' w'
  len : m'.length = m.length
  val : V g' v rv
  un : v.untag = v
  kp : Kp m.length g w g' w'
  mt : Mt m w g' m' w'
/-- Whoever is called does what the ideal machine says. -/
def Snd (P : Program) (K : Callee) : Prop :=
  ∀ fv args m v m', K fv args m = some (v, m') → ∀ g w rf (ra : Array Value), Rel g m w → V g fv rf → args.length = ra.size → (∀ j c, args[j]? = some c → V g c (ra.getD j undef)) → (∀ c ∈ args, c.untag = c) →
    ∃ f caps fn, rf = .func (.func f) #[] caps ∧ P.funcs[f]? = some fn ∧ fn.body.isSome = true ∧ fn.name ≠ "runtime.NumGoroutine" ∧
      CallsIn Fence.wide 0 P f (ra ++ caps) w fun e w' => ∃ rv g', e = .returned rv ∧ CallPost m g w m' v g' w' rv

theorem Kp.trans {g' : Gh} {w' : World} (h : Kp d g0 w0 g w) (hb : ∀ l s b, g.blk l s = some b → l < d + 1) (k : Kp (d + 1) g w g' w') (hr : ∀ l s b, g'.blk l s = some b → l < d + 1) : Kp d g0 w0 g' w' := by
  refine ⟨Nat.le_trans h.size k.size, fun b hlt hn => ?_, fun b o v hv => k.G _ _ _ (h.G _ _ _ hv), fun b o hlt => ?_, fun l s hl => ?_, k.os.trans h.os, k.tape.trans h.tape, k.output.trans h.output, fun l s b hl hb' => ?_⟩
  · rw [k.heap b (Nat.lt_of_lt_of_le hlt h.size) ?_]
    · exact h.heap b hlt hn
    · intro l s he
      by_cases hl : l < d
      · rw [h.blk l s hl] at he; exact hn l s he
      · have := h.new l s b (by omega) he; omega
  · rw [k.Gold b o (Nat.lt_of_lt_of_le hlt h.size)]; exact h.Gold b o hlt
  · rw [k.blk l s (by omega)]; exact h.blk l s hl
  · have hlt := hr l s b hb'
    have : l = d := by omega
    subst this
    rw [k.blk l s (by omega)] at hb'
    exact h.new l s b hl hb'

theorem Inv.called (h : Inv d nt m0 g0 w0 g om szm st a w) {own' : Lvl} {m' : Mem} {v : PV} {g' : Gh} {w' : World} {rv : Value} (hp : CallPost (st.own :: st.m) g w (own' :: m') v g' w' rv) {dst : Option Nat} (hd : ∀ t, dst = some t → t < nt) :
    Inv d nt m0 g0 w0 g' om szm ({ st with own := own', m := m' }.put dst v) (a.put dst rv) w' := by
  have hlen : m'.length = d := by have := hp.len; simp only [List.length_cons, h.lv] at this; omega
  have hgl : ∀ l s b, g.blk l s = some b → l < d + 1 := fun l s b hb => by have := h.rel.lt l s b hb; simpa [h.lv] using this
  have hgl' : ∀ l s b, g'.blk l s = some b → l < d + 1 := fun l s b hb => by have := hp.rel.lt l s b hb; simpa [hlen] using this
  have hk : Kp (d + 1) g w g' w' := by have := hp.kp; simpa [h.lv] using this
  have hle : g.le g' := ⟨hk.G, fun l s b hb => by rw [hk.blk l s (hgl l s b hb)]; exact hb⟩
  have hblk : ∀ l s b, g'.blk l s = some b → g.blk l s = some b := fun l s b hb => by rw [← hk.blk l s (hgl' l s b hb)]; exact hb
  have h1 : Inv d nt m0 g0 w0 g' om szm { st with own := own', m := m' } a w' := by
    refine ⟨hp.rel, hlen, fun t u hu => ?_, h.nt, h.df, ?_, fun n p hn => ?_, h.apart, h.kp.trans hgl hk hgl', ?_⟩
    · obtain ⟨x, y, z⟩ := h.f t u hu
      exact ⟨x, y.mono hle, z⟩
    · intro sl cs b C E hs hb hh j c hj
      have hb' := hblk d sl b hb
      rcases hp.mt d sl cs b (by rw [← hlen, mget_own]; exact hs) hb j c hj with h2 | ⟨cs0, h2, h3, h4⟩
      · exact TgC_of h2
      · rw [← h.lv, mget_own] at h2
        obtain ⟨_, C0, E0, _, hh0, hsz0, _⟩ := h.rel.hM d sl b hb'
        have h5 := h.tb sl cs0 b C0 E0 h2 hb' hh0 j c h3
        have h6 : C.getD j undef = C0.getD j undef := by
          simp only [World.cell?, hh, hh0, Option.isSome_none, Bool.false_eq_true, if_false] at h4
          simp [Array.getD_eq_getD_getElem?, h4]
        rw [h6]; exact h5
    · obtain ⟨vals, x, y⟩ := h.own n p hn
      refine ⟨vals, ownsRow_grown x fun b hb => ?_, fun b hb => ⟨fun l s he => (y b hb).1 l s (hblk l s b he), fun j => ?_⟩⟩
      · exact hk.heap b (x.lt b hb).2 (fun l s he => (y b hb).1 l s he)
      · rw [hk.Gold b j (x.lt b hb).2]; exact (y b hb).2 j
    · intro l s cs b hm hb j c hj
      have hlt : l < m'.length := mget_lt hm
      rcases hp.mt l s cs b (by rw [mget_cons, if_neg (by simp only [beq_iff_eq]; omega)]; exact hm) hb j c hj with h2 | ⟨cs0, h2, h3, h4⟩
      · exact .inl h2
      · rw [mget_cons, if_neg (by simp only [beq_iff_eq]; rw [h.lv]; omega)] at h2
        rcases h.mt l s cs0 b h2 (hblk l s b hb) j c h3 with h5 | ⟨cs1, h5, h6, h7⟩
        · exact .inl h5
        · exact .inr ⟨cs1, h5, h6, h4.trans h7⟩
  exact h1.put hd hp.val (Tg_of hp.un)

/-! ### one operation -/
def InvE (d nt : Nat) (m0 : Mem) (g0 : Gh) (w0 : World) (st : St) (a : Act) (w : World) : Prop := ∃ g om szm, Inv d nt m0 g0 w0 g om szm st a w

def chkDst (nt : Nat) (o : Oper) (c : COp) : Bool :=
  decide (o.dst = c.dst) && (match c.dst with | some t => decide (t < nt) | none => true) && (match c.op with | .store _ => c.dst.isNone | _ => true)

/-- The fence of a call, or of a round. -/
def Fw (ro : Option Nat) : Fence := { fn := fun _ => True, depth := none, alive := false, round := ro }

theorem call_upon {ro : Option Nat} {o : Oper} {f : FuncId} {fn : Func} {ra : Array Value} {next : Act → World → Prop} {Q : Exit → Act → World → Prop} {R : Value → World → Prop}
    (hr : (execOp a.eval o).run P w = .ok (.enter f ra) w) (hc : CallsIn Fence.wide 0 P f ra w fun e w' => ∃ rv, e = .returned rv ∧ R rv w') (hn : ∀ rv w', R rv w' → next (a.put o.dst rv) w') :
    o.uponIn (Fw ro) 0 P a next Q ((execOp a.eval o).run P w) := by
  rw [hr, Oper.uponIn_enter]
  refine ⟨fun h => by simp [Fw] at h, ?_⟩
  have hc' : CallsIn (Fw ro) 0 P f ra w fun e w' => ∃ rv, e = .returned rv ∧ R rv w' := hc
  refine hc'.mono ?_
  rintro e w' ⟨rv, rfl, h⟩
  exact hn rv w' h

theorem op_ok {ro : Option Nat} {K : Callee} (hK : Snd P K) (h : Inv d nt m0 g0 w0 g om szm st a w) {o : Oper} {c : COp} (hk : chkC P o.op c.op c.args = true) (hdst : chkDst nt o c = true) {vs : List PV} (hv : evs st.f c.args = some vs) {st' : St}
    (he : opEv K c.dst c.op vs st = some st') {next : Act → World → Prop} {Q : Exit → Act → World → Prop} (hn : ∀ a' w', InvE d nt m0 g0 w0 st' a' w' → next a' w') :
    o.uponIn (Fw ro) 0 P a next Q ((execOp a.eval o).run P w) := by
  simp only [chkDst, Bool.and_eq_true, decide_eq_true_eq] at hdst
  obtain ⟨⟨hd1, hd2⟩, hd3⟩ := hdst
  have hd : ∀ t, c.dst = some t → t < nt := fun t ht => by rw [ht] at hd2; simpa using hd2
  have pure_case : ∀ v, c.op.ev st.own st.m vs = some v → st' = st.put c.dst v → o.uponIn (Fw ro) 0 P a next Q ((execOp a.eval o).run P w) := by
    intro v hv' hst
    obtain ⟨r, h1, h2, h3⟩ := pure_ok h hk hv hv'
    rw [h1, Oper.uponIn_value, hd1]
    exact hn _ _ ⟨g, om, szm, hst ▸ h.put hd h2 h3⟩
  obtain ⟨cdst, cg, cop, cargs⟩ := c
  simp only at hk hv he hd1 hd2 hd3 hd pure_case
  obtain ⟨dst, op, ty, pos, aft, gd⟩ := o
  simp only at hd1 hk
  subst hd1
  cases cop
  case store sz =>
    simp only [opEv] at he
    simp only [chkC] at hk
    split at hk
    · rename_i t x y
      simp only [Bool.and_eq_true, beq_iff_eq] at hk
      obtain ⟨u, v', rfl, h1, h2⟩ := opds2 h hk.2 hv
      simp only [on2] at he
      obtain ⟨w', h3, h4⟩ := store_ok h hk.1 h1.1 h2.1 h2.2 he
      have hdn : dst = none := by simpa using hd3
      subst hdn
      have hr : (execOp a.eval ⟨none, .store t x y, ty, pos, aft, gd⟩).run P w = .ok .skip w' := by simp only [execOp, Sem.run_bind, h3, Result.andThen_ok, Sem.run_pure]
      rw [hr, Oper.uponIn_skip]
      exact hn _ _ ⟨g, om, szm, h4⟩
    · cases hk
  case alloc z =>
    simp only [opEv, newVar] at he
    simp only [chkC] at hk
    split at hk
    · rename_i t
      simp only [Bool.and_eq_true] at hk
      split at he
      · rename_i dd
        split at he
        · rename_i hnone
          split at he
          · rename_i hcell
            cases he
            obtain ⟨zv, hz1, hz2, hz3, hz4⟩ := zeroOk_spec hk.1
            obtain ⟨g', h4⟩ := h.newVar (E := t) (hd dd rfl) hnone hz2 (fun j c hj => ⟨(hz3 c (getElem?_mem' hj)).1, hz4 g j c hj, TgC_of (hz3 c (getElem?_mem' hj)).2⟩)
            have hr : (execOp a.eval ⟨some dd, .alloc t, ty, pos, aft, gd⟩).run P w = .ok (.value (.pointer (some ⟨w.heap.size, 0, none⟩))) (w.alloc (.cells zv.cells t (0, 0))) := by
              simp only [execOp, Instr.alloc, Sem.run_bind, run_zero hz1, Result.andThen_ok, newVar, newRow, run_newObj, Sem.run_pure, Go.newVar]
              rfl
            rw [hr, Oper.uponIn_value]
            exact hn _ _ ⟨g', om, szm, h4⟩
          · cases he
        · cases he
      · cases he
    · cases hk
  case mks sz bytes z =>
    simp only [opEv] at he
    simp only [chkC] at hk
    split at hk
    · rename_i t x y
      simp only [Bool.and_eq_true] at hk
      obtain ⟨hf, hk⟩ := hk
      split at hf
      · rename_i e hse
        simp only [Bool.and_eq_true, beq_iff_eq] at hf
        obtain ⟨⟨hel, hzo⟩, hzl⟩ := hf
        obtain ⟨u, v', rfl, h1, h2⟩ := opds2 h hk hv
        simp only [on2] at he
        cases u <;> cases v' <;> simp only [makeEv] at he <;> try (cases he; done)
        rename_i k n k' c
        split at he
        · rename_i hc
          simp only [Bool.and_eq_true, beq_iff_eq, decide_eq_true_eq] at hc
          obtain ⟨⟨rfl, hn0⟩, hby⟩ := hc
          split at he
          · rename_i dd
            split at he
            · rename_i hnone
              cases he
              simp only [elemOk] at hel
              split at hel
              · rename_i i hi
                simp only [Bool.and_eq_true, beq_iff_eq, decide_eq_true_eq] at hel
                obtain ⟨⟨⟨⟨_, hsz⟩, hb⟩, hsz0⟩, _⟩ := hel
                obtain ⟨zv, hz1, hz2, hz3, hz4⟩ := zeroOk_spec hzo
                have hzi : i.zero = some zv := by simpa [hi] using hz1
                have hx : a.eval x = .int k n := by have := h1.1; generalize a.eval x = q at this; cases this; rfl
                have hy : a.eval y = .int k' n := by have := h2.1; generalize a.eval y = q at this; cases this; rfl
                have hzp : 0 < z.length := by omega
                have hrep := fun j (hj : j < n.toNat * z.length) => rep_get hzp (n := n.toNat) (j := j) hj
                have hzsz : zv.cells.size = i.size := by rw [← hz2, hzl, hsz]
                have hcell : ∀ j c, (rep z n.toNat)[j]? = some c → z[j % z.length]? = some c ∧ j < n.toNat * z.length := by
                  intro j c hj
                  have hlt : j < n.toNat * z.length := by rw [← rep_len]; exact (List.getElem?_eq_some_iff.1 hj).1
                  exact ⟨by rw [← hrep j hlt]; exact hj, hlt⟩
                have hmade : ∀ j, j < n.toNat * z.length → (madeCells zv.cells (n.toNat * i.size)).getD j undef = zv.cells.getD (j % z.length) undef := by
                  intro j hj
                  have h3 : j < n.toNat * i.size := by rw [hsz, ← hzl]; exact hj
                  have h4 : j % zv.cells.size < zv.cells.size := Nat.mod_lt _ (by omega)
                  have h5 : z.length = zv.cells.size := hz2
                  rw [h5]
                  simp [madeCells, h3, h4]
                obtain ⟨g', h4⟩ := h.newRow (dst := dd) (E := e) (hd dd rfl) hnone (cs := rep z n.toNat) (C := madeCells zv.cells (n.toNat * i.size)) (by rw [rep_len, size_madeCells, hzl, hsz]) (fun j c hj => by
                  obtain ⟨h3, h5⟩ := hcell j c hj
                  rw [hmade j h5]
                  exact ⟨(hz3 c (getElem?_mem' h3)).1, hz4 g _ c h3, TgC_of (hz3 c (getElem?_mem' h3)).2⟩) n.toNat sz
                have hr : (execOp a.eval ⟨some dd, .makeSlice t x y, ty, pos, aft, gd⟩).run P w = .ok (.value (.slice (some ⟨w.heap.size, 0, none⟩) n.toNat n.toNat)) (w.alloc (.cells (madeCells zv.cells (n.toNat * i.size)) e)) := by
                  have hmx : (n.toNat * i.bytes : Int) ≤ 140737488355328 := by rw [hb]; have h7 : ((n.toNat * bytes : Nat) : Int) ≤ ((maxBytes : Nat) : Int) := Int.ofNat_le.2 hby; rw [Int.natCast_mul] at h7; unfold maxBytes at h7; exact h7
                  have hn1 : (n.toNat : Int) = n := Int.toNat_of_nonneg hn0
                  simp only [execOp, Sem.run_bind, hx, hy]
                  rw [run_make w t e i zv (isSlice_eq hse) hi hzi k k' n n hn0 (Int.le_refl _) (by rw [← hn1, Int.mul_comm]; omega) (by
                    have : (1 : Int) ≤ i.bytes := by omega
                    have h6 : n * 1 ≤ n * i.bytes := Int.mul_le_mul_of_nonneg_left this hn0
                    rw [hn1] at hmx
                    omega)]
                  rfl
                rw [hr, Oper.uponIn_value]
                exact hn _ _ ⟨g', om, szm, h4⟩
              · cases hel
            · cases he
          · cases he
        · cases he
      · cases hf
    · cases hk
  case frz fs ks ts =>
    simp only [opEv] at he
    simp only [chkC] at hk
    split at hk
    · obtain ⟨u, rfl, h1, h2⟩ := opds1 h hk hv
      simp only [on1] at he
      obtain ⟨g', om', h3⟩ := frz_ok h hd h1 h2 he
      simp only [execOp, Sem.run_pure, Oper.uponIn_value]
      exact hn _ _ ⟨g', om', szm, h3⟩
    · obtain ⟨u, rfl, h1, h2⟩ := opds1 h hk hv
      simp only [on1] at he
      obtain ⟨g', om', h3⟩ := frz_ok h hd h1 h2 he
      simp only [execOp, Sem.run_pure, Oper.uponIn_value]
      exact hn _ _ ⟨g', om', szm, h3⟩
    · cases hk
  case clr sz z =>
    simp only [opEv] at he
    simp only [chkC] at hk
    split at hk
    · rename_i as ts
      simp only [Bool.and_eq_true] at hk
      obtain ⟨hk1, hk3⟩ := hk
      split at hk1
      · rename_i t hts
        split at hk1
        · rename_i e hse
          simp only [Bool.and_eq_true, beq_iff_eq, decide_eq_true_eq] at hk1
          obtain ⟨⟨⟨hs, hzo⟩, hzl⟩, hs0⟩ := hk1
          split at hk3
          · rename_i x has
            obtain ⟨u, rfl, h1, _⟩ := opds1 h hk3 hv
            simp only [on1] at he
            have has' : as = #[x] := by apply Array.ext'; simpa using has
            have hts' : ts = #[t] := by apply Array.ext'; simpa using hts
            subst has'; subst hts'
            obtain ⟨zv, hz1, hz2, hz3, hz4⟩ := zeroOk_spec hzo
            obtain ⟨w', h3, h4⟩ := clr_ok (P := P) (ty := ty) h (isSlice_eq hse) hz1 hz2 hz3 hz4 hs0 hd h1 he
            have hr : (execOp a.eval ⟨dst, .call { callee := .builtin .clear, args := #[x], argTypes := #[t] }, ty, pos, aft, gd⟩).run P w = .ok (.value (.tuple #[])) w' := by
              simp [execOp, resolve, invoke, builtin, h3]
            rw [hr, Oper.uponIn_value]
            exact hn _ _ ⟨g, om, szm, h4⟩
          · cases hk3
        · cases hk1
      · cases hk1
    · cases hk
  case box =>
    simp only [opEv] at he
    simp only [chkC] at hk
    split at hk
    · rename_i t x
      obtain ⟨v', rfl, h1, h2⟩ := opds1 h hk hv
      simp only [on1, newVar] at he
      split at he
      · rename_i dd
        split at he
        · rename_i hnone
          split at he
          · rename_i hcell
            cases he
            have hval : v'.isVal = true := by
              cases v' <;> first | exact hcell | (simpa [PV.cells, PV.isVal] using hcell)
            obtain ⟨h3, h4⟩ := cells_V h1 hval
            have h5 := cells_Tg h1 hval h2
            obtain ⟨g', h6⟩ := h.newVar (E := t) (hd dd rfl) hnone h3 (fun j c hj => ⟨isVal_cells hval c (getElem?_mem' hj), h4 j c hj, h5 j c hj⟩)
            have hr : (execOp a.eval ⟨some dd, .box t x, ty, pos, aft, gd⟩).run P w = .ok (.value (.pointer (some ⟨w.heap.size, 0, none⟩))) (w.alloc (.cells (a.eval x).cells t (0, 0))) := by
              simp only [execOp, Instr.box, Sem.run_bind, Result.andThen_ok, newRow, run_newObj, Sem.run_pure, Go.newVar]
              rfl
            rw [hr, Oper.uponIn_value]
            exact hn _ _ ⟨g', om, szm, h6⟩
          · cases he
        · cases he
      · cases he
    · cases hk
  case nil tag sz e =>
    simp only [opEv] at he
    simp only [chkC] at hk
    obtain ⟨om', szm', h1⟩ := h.newNil hd he
    split at hk
    · rw [show (execOp a.eval ⟨dst, _, ty, pos, aft, gd⟩).run P w = .ok (.value (.slice none 0 0)) w from rfl, Oper.uponIn_value]
      exact hn _ _ ⟨g, om', szm', h1⟩
    · rw [show (execOp a.eval ⟨dst, _, ty, pos, aft, gd⟩).run P w = .ok (.value (.slice none 0 0)) w from rfl, Oper.uponIn_value]
      exact hn _ _ ⟨g, om', szm', h1⟩
    · cases hk
  case bsl tag sz e =>
    simp only [opEv] at he
    simp only [chkC] at hk
    split at hk
    · rename_i t n parts
      simp only [Bool.and_eq_true, beq_iff_eq, decide_eq_true_eq] at hk
      obtain ⟨⟨⟨⟨⟨⟨⟨hk1, hk2⟩, hk0⟩, hk3⟩, hk4⟩, hk5⟩, hk6⟩, hk7⟩ := hk
      obtain ⟨zv, hzv⟩ := Option.isSome_iff_exists.1 hk3
      obtain ⟨hl, hV⟩ := opds_V h hk7 hv
      split at he
      · rename_i hsz
        have hl' : vs.length = ((parts.toList.map (·.2)).map a.eval).length := by simpa using hl.symm
        have hV' : ∀ (i : Nat) (v : PV) (r : Value), vs[i]? = some v → ((parts.toList.map (·.2)).map a.eval)[i]? = some r → V g v r := by
          intro i v r hv' hr
          rw [List.getElem?_map] at hr
          obtain ⟨x, hx, rfl⟩ := Option.map_eq_some_iff.1 hr
          exact (hV i v x hv' hx).1
        have hrsz : ∀ r ∈ (parts.toList.map (·.2)).map a.eval, r.cells.size = sz := by
          intro r hr
          obtain ⟨i, hi⟩ := List.getElem?_of_mem hr
          have hilt := (List.getElem?_eq_some_iff.1 hi).1
          have hvi : vs[i]? = some (vs[i]'(by omega)) := List.getElem?_eq_getElem (by omega)
          have hx := List.all_eq_true.1 hsz _ (getElem?_mem' hvi)
          simp only [Bool.and_eq_true, beq_iff_eq] at hx
          have := (cells_V (hV' i _ r hvi hi) hx.1).1
          omega
        have hn1 : n = ((parts.toList.map (·.2)).map a.eval).length := by simp [hk4]
        have hparts : parts.map (fun x => (x.1, a.eval x.2)) = ((((parts.toList.map (·.2)).map a.eval).zipIdx 0).map fun x => (x.2, x.1)).toArray := by
          apply Array.ext'
          simp only [Array.toList_map]
          apply List.ext_getElem?
          intro i
          simp only [List.getElem?_map, List.getElem?_zipIdx, Nat.zero_add]
          have h6 := congrArg (fun l => l[i]?) hk6
          simp only [List.getElem?_map] at h6
          cases hp : parts.toList[i]? with
          | none => simp
          | some p =>
            rw [hp] at h6
            simp only [Option.map_some] at h6
            have h7 := (List.getElem?_eq_some_iff.1 h6.symm).2
            simp at h7
            simp [← h7]
        obtain ⟨g', om', szm', h1⟩ := h.lit (E := e) hd hl' hsz hV' (by
          have : ((parts.toList.map (·.2)).map a.eval).length * sz ≤ 2 ^ 24 := by rw [← hn1]; exact hk5
          have h1 : ((parts.toList.map (·.2)).map a.eval).length ≤ 2 ^ 24 := Nat.le_trans (Nat.le_mul_of_pos_right _ hk0) this
          exact Nat.le_trans h1 (Nat.le_trans (by decide) maxLen_ge)) he
        have hr := run_buildSlice (isSlice_eq hk1) hk2 hzv _ hrsz (by rw [← hn1]; exact hk5) w
        have hr2 : (execOp a.eval ⟨dst, .buildSlice t n parts, ty, pos, aft, gd⟩).run P w = .ok (.value (.slice (some ⟨w.heap.size, 0, none⟩) ((parts.toList.map (·.2)).map a.eval).length ((parts.toList.map (·.2)).map a.eval).length))
            (w.alloc (.cells (((parts.toList.map (·.2)).map a.eval).flatMap (·.cells.toList)).toArray e (0, 0))) := by
          simp only [execOp, Sem.run_bind]
          rw [hparts, hn1, hr]
          rfl
        rw [hr2, Oper.uponIn_value]
        exact hn _ _ ⟨g', om', szm', h1⟩
      · cases he
    · cases hk
  case app tag sz bytes e =>
    simp only [opEv] at he
    simp only [chkC] at hk
    split at hk
    · rename_i as ts
      simp only [Bool.and_eq_true] at hk
      obtain ⟨⟨hk1, hk2⟩, hk3⟩ := hk
      split at hk1
      · rename_i t t' hts
        simp only [Bool.and_eq_true, beq_iff_eq] at hk1
        obtain ⟨rfl, hse⟩ := hk1
        split at hk3
        · rename_i x y has
          obtain ⟨u, v', rfl, h1, h2⟩ := opds2 h hk3 hv
          simp only [on2] at he
          have has' : as = #[x, y] := by apply Array.ext'; simpa using has
          have hts' : ts = #[t, t] := by apply Array.ext'; simpa using hts
          subst has'; subst hts'
          simp only [elemOk] at hk2
          split at hk2
          · rename_i i hi
            simp only [Bool.and_eq_true, beq_iff_eq, decide_eq_true_eq] at hk2
            obtain ⟨⟨⟨⟨hz, hs⟩, hb⟩, hs0⟩, hb0⟩ := hk2
            split at hz
            · rename_i z hz'
              have hzs := beq_iff_eq.1 hz
              split at he
              · rename_i y' hy'
                obtain ⟨r, w', g', om', szm', h3, h4⟩ := app_ok (ty := ty) h (isSlice_eq hse) hi hz' hb hb0 (by rw [hzs, hs]) hs hs0 hd h1.1 h1.2 (deref_src h h2.1 hy') he
                have hr : (execOp a.eval ⟨dst, .call { callee := .builtin .append, args := #[x, y], argTypes := #[t, t] }, ty, pos, aft, gd⟩).run P w = .ok (.value r) w' := by
                  simp [execOp, resolve, invoke, builtin, h3]
                rw [hr, Oper.uponIn_value]
                exact hn _ _ ⟨g', om', szm', h4⟩
              · cases he
            · cases hz
          · cases hk2
        · cases hk3
      · cases hk1
    · cases hk
  case call f =>
    simp only [opEv, callEv] at he
    simp only [chkC] at hk
    split at hk
    · rename_i f' as ts
      simp only [Bool.and_eq_true, beq_iff_eq] at hk
      obtain ⟨rfl, hk⟩ := hk
      obtain ⟨hl, hV⟩ := opds_V h hk hv
      split at he
      · rename_i v own' m' hKe
        cases he
        obtain ⟨f0, caps, fn, hrf, hfn, hbody, hname, hc⟩ := hK _ _ _ _ _ hKe g w (.func (.func f) #[] #[]) (as.map a.eval) h.rel (.fn f [] #[] rfl (fun j c hj => by simp at hj)) (by simpa using hl.symm)
          (fun j c hj => by
            rw [List.getElem?_map] at hj
            obtain ⟨u, hu, rfl⟩ := Option.map_eq_some_iff.1 hj
            have hlt : j < as.size := by have := (List.getElem?_eq_some_iff.1 hu).1; simp at hl; omega
            have := (hV j u as[j] hu (by simp [hlt])).1.untag
            simpa [hlt] using this)
          (fun c hc => by obtain ⟨u, _, rfl⟩ := List.mem_map.1 hc; exact untag_untag u)
        injection hrf with hrf1 _ hrf3
        injection hrf1 with hrf1
        subst hrf1; subst hrf3
        refine call_upon (fn := fn) (f := f) (ra := as.map a.eval ++ #[]) ?_ (R := fun rv w' => ∃ g', CallPost (st.own :: st.m) g w (own' :: m') v g' w' rv) (hc.mono ?_) ?_
        · simp [execOp, resolve, invoke, callFunc, Deferred.ofValue, Act.eval, hfn, hname, Option.isNone_iff_eq_none, Option.isSome_iff_ne_none.1 hbody]
        · rintro e w' ⟨rv, g', rfl, hp⟩; exact ⟨rv, rfl, g', hp⟩
        · rintro rv w' ⟨g', hp⟩; exact hn _ _ ⟨g', om, szm, h.called hp hd⟩
      · cases he
    · cases hk
  case callv =>
    simp only [opEv] at he
    simp only [chkC] at hk
    split at hk
    · rename_i x as ts
      split at he
      · rename_i fv vs'
        simp only [callEv] at he
        split at he
        · rename_i v own' m' hKe
          cases he
          obtain ⟨hl, hV⟩ := opds_V h hk hv
          have hl2 : as.toList.length = vs'.length := by simpa using hl
          have hx := hV 0 fv x rfl rfl
          obtain ⟨f0, caps, fn, hrf, hfn, hbody, hname, hc⟩ := hK _ _ _ _ _ hKe g w (a.eval x) (as.map a.eval) h.rel hx.1 (by simpa using hl2.symm)
            (fun j c hj => by
              rw [List.getElem?_map] at hj
              obtain ⟨u, hu, rfl⟩ := Option.map_eq_some_iff.1 hj
              have hlt : j < as.size := by have := (List.getElem?_eq_some_iff.1 hu).1; simp at hl2; omega
              have := (hV (j + 1) u as[j] (by simpa using hu) (by simp [hlt])).1.untag
              simpa [hlt] using this)
            (fun c hc => by obtain ⟨u, _, rfl⟩ := List.mem_map.1 hc; exact untag_untag u)
          refine call_upon (fn := fn) (f := f0) (ra := as.map a.eval ++ caps) ?_ (R := fun rv w' => ∃ g', CallPost (st.own :: st.m) g w (own' :: m') v g' w' rv) (hc.mono ?_) ?_
          · simp [execOp, resolve, invoke, callFunc, Deferred.ofValue, hrf, hfn, hname, Option.isNone_iff_eq_none, Option.isSome_iff_ne_none.1 hbody]
          · rintro e w' ⟨rv, g', rfl, hp⟩; exact ⟨rv, rfl, g', hp⟩
          · rintro rv w' ⟨g', hp⟩; exact hn _ _ ⟨g', om, szm, h.called hp hd⟩
        · cases he
      · cases he
    · cases hk
  all_goals
    simp only [opEv] at he
    split at he
    · rename_i v hv'
      exact pure_case v hv' (Option.some.inj he).symm
    · cases he
end
end Go.Proofs.Ytbbpkkeaddbcnaa.ZIM
