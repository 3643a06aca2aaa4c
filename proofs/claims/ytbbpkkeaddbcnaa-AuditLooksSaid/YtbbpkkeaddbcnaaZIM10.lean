/- Operations without an effect, each against the model's own. -/
import Derived.Test.YtbbpkkeaddbcnaaZIM9
set_option linter.unusedSimpArgs false
set_option linter.unusedVariables false
namespace Go.Proofs.Ytbbpkkeaddbcnaa.ZIM
open Go.RowKit

section
variable {P : Program} {d nt : Nat} {m0 : Mem} {g0 : Gh} {w0 : World} {g : Gh} {om : Nat → Value} {szm : Nat → Nat} {st : St} {a : Act} {w : World}

theorem isStruct_eq {x : Option TypeDesc} {fs : Array Field} (h : isStruct x = some fs) : x = some (.struct fs) := by
  unfold isStruct at h; split at h <;> cases h; rfl
theorem isSlice_eq {x : Option TypeDesc} {e : TypeId} (h : isSlice x = some e) : x = some (.slice e) := by
  unfold isSlice at h; split at h <;> cases h; rfl
theorem isArr_eq {x : Option TypeDesc} {n : Nat} {e : TypeId} (h : isArr x = some (n, e)) : x = some (.array n e) := by
  unfold isArr at h; split at h <;> cases h; rfl
theorem isInt_eq {x : Option TypeDesc} {k : IntKind} (h : isInt x = some k) : x = some (.int k) := by
  unfold isInt at h; split at h <;> cases h; rfl
theorem isStr_eq {x : Option TypeDesc} (h : isStr x = true) : x = some .string := by
  unfold isStr at h; split at h <;> first | rfl | cases h
theorem isBool_eq {x : Option TypeDesc} (h : isBool x = true) : x = some .bool := by
  unfold isBool at h; split at h <;> first | rfl | cases h

theorem cells_untagged {x : PV} (h : x.untag = x) : ∀ c ∈ x.cells, c.untag1 = c := by
  cases x with
  | agg cs =>
    simp only [PV.untag, PV.agg.injEq] at h
    intro c hc
    simp only [PV.cells] at hc
    obtain ⟨j, hj⟩ := List.getElem?_of_mem hc
    have := congrArg (fun l => l[j]?) h
    simp only [List.getElem?_map, hj, Option.map_some, Option.some.injEq] at this
    exact this
  | _ => intro c hc; simp only [PV.cells, List.mem_singleton] at hc; subst hc; exact h
theorem part_untagged {ag : Bool} {sz off : Nat} {cs : List PV} {v : PV} (h : ∀ c ∈ cs, c.untag1 = c) (hc : ∀ c ∈ cs, c.isCell = true) (hv : partP ag sz off cs = some v) : v.untag = v := by
  cases ag with
  | true =>
    simp only [partP] at hv
    split at hv
    · cases hv
      simp only [PV.untag, PV.agg.injEq]
      refine (List.map_congr_left fun c hc => h c (List.mem_of_mem_drop (List.mem_of_mem_take hc))).trans (by simp)
    · cases hv
  | false =>
    simp only [partP] at hv
    have hm := getElem?_mem' hv
    have h1 := h v hm
    have h2 := hc v hm
    cases v <;> first | exact h1 | (simp [PV.isCell] at h2)

theorem part_Tg {tops : List (Nat × Nat × Nat)} {ag : Bool} {sz off : Nat} {cs : List PV} {rv : Nat → Value} {v : PV} {r : Value} (hT : ∀ j c, cs[j]? = some c → TgC tops om szm c (rv j)) (hc : ∀ c ∈ cs, c.isCell = true)
    (hv : partP ag sz off cs = some v) (h1 : ∀ vs, r = .agg vs → ∀ j, j < sz → vs.getD j undef = rv (off + j)) (h2 : ag = false → r = rv off) : Tg tops om szm v r := by
  cases ag with
  | true =>
    simp only [partP] at hv
    split at hv
    · cases hv
      intro vs hvs j c hj
      have hj' : j < sz := by have := (List.getElem?_eq_some_iff.1 hj).1; simp only [List.length_take] at this; omega
      rw [List.getElem?_take_of_lt hj', List.getElem?_drop] at hj
      rw [h1 vs hvs j hj']
      exact hT _ c hj
    · cases hv
  | false =>
    simp only [partP] at hv
    have h3 := hT off v hv
    have h4 := hc v (getElem?_mem' hv)
    rw [h2 rfl]
    cases v <;> first | exact h3 | (simp [PV.isCell] at h4)

theorem load_pur (h : Inv d nt m0 g0 w0 g om szm st a w) {x : PV} {rx : Value} (hx : V g x rx) {t : TypeId} {ag : Bool} {sz : Nat}
    (ht : tyAg P t = some ag) (hs : tySz P t = some sz) {v : PV} (hv : loadP st.own st.m ag sz x = some v) :
    ∃ r, (Instr.loadAt t rx).run P w = .ok r w ∧ V g v r ∧ Tg st.tops om szm v r := by
  cases x with
  | ptr l s o =>
    cases hx with
    | ptr _ _ _ b hb =>
    simp only [loadP] at hv
    split at hv
    · rename_i hl
      split at hv
      · rename_i cs hc
        obtain ⟨C, E, hh, hC, _⟩ := h.rel.cellsM hb (cs := cs) (by rw [mget_cons, if_pos hl]; exact hc)
        obtain ⟨r, h1, h2, h3, h4⟩ := load_cells hC ht hs hv
        have hld : l = d := by rw [← h.lv]; exact beq_iff_eq.1 hl
        subst hld
        exact ⟨r, by simpa [Instr.loadAt, Instr.sureAddr] using h1, h2, part_Tg (fun j c hj => h.tb s cs b C E hc hb hh j c hj) hC.isC hv h3 h4⟩
      · cases hv
    · rename_i hl
      split at hv
      · rename_i cs hc
        obtain ⟨C, E, _, hC, _⟩ := h.rel.cellsM hb (cs := cs) (by rw [mget_cons, if_neg hl]; exact hc)
        have hC' : Cells g w b 0 (cs.map PV.untag1) (fun j => C.getD j undef) := by
          refine ⟨fun j hj => hC.at_ j (by simpa using hj), fun c hc' => ?_, fun j c hj => ?_⟩
          · obtain ⟨d, hd, rfl⟩ := List.mem_map.1 hc'
            rw [isCell_untag1]; exact hC.isC d hd
          · rw [List.getElem?_map] at hj
            obtain ⟨d, hd, rfl⟩ := Option.map_eq_some_iff.1 hj
            exact (hC.v j d hd).untag1
        obtain ⟨r, h1, h2, _⟩ := load_cells hC' ht hs hv
        exact ⟨r, by simpa [Instr.loadAt, Instr.sureAddr] using h1, h2, Tg_of (part_untagged (fun c hc => by obtain ⟨d, _, rfl⟩ := List.mem_map.1 hc; exact untag1_untag1 d) hC'.isC hv)⟩
      · cases hv
  | elp y o =>
    cases hx with
    | elp _ _ b base rv hx hu hG hV =>
    simp only [loadP] at hv
    have hC := h.rel.cellsG hx hG hV
    obtain ⟨r, h1, h2, _⟩ := load_cells hC ht hs hv
    exact ⟨r, by simpa [Instr.loadAt, Instr.sureAddr] using h1, h2, Tg_of (part_untagged (cells_untagged hu) hC.isC hv)⟩
  | _ => simp [loadP] at hv

theorem part_agg2 {cs : List PV} {vs : Array Value} (h : V g (.agg cs) (.agg vs)) (hT : Tg st.tops om szm (.agg cs) (.agg vs)) {t : TypeId} {ag : Bool} {sz off : Nat}
    (ht : tyAg P t = some ag) (hs : tySz P t = some sz) {v : PV} (hv : partP ag sz off cs = some v) (w : World) :
    ∃ r, (part t vs off).run P w = .ok r w ∧ V g v r ∧ Tg st.tops om szm v r := by
  have hcell : ∀ c ∈ cs, c.isCell = true := by cases h with | agg _ _ hn hc hV => exact hc
  have hn : cs.length = vs.size := by cases h with | agg _ _ hn hc hV => exact hn
  obtain ⟨r, h1, h2⟩ := part_agg h ht hs hv w
  refine ⟨r, h1, h2, part_Tg (rv := fun j => vs.getD j undef) (fun j c hj => hT vs rfl j c hj) hcell hv ?_ ?_⟩
  · intro vs' hr j hj
    cases ag with
    | true =>
      simp only [partP] at hv
      split at hv
      · rename_i hle
        simp only [part, Sem.run_bind, run_isAgg ht, Result.andThen_ok, if_true, run_sizeOf hs, Sem.run_pure] at h1
        injection h1 with h1
        rw [hr] at h1
        injection h1 with h1
        rw [← h1]
        simp only [Array.getD_eq_getD_getElem?]
        rw [Array.getElem?_extract_of_lt (by omega)]
        rw [Array.getElem?_eq_getElem (by omega)]
      · cases hv
    | false =>
      simp only [partP] at hv
      have hc := hcell v (getElem?_mem' hv)
      have := h2.vcell hc
      rw [hr] at this; cases this
  · intro hag
    subst hag
    simp only [partP] at hv
    have hlt : off < vs.size := by have := (List.getElem?_eq_some_iff.1 hv).1; omega
    simp only [part, Sem.run_bind, run_isAgg ht, Result.andThen_ok, Bool.false_eq_true, if_false] at h1
    have hg : vs[off]? = some vs[off] := Array.getElem?_eq_getElem hlt
    rw [hg] at h1
    simp only [Sem.run_pure] at h1
    injection h1 with h1
    simp [← h1, hlt]

theorem fillP_untagged : ∀ {ps : List (Nat × Nat)} {vs : List PV} {cs cs' : List PV}, fillP cs ps vs = some cs' → (∀ c ∈ cs, c.untag1 = c) → (∀ v ∈ vs, v.untag = v) → ∀ c ∈ cs', c.untag1 = c
  | [], [], cs, cs', h, h1, _ => by simp only [fillP, Option.some.injEq] at h; subst h; exact h1
  | p :: ps, v :: vs, cs, cs', h, h1, h2 => by
    simp only [fillP] at h
    split at h
    · refine fillP_untagged h (fun c hc => ?_) fun v hv => h2 v (by simp [hv])
      unfold splice at hc
      rcases List.mem_append.1 hc with hc | hc
      · rcases List.mem_append.1 hc with hc | hc
        · exact h1 c (List.mem_of_mem_take hc)
        · exact cells_untagged (h2 v (by simp)) c hc
      · exact h1 c (List.mem_of_mem_drop hc)
    · cases h
  | [], _ :: _, _, _, h, _, _ => by simp [fillP] at h
  | _ :: _, [], _, _, h, _, _ => by simp [fillP] at h

theorem constsOk_spec : ∀ {vs : List Value} {ps : List PV}, constsOk vs ps = true → ps.length = vs.length ∧ (∀ c ∈ ps, c.isCell = true ∧ c.untag1 = c) ∧ ∀ (g : Gh) j c, ps[j]? = some c → V g c (vs.getD j undef)
  | [], [], _ => ⟨rfl, fun c hc => (by cases hc), fun g j c hj => (by simp at hj)⟩
  | v :: vs, p :: ps, h => by
    simp only [constsOk, Bool.and_eq_true] at h
    obtain ⟨h1, h2, h3⟩ := constsOk_spec h.2
    have h4 := fun g => constOk_V (g := g) h.1.1
    refine ⟨by simp [h1], fun c hc => ?_, fun g j c hj => ?_⟩
    · rcases List.mem_cons.1 hc with rfl | hc
      · refine ⟨h.1.2, ?_⟩
        have h5 := (h4 ⟨fun _ _ => none, fun _ _ => none⟩).2
        have h6 := h.1.2
        cases c <;> first | exact h5 | (simp [PV.isCell] at h6)
      · exact h2 c hc
    · cases j with
      | zero => simp only [List.getElem?_cons_zero, Option.some.injEq] at hj; subst hj; exact (h4 g).1
      | succ j => exact h3 g j c (by simpa using hj)
  | [], _ :: _, h => by simp [constsOk] at h
  | _ :: _, [], h => by simp [constsOk] at h
theorem zeroOk_spec {t : TypeId} {z : List PV} (h : zeroOk P t z = true) : ∃ v, ((P.info? t).bind (·.zero)) = some v ∧ z.length = v.cells.size ∧ (∀ c ∈ z, c.isCell = true ∧ c.untag1 = c) ∧ ∀ (g : Gh) j c, z[j]? = some c → V g c (v.cells.getD j undef) := by
  unfold zeroOk at h
  split at h
  · rename_i v hv
    obtain ⟨h1, h2, h3⟩ := constsOk_spec h
    refine ⟨v, hv, by simpa using h1, h2, fun g j c hj => ?_⟩
    have := h3 g j c hj
    simpa [List.getD_eq_getElem?_getD, Array.getD_eq_getD_getElem?] using this
  · cases h
theorem run_zero {t : TypeId} {v : Value} (h : ((P.info? t).bind (·.zero)) = some v) (w : World) : (zeroValue t).run P w = .ok v w := by
  obtain ⟨i, hi, hz⟩ := Option.bind_eq_some_iff.1 h
  simp [zeroValue, typeInfo, hi, hz]

theorem mapM_places {fs : Array Field} (hall : ∀ f ∈ fs.toList, ∃ n, tySz P f.type = some n) (w : World) :
    (fs.mapM fun f => do pure (f.offset, ← sizeOf f.type) : Sem (Array (Nat × Nat))).run P w = .ok (fs.map fun f => (f.offset, (tySz P f.type).getD 0)) w := by
  rw [Array.mapM_eq_mapM_toList]
  have key : ∀ l : List Field, (∀ f ∈ l, ∃ n, tySz P f.type = some n) → (l.mapM fun f => do pure (f.offset, ← sizeOf f.type) : Sem (List (Nat × Nat))).run P w = .ok (l.map fun f => (f.offset, (tySz P f.type).getD 0)) w := by
    intro l
    induction l with
    | nil => intro _; rfl
    | cons f l ih =>
      intro hl
      obtain ⟨n, hn⟩ := hl f (by simp)
      have := ih (fun f hf => hl f (by simp [hf]))
      simp only [List.mapM_cons, Sem.run_bind, run_sizeOf hn, Result.andThen_ok, Sem.run_pure, this, List.map_cons, hn, Option.getD_some]
  rw [Sem.run_map, key fs.toList hall]
  simp only [Result.andThen_ok]
  congr 1
  apply Array.ext'
  simp

theorem build_pur (h : Inv d nt m0 g0 w0 g om szm st a w) {t : TypeId} {z : List PV} {ps : List (Nat × Nat)} {parts : Array (Nat × Operand)} {ys : List Opd} {vs : List PV} (hz : zeroOk P t z = true)
    (hp : placesOk P t (parts.toList.map (·.1)) ps = true) (hk : opdsOk (parts.toList.map (·.2)) ys = true) (hv : evs st.f ys = some vs) {cs : List PV} (hf : fillP z ps (vs.map PV.untag) = some cs) :
    ∃ r, (Instr.build t (parts.map fun x => (x.1, a.eval x.2))).run P w = .ok r w ∧ V g (.agg cs) r ∧ Tg st.tops om szm (.agg cs) r := by
  obtain ⟨zv, hz1, hz2, hz3, hz4⟩ := zeroOk_spec hz
  obtain ⟨hl, hV⟩ := opds_V h hk hv
  simp only [placesOk, Bool.and_eq_true, decide_eq_true_eq] at hp
  obtain ⟨hp1, hp2⟩ := hp
  have hunt := fillP_untagged hf (fun c hc => (hz3 c hc).2) (fun v hv => by obtain ⟨u, _, rfl⟩ := List.mem_map.1 hv; exact untag_untag u)
  have hVz : V g (.agg z) (.agg zv.cells) := .agg z zv.cells hz2 (fun c hc => (hz3 c hc).1) (fun j c hj => hz4 g j c hj)
  have fin : ∀ place : Nat → Option (Nat × Nat), (∀ i, place i = places P t i) → ∃ C', Instr.fill place zv.cells (parts.map fun x => (x.1, a.eval x.2)).toList = some C' ∧ V g (.agg cs) (.agg C') := by
    intro place hpl
    refine fill_ok hf hVz ?_ (by simpa using hl) ?_
    · rw [← hp2]
      simp only [Array.toList_map, List.map_map]
      exact List.map_congr_left fun x _ => by simp [hpl]
    · intro j v r hvj hrj
      rw [List.getElem?_map] at hvj
      obtain ⟨u, hu, rfl⟩ := Option.map_eq_some_iff.1 hvj
      simp only [Array.toList_map] at hrj
      rw [List.getElem?_map] at hrj
      obtain ⟨x, hx, rfl⟩ := Option.map_eq_some_iff.1 hrj
      exact (hV j u x.2 hu (by rw [List.getElem?_map, hx]; rfl)).1.untag
  have tg : ∀ C', Tg st.tops om szm (.agg cs) (.agg C') := fun C' vs' _ j c hj => TgC_of (hunt c (getElem?_mem' hj))
  cases hst : isStruct (P.underlying t) with
  | some fs =>
    have hu := isStruct_eq hst
    rw [hst] at hp1
    have hall : ∀ f ∈ fs.toList, ∃ n, tySz P f.type = some n := by
      intro f hf
      have := Array.all_eq_true'.1 hp1 f (by simpa using hf)
      exact Option.isSome_iff_exists.1 this
    obtain ⟨C', h1, h2⟩ := fin (fun i => ((fs.map fun f => (f.offset, (tySz P f.type).getD 0))[i]? : Option (Nat × Nat))) (fun i => by
      simp only [places, hst, Array.getElem?_map]
      cases hfi : fs[i]? with
      | none => rfl
      | some f =>
        obtain ⟨n, hn⟩ := hall f (by rw [← Array.mem_def]; exact Array.mem_of_getElem? hfi)
        simp [hn])
    refine ⟨.agg C', ?_, h2, tg C'⟩
    simp only [Instr.build, Sem.run_bind, run_zero hz1, Result.andThen_ok, run_und hu, mapM_places hall, h1, Sem.run_pure]
  | none =>
    rw [hst] at hp1
    simp only at hp1
    split at hp1
    · rename_i n e har
      have hu := isArr_eq har
      obtain ⟨sz, hsz⟩ := Option.isSome_iff_exists.1 hp1
      obtain ⟨C', h1, h2⟩ := fin (fun i => some (i * sz, sz)) (fun i => by simp only [places, hst, har, hsz])
      refine ⟨.agg C', ?_, h2, tg C'⟩
      simp only [Instr.build, Sem.run_bind, run_zero hz1, Result.andThen_ok, run_und hu, run_sizeOf hsz, h1, Sem.run_pure]
    · cases hp1
end
end Go.Proofs.Ytbbpkkeaddbcnaa.ZIM
