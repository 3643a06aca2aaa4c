/- Operations without an effect, each against the model's own. -/
import Derived.Test.YtmffcpiffkclgaaZJ3E
set_option linter.unusedSimpArgs false
set_option linter.unusedVariables false
namespace Go.Proofs.Ytmffcpiffkclgaa.ZJM
open Go.RowKit
section
variable {P : Program} {d nt : Nat} {m0 : Mem} {g0 : Gh} {w0 : World} {g : Gh} {om : Nat → Value} {szm : Nat → Nat} {st : St} {a : Act} {w : World}
theorem isStruct_eq {x : Option TypeDesc} {fs : Array Field} (h : isStruct x = some fs) : x = some (.struct fs) := by
 unfold isStruct at h; split at h <;> cases h; rfl
theorem isSlice_eq {x : Option TypeDesc} {e : TypeId} (h : isSlice x = some e) : x = some (.slice e) := by
 unfold isSlice at h; split at h <;> cases h; rfl
theorem isArr_eq {x : Option TypeDesc} {n : Nat} {e : TypeId} (h : isArr x = some (n,e)) : x = some (.array n e) := by
 unfold isArr at h; split at h <;> cases h; rfl
theorem isInt_eq {x : Option TypeDesc} {k : IntKind} (h : isInt x = some k) : x = some (.int k) := by
 unfold isInt at h; split at h <;> cases h; rfl
theorem isStr_eq {x : Option TypeDesc} (h : isStr x = true) : x = some .string := by
 unfold isStr at h; split at h <;> first | rfl | cases h
theorem isBool_eq {x : Option TypeDesc} (h : isBool x = true) : x = some .bool := by
 unfold isBool at h; split at h <;> first | rfl | cases h
theorem part_no {ag : Bool} {sz off : Nat} {cs : List PV} {v : PV} (h : ∀ c ∈ cs,c.untag1 = c) (hc : ∀ c ∈ cs,c.isCell = true) (hv : partP ag sz off cs = some v) : noTag v := by
 cases ag with
 | true =>
  simp only [partP] at hv
  split at hv
  ·cases hv
   exact fun c hc => h c (List.mem_of_mem_drop (List.mem_of_mem_take hc))
  ·cases hv
 | false =>
  simp only [partP] at hv
  have hm := getElem?_mem' hv
  have h1 := h v hm
  have h2 := hc v hm
  cases v <;> first | exact h1 | (simp [PV.isCell] at h2)
theorem part_Tg {tops : List (Nat × Nat × Nat)} {ag : Bool} {sz off : Nat} {cs : List PV} {rv : Nat → Value} {v : PV} {r : Value} (hT : ∀ j c,cs[j]? = some c → TgC tops om szm c (rv j)) (hc : ∀ c ∈ cs,c.isCell = true)
  (hv : partP ag sz off cs = some v) (h1 : ∀ vs,r = .agg vs → ∀ j,j < sz → vs.getD j undef = rv (off + j)) (h2 : ag = false → r = rv off) : Tg tops om szm v r := by
 cases ag with
 | true =>
  simp only [partP] at hv
  split at hv
  ·cases hv
   intro vs hvs j c hj
   have hj' : j < sz := by have := (List.getElem?_eq_some_iff.1 hj).1; simp only [List.length_take] at this; omega
   rw [List.getElem?_take_of_lt hj',List.getElem?_drop] at hj
   rw [h1 vs hvs j hj']
   exact hT _ c hj
  ·cases hv
 | false =>
  simp only [partP] at hv
  have h3 := hT off v hv
  have h4 := hc v (getElem?_mem' hv)
  rw [h2 rfl]
  cases v <;> first | exact h3 | (simp [PV.isCell] at h4)
theorem load_pur (h : Inv d nt m0 g0 w0 g om szm st a w) {x : PV} {rx : Value} (hx : V g x rx) {t : TypeId} {ag : Bool} {sz : Nat}
  (ht : tyAg P t = some ag) (hs : tySz P t = some sz) {v : PV} (hv : loadP st.own st.m ag sz x = some v) :
  ∃ r,(Instr.loadAt t rx).run P w = .ok r w ∧ V g v r ∧ noTag v := by
 cases x with
 | ptr l s p o =>
  cases hx with
  | ptr _ _ _ _ b o' tt hb =>
  simp only [loadP] at hv
  split at hv
  ·rename_i cs hc
   obtain ⟨r,h1,h2,h3,h4⟩ := load_row h.rel hb hc ht hs hv
   exact ⟨r,by simpa [Instr.loadAt,Instr.sureAddr] using h1,h2,noTag_untag h4 h3⟩
  ·cases hv
 | elp y o =>
  cases hx with
  | elp _ _ b base rv hx hu hG hV =>
  simp only [loadP] at hv
  have hC := h.rel.cellsG hx hG hV
  obtain ⟨r,h1,h2,_⟩ := load_cells hC ht hs hv
  exact ⟨r,by simpa [Instr.loadAt,Instr.sureAddr] using h1,h2,part_no (cells_untagged hx hu) hC.isC hv⟩
 | _ => simp [loadP] at hv
theorem part_agg2 {cs : List PV} {vs : Array Value} (h : V g (.agg cs) (.agg vs)) (hT : Tg st.tops om szm (.agg cs) (.agg vs)) {t : TypeId} {ag : Bool} {sz off : Nat}
  (ht : tyAg P t = some ag) (hs : tySz P t = some sz) {v : PV} (hv : partP ag sz off cs = some v) (w : World) :
  ∃ r,(part t vs off).run P w = .ok r w ∧ V g v r ∧ Tg st.tops om szm v r := by
 have hcell : ∀ c ∈ cs,c.isCell = true := by cases h with | agg _ _ hn hc hV => exact hc
 have hn : cs.length = vs.size := by cases h with | agg _ _ hn hc hV => exact hn
 obtain ⟨r,h1,h2⟩ := part_agg h ht hs hv w
 refine ⟨r,h1,h2,part_Tg (rv := fun j => vs.getD j undef) (fun j c hj => hT vs rfl j c hj) hcell hv ?_ ?_⟩
 ·intro vs' hr j hj
  cases ag with
  | true =>
   simp only [partP] at hv
   split at hv
   ·rename_i hle
    simp only [part,Sem.run_bind,run_isAgg ht,Result.andThen_ok,if_true,run_sizeOf hs,Sem.run_pure] at h1
    injection h1 with h1
    rw [hr] at h1
    injection h1 with h1
    rw [← h1]
    simp only [Array.getD_eq_getD_getElem?]
    rw [Array.getElem?_extract_of_lt (by omega)]
    rw [Array.getElem?_eq_getElem (by omega)]
   ·cases hv
  | false =>
   simp only [partP] at hv
   have hc := hcell v (getElem?_mem' hv)
   have := h2.vcell hc
   rw [hr] at this; cases this
 ·intro hag
  subst hag
  simp only [partP] at hv
  have hlt : off < vs.size := by have := (List.getElem?_eq_some_iff.1 hv).1; omega
  simp only [part,Sem.run_bind,run_isAgg ht,Result.andThen_ok,Bool.false_eq_true,if_false] at h1
  have hg : vs[off]? = some vs[off] := Array.getElem?_eq_getElem hlt
  rw [hg] at h1
  simp only [Sem.run_pure] at h1
  injection h1 with h1
  simp [← h1,hlt]
theorem fillP_untagged : ∀ {ps : List (Nat × Nat)} {vs : List PV} {cs cs' : List PV},fillP cs ps vs = some cs' → (∀ c ∈ cs,c.untag1 = c) → (∀ v ∈ vs,v.untag = v) → ∀ c ∈ cs',c.untag1 = c
 | [],[],cs,cs',h,h1,_ => by simp only [fillP,Option.some.injEq] at h; subst h; exact h1
 | p :: ps,v :: vs,cs,cs',h,h1,h2 => by
  simp only [fillP] at h
  split at h
  ·rename_i hcond
   simp only [Bool.and_eq_true] at hcond
   refine fillP_untagged h (fun c hc => ?_) fun v hv => h2 v (by simp [hv])
   unfold splice at hc
   rcases List.mem_append.1 hc with hc | hc
   ·rcases List.mem_append.1 hc with hc | hc
    ·exact h1 c (List.mem_of_mem_take hc)
    ·exact cells_untagged hcond.1.1 (h2 v (by simp)) c hc
   ·exact h1 c (List.mem_of_mem_drop hc)
  ·cases h
 | [],_ :: _,_,_,h,_,_ => by simp [fillP] at h
 | _ :: _,[],_,_,h,_,_ => by simp [fillP] at h
theorem constsOk_spec : ∀ {vs : List Value} {ps : List PV},constsOk vs ps = true → ps.length = vs.length ∧ (∀ c ∈ ps,c.isCell = true ∧ c.untag1 = c) ∧ ∀ (g : Gh) j c,ps[j]? = some c → V g c (vs.getD j undef)
 | [],[],_ => ⟨rfl,fun c hc => (by cases hc),fun g j c hj => (by simp at hj)⟩
 | v :: vs,p :: ps,h => by
  simp only [constsOk,Bool.and_eq_true] at h
  obtain ⟨h1,h2,h3⟩ := constsOk_spec h.2
  have h4 := fun g => constOk_V (g := g) h.1.1
  refine ⟨by simp [h1],fun c hc => ?_,fun g j c hj => ?_⟩
  ·rcases List.mem_cons.1 hc with rfl | hc
   ·refine ⟨h.1.2,?_⟩
    have h5 := (h4 ⟨fun _ _ => none,fun _ _ _ => none,fun _ _ => none,fun _ _ _ _ => False⟩).2
    have h6 := h.1.2
    cases c <;> first | exact h5 | (simp [PV.isCell] at h6)
   ·exact h2 c hc
  ·cases j with
   | zero => simp only [List.getElem?_cons_zero,Option.some.injEq] at hj; subst hj; exact (h4 g).1
   | succ j => exact h3 g j c (by simpa using hj)
 | [],_ :: _,h => by simp [constsOk] at h
 | _ :: _,[],h => by simp [constsOk] at h
theorem zeroOk_spec {t : TypeId} {z : List PV} (h : zeroOk P t z = true) : ∃ v,((P.info? t).bind (·.zero)) = some v ∧ z.length = v.cells.size ∧ (∀ c ∈ z,c.isCell = true ∧ c.untag1 = c) ∧ ∀ (g : Gh) j c,z[j]? = some c → V g c (v.cells.getD j undef) := by
 unfold zeroOk at h
 split at h
 ·rename_i v hv
  obtain ⟨h1,h2,h3⟩ := constsOk_spec h
  refine ⟨v,hv,by simpa using h1,h2,fun g j c hj => ?_⟩
  have := h3 g j c hj
  simpa [List.getD_eq_getElem?_getD,Array.getD_eq_getD_getElem?] using this
 ·cases h
theorem mapM_places {fs : Array Field} (hall : ∀ f ∈ fs.toList,∃ n,tySz P f.type = some n) (w : World) :
  (fs.mapM fun f => do pure (f.offset,← sizeOf f.type) : Sem (Array (Nat × Nat))).run P w = .ok (fs.map fun f => (f.offset,(tySz P f.type).getD 0)) w := by
 rw [Array.mapM_eq_mapM_toList]
 have key : ∀ l : List Field,(∀ f ∈ l,∃ n,tySz P f.type = some n) → (l.mapM fun f => do pure (f.offset,← sizeOf f.type) : Sem (List (Nat × Nat))).run P w = .ok (l.map fun f => (f.offset,(tySz P f.type).getD 0)) w := by
  intro l
  induction l with
  | nil => intro _; rfl
  | cons f l ih =>
   intro hl
   obtain ⟨n,hn⟩ := hl f (by simp)
   have := ih (fun f hf => hl f (by simp [hf]))
   simp only [List.mapM_cons,Sem.run_bind,run_sizeOf hn,Result.andThen_ok,Sem.run_pure,this,List.map_cons,hn,Option.getD_some]
 rw [Sem.run_map,key fs.toList hall]
 simp only [Result.andThen_ok]
 congr 1
 apply Array.ext'
 simp
theorem build_pur (h : Inv d nt m0 g0 w0 g om szm st a w) {t : TypeId} {z : List PV} {ps : List (Nat × Nat)} {parts : Array (Nat × Operand)} {ys : List Opd} {vs : List PV} (hz : zeroOk P t z = true)
  (hp : placesOk P t (parts.toList.map (·.1)) ps = true) (hk : opdsOk (parts.toList.map (·.2)) ys = true) (hv : evs st.f ys = some vs) {cs : List PV} (hf : fillP z ps (vs.map PV.untag) = some cs) :
  ∃ r,(Instr.build t (parts.map fun x => (x.1,a.eval x.2))).run P w = .ok r w ∧ V g (.agg cs) r ∧ Tg st.tops om szm (.agg cs) r := by
 obtain ⟨zv,hz1,hz2,hz3,hz4⟩ := zeroOk_spec hz
 obtain ⟨hl,hV⟩ := opds_V h hk hv
 simp only [placesOk,Bool.and_eq_true,decide_eq_true_eq] at hp
 obtain ⟨hp1,hp2⟩ := hp
 have hunt := fillP_untagged hf (fun c hc => (hz3 c hc).2) (fun v hv => by obtain ⟨u,_,rfl⟩ := List.mem_map.1 hv; exact untag_untag u)
 have hVz : V g (.agg z) (.agg zv.cells) := .agg z zv.cells hz2 (fun c hc => (hz3 c hc).1) (fun j c hj => hz4 g j c hj)
 have fin : ∀ place : Nat → Option (Nat × Nat),(∀ i,place i = places P t i) → ∃ C',Instr.fill place zv.cells (parts.map fun x => (x.1,a.eval x.2)).toList = some C' ∧ V g (.agg cs) (.agg C') := by
  intro place hpl
  refine fill_ok hf hVz ?_ (by simpa using hl) ?_
  ·rw [← hp2]
   simp only [Array.toList_map,List.map_map]
   exact List.map_congr_left fun x _ => by simp [hpl]
  ·intro j v r hvj hrj
   rw [List.getElem?_map] at hvj
   obtain ⟨u,hu,rfl⟩ := Option.map_eq_some_iff.1 hvj
   simp only [Array.toList_map] at hrj
   rw [List.getElem?_map] at hrj
   obtain ⟨x,hx,rfl⟩ := Option.map_eq_some_iff.1 hrj
   exact (hV j u x.2 hu (by rw [List.getElem?_map,hx]; rfl)).1.untag
 have tg : ∀ C',Tg st.tops om szm (.agg cs) (.agg C') := fun C' vs' _ j c hj => TgC_of (hunt c (getElem?_mem' hj))
 cases hst : isStruct (P.underlying t) with
 | some fs =>
  have hu := isStruct_eq hst
  rw [hst] at hp1
  have hall : ∀ f ∈ fs.toList,∃ n,tySz P f.type = some n := by
   intro f hf
   have := Array.all_eq_true'.1 hp1 f (by simpa using hf)
   exact Option.isSome_iff_exists.1 this
  obtain ⟨C',h1,h2⟩ := fin (fun i => ((fs.map fun f => (f.offset,(tySz P f.type).getD 0))[i]? : Option (Nat × Nat))) (fun i => by
   simp only [places,hst,Array.getElem?_map]
   cases hfi : fs[i]? with
   | none => rfl
   | some f =>
    obtain ⟨n,hn⟩ := hall f (by rw [← Array.mem_def]; exact Array.mem_of_getElem? hfi)
    simp [hn])
  refine ⟨.agg C',?_,h2,tg C'⟩
  simp only [Instr.build,Sem.run_bind,run_zero hz1,Result.andThen_ok,run_und hu,mapM_places hall,h1,Sem.run_pure]
 | none =>
  rw [hst] at hp1
  simp only at hp1
  split at hp1
  ·rename_i n e har
   have hu := isArr_eq har
   obtain ⟨sz,hsz⟩ := Option.isSome_iff_exists.1 hp1
   obtain ⟨C',h1,h2⟩ := fin (fun i => some (i * sz,sz)) (fun i => by simp only [places,hst,har,hsz])
   refine ⟨.agg C',?_,h2,tg C'⟩
   simp only [Instr.build,Sem.run_bind,run_zero hz1,Result.andThen_ok,run_und hu,run_sizeOf hsz,h1,Sem.run_pure]
  ·cases hp1
end
end Go.Proofs.Ytmffcpiffkclgaa.ZJM
set_option linter.unusedSimpArgs false
set_option linter.unusedVariables false
namespace Go.Proofs.Ytmffcpiffkclgaa.ZJM
open Go.RowKit
section
variable {P : Program} {d nt : Nat} {m0 : Mem} {g0 : Gh} {w0 : World} {g : Gh} {om : Nat → Value} {szm : Nat → Nat} {st : St} {a : Act} {w : World}
theorem slice_parts (h : Inv d nt m0 g0 w0 g om szm st a w) {x : Operand} {l hh : Option Operand} {args : List Opd} {vs : List PV} {lo hi : Bool} (hlo : l.isSome = lo) (hhi : hh.isSome = hi)
  (hk : opdsOk (x :: (l.toList ++ hh.toList)) args = true) (hv : evs st.f args = some vs) {k : PV → Option PV → Option PV → Option PV} {v : PV} (he : lohi lo hi vs k = some v) :
  ∃ xv lv hv,V g xv (a.eval x) ∧ OV g lv (l.map a.eval) ∧ OV g hv (hh.map a.eval) ∧ k xv lv hv = some v := by
 cases l with
 | none =>
  cases hh with
  | none =>
   simp only [Option.isSome_none] at hlo hhi; subst hlo; subst hhi
   obtain ⟨xv,rfl,h1,_⟩ := opds1 h (by simpa using hk) hv
   exact ⟨xv,none,none,h1,trivial,trivial,by simpa [lohi,on1] using he⟩
  | some h2 =>
   simp only [Option.isSome_none,Option.isSome_some] at hlo hhi; subst hlo; subst hhi
   obtain ⟨xv,hv',rfl,h1,h3⟩ := opds2 h (by simpa using hk) hv
   exact ⟨xv,none,some hv',h1.1,trivial,h3.1,by simpa [lohi,on2] using he⟩
 | some l =>
  cases hh with
  | none =>
   simp only [Option.isSome_none,Option.isSome_some] at hlo hhi; subst hlo; subst hhi
   obtain ⟨xv,lv',rfl,h1,h3⟩ := opds2 h (by simpa using hk) hv
   exact ⟨xv,some lv',none,h1.1,h3.1,trivial,by simpa [lohi,on2] using he⟩
  | some h2 =>
   simp only [Option.isSome_some] at hlo hhi; subst hlo; subst hhi
   obtain ⟨xv,lv',hv',rfl,h1,h3,h4⟩ := opds3 h (by simpa using hk) hv
   exact ⟨xv,some lv',some hv',h1.1,h3.1,h4.1,by simpa [lohi,on3] using he⟩
theorem isPtr_eq {x : Option TypeDesc} (h : isPtr x = true) : ∃ e,x = some (.pointer e) := by
 unfold isPtr at h; split at h <;> first | exact ⟨_,rfl⟩ | cases h
theorem isFunc_eq {x : Option TypeDesc} (h : isFunc x = true) : ∃ a b c,x = some (.func a b c) := by
 unfold isFunc at h; split at h <;> first | exact ⟨_,_,_,rfl⟩ | cases h
theorem nilCmp_ok (h : Inv d nt m0 g0 w0 g om szm st a w) {isN : Operand → Bool} {x y : Operand} {args : List Opd} {vs : List PV} (hk : nilCmp isN opdsOk x y args = true) (hv : evs st.f args = some vs) :
  ∃ u,vs = [u] ∧ ((isN y = true ∧ V g u (a.eval x)) ∨ (isN x = true ∧ V g u (a.eval y))) ∧ True := by
 simp only [nilCmp,Bool.or_eq_true,Bool.and_eq_true] at hk
 rcases hk with ⟨h1,h2⟩ | ⟨h1,h2⟩
 ·obtain ⟨u,rfl,h3,_⟩ := opds1 h h2 hv; exact ⟨u,rfl,.inl ⟨h1,h3⟩,trivial⟩
 ·obtain ⟨u,rfl,h3,_⟩ := opds1 h h2 hv; exact ⟨u,rfl,.inr ⟨h1,h3⟩,trivial⟩
theorem rE_sn {t e : TypeId} (ht : P.underlying t = some (.slice e)) (d : Nat) (p : Option Addr) (n c : Nat) (w : World) : (Op.equalIn (d + 1) t (.slice p n c) (.slice none 0 0)).run P w = .ok p.isNone w := by
 cases p <;> simp [Op.equalIn,run_und ht]
theorem rE_ns {t e : TypeId} (ht : P.underlying t = some (.slice e)) (d : Nat) (p : Option Addr) (n c : Nat) (w : World) : (Op.equalIn (d + 1) t (.slice none 0 0) (.slice p n c)).run P w = .ok p.isNone w := by
 cases p <;> simp [Op.equalIn,run_und ht]
theorem rE_pn {t e : TypeId} (ht : P.underlying t = some (.pointer e)) (d : Nat) (p : Option Addr) (w : World) : (Op.equalIn (d + 1) t (.pointer p) (.pointer none)).run P w = .ok p.isNone w := by
 cases p <;> simp [Op.equalIn,run_und ht]
theorem rE_np {t e : TypeId} (ht : P.underlying t = some (.pointer e)) (d : Nat) (p : Option Addr) (w : World) : (Op.equalIn (d + 1) t (.pointer none) (.pointer p)).run P w = .ok p.isNone w := by
 cases p <;> simp [Op.equalIn,run_und ht]
theorem rE_ff {t : TypeId} {x y z} (ht : P.underlying t = some (.func x y z)) (d : Nat) (w : World) : (Op.equalIn (d + 1) t .nilFunc .nilFunc).run P w = .ok true w := by
 simp [Op.equalIn,run_und ht]
theorem rE_fn {t : TypeId} {x y z} (ht : P.underlying t = some (.func x y z)) (d : Nat) (f u v) (w : World) : (Op.equalIn (d + 1) t (.func f u v) .nilFunc).run P w = .ok false w := by
 simp [Op.equalIn,run_und ht]
theorem rE_nf {t : TypeId} {x y z} (ht : P.underlying t = some (.func x y z)) (d : Nat) (f u v) (w : World) : (Op.equalIn (d + 1) t .nilFunc (.func f u v)).run P w = .ok false w := by
 simp [Op.equalIn,run_und ht]
theorem equal_at (t : TypeId) (x y : Value) : Op.equal t x y = Op.equalIn (9999 + 1) t x y := rfl
theorem lnil_ok {t e : TypeId} (ht : P.underlying t = some (.slice e)) {x y : Operand} {u v : PV} (hxy : (isNilS y = true ∧ V g u (a.eval x)) ∨ (isNilS x = true ∧ V g u (a.eval y))) (_ : True) {neg : Bool} (he : lnilP neg u = some v) (w : World) :
  ∃ r,(do eqGuard (if neg = true then .neq else .eql) t x y (a.eval x) (a.eval y); binOp (if neg = true then .neq else .eql) t (a.eval x) (a.eval y) : Sem Value).run P w = .ok r w ∧ V g v r := by
 cases u <;> simp only [lnilP] at he <;> try (cases he; done)
 all_goals
  cases he
  rcases hxy with ⟨h1,h2⟩ | ⟨h1,h2⟩
  ·unfold isNilS at h1
   split at h1
   ·generalize a.eval x = rx at h2
    cases h2 <;> cases neg <;> (refine ⟨_,?_,.bool _⟩; simp [eqGuard,binOp,equal_at,rE_sn ht,rE_ns ht,Act.eval])
   ·cases h1
  ·unfold isNilS at h1
   split at h1
   ·generalize a.eval y = rx at h2
    cases h2 <;> cases neg <;> (refine ⟨_,?_,.bool _⟩; simp [eqGuard,binOp,equal_at,rE_sn ht,rE_ns ht,Act.eval])
   ·cases h1
theorem pnil_ok {t : TypeId} (ht : ∃ e,P.underlying t = some (.pointer e)) {x y : Operand} {u v : PV} (hxy : (isNilP y = true ∧ V g u (a.eval x)) ∨ (isNilP x = true ∧ V g u (a.eval y))) (_ : True) {neg : Bool} (he : pnilP neg u = some v) (w : World) :
  ∃ r,(do eqGuard (if neg = true then .neq else .eql) t x y (a.eval x) (a.eval y); binOp (if neg = true then .neq else .eql) t (a.eval x) (a.eval y) : Sem Value).run P w = .ok r w ∧ V g v r := by
 obtain ⟨e,ht⟩ := ht
 cases u <;> simp only [pnilP] at he <;> try (cases he; done)
 all_goals
  cases he
  rcases hxy with ⟨h1,h2⟩ | ⟨h1,h2⟩
  ·unfold isNilP at h1
   split at h1
   ·generalize a.eval x = rx at h2
    cases h2 <;> cases neg <;> (refine ⟨_,?_,.bool _⟩; simp [eqGuard,binOp,equal_at,rE_pn ht,rE_np ht,Act.eval])
   ·cases h1
  ·unfold isNilP at h1
   split at h1
   ·generalize a.eval y = rx at h2
    cases h2 <;> cases neg <;> (refine ⟨_,?_,.bool _⟩; simp [eqGuard,binOp,equal_at,rE_pn ht,rE_np ht,Act.eval])
   ·cases h1
theorem fnil_ok {t : TypeId} (ht : ∃ x y z,P.underlying t = some (.func x y z)) {x y : Operand} {u v : PV} (hxy : (isNilF y = true ∧ V g u (a.eval x)) ∨ (isNilF x = true ∧ V g u (a.eval y))) (_ : True) {neg : Bool} (he : fnilP neg u = some v) (w : World) :
  ∃ r,(do eqGuard (if neg = true then .neq else .eql) t x y (a.eval x) (a.eval y); binOp (if neg = true then .neq else .eql) t (a.eval x) (a.eval y) : Sem Value).run P w = .ok r w ∧ V g v r := by
 obtain ⟨_,_,_,ht⟩ := ht
 cases u <;> simp only [fnilP] at he <;> try (cases he; done)
 all_goals
  cases he
  rcases hxy with ⟨h1,h2⟩ | ⟨h1,h2⟩
  ·unfold isNilF at h1
   split at h1
   ·generalize a.eval x = rx at h2
    cases h2 <;> cases neg <;> (refine ⟨_,?_,.bool _⟩; simp [eqGuard,binOp,equal_at,rE_ff ht,rE_fn ht,rE_nf ht,Act.eval])
   ·cases h1
  ·unfold isNilF at h1
   split at h1
   ·generalize a.eval y = rx at h2
    cases h2 <;> cases neg <;> (refine ⟨_,?_,.bool _⟩; simp [eqGuard,binOp,equal_at,rE_ff ht,rE_fn ht,rE_nf ht,Act.eval])
   ·cases h1
theorem eqS_ok {t : TypeId} (ht : tyAg P t = some true) {offs : List (Nat × Nat)} (hl : eqLv P 40 t = some offs) (hg : P.eqGuardType P.depth t = false) {neg : Bool} {ox oy : Operand} {x y v : PV} {rx ry : Value} (hx : V g x rx) (hy : V g y ry) (hv : eqP offs neg x y = some v) (w : World) :
  ∃ r,(do eqGuard (if neg = true then .neq else .eql) t ox oy rx ry; binOp (if neg = true then .neq else .eql) t rx ry : Sem Value).run P w = .ok r w ∧ V g v r := by
 cases x <;> cases y <;> simp only [eqP] at hv <;> try (cases hv; done)
 rename_i xs ys
 split at hv
 ·rename_i b hb
  cases hv
  have key := eq_ok (P := P) (g := g) 40 t offs (.agg xs) (.agg ys) rx ry b hl (.inl ⟨ht,_,rfl⟩) (.inl ⟨ht,_,rfl⟩) hx hy hb 10000 (by omega) w
  obtain ⟨vs,rfl⟩ : ∃ vs,rx = .agg vs := by cases hx; exact ⟨_,rfl⟩
  obtain ⟨us,rfl⟩ : ∃ vs,ry = .agg vs := by cases hy; exact ⟨_,rfl⟩
  cases neg
  ·exact ⟨.bool b,by simp [run_eqGuard_agg w .eql t ox oy vs us hg,run_eql_struct,key],.bool b⟩
  ·exact ⟨.bool (!b),by simp [run_eqGuard_agg w .neq t ox oy vs us hg,run_neq_struct,key],.bool (!b)⟩
 ·cases hv
theorem ext_ok {i : Nat} {x v : PV} {rx : Value} (hx : V g x rx) (ht : Tg st.tops om szm x rx) (hv : extP i x = some v) (w : World) : ∃ r,(Instr.extract rx i).run P w = .ok r w ∧ V g v r ∧ Tg st.tops om szm v r := by
 cases hx <;> simp only [extP] at hv <;> try (cases hv; done)
 rename_i cs vs hn hV
 have key : ∀ u,cs[i]? = some u → ∃ r,(Instr.extract (.tuple vs) i).run P w = .ok r w ∧ V g u r ∧ TgC st.tops om szm u r := by
  intro u hu
  have hlt : i < vs.size := by have := (List.getElem?_eq_some_iff.1 hu).1; omega
  refine ⟨vs[i],by simp [Instr.extract,hlt],?_,?_⟩
  ·have := hV i u hu; simpa [hlt] using this
  ·have := ht vs rfl i u hu; simpa [hlt] using this
 split at hv
 ·rename_i o nl sz xs hu
  cases hv
  obtain ⟨r,h1,h2,h3⟩ := key _ hu
  exact ⟨r,h1,h2,h3⟩
 ·cases hv
 ·rename_i u h1 h2 hu
  cases hv
  obtain ⟨r,h3,h4,_⟩ := key _ hu
  exact ⟨r,h3,h4.untag,Tg.untag fun cs he => h2 cs (he ▸ rfl)⟩
 ·cases hv
theorem pure_ok (h : Inv d nt m0 g0 w0 g om szm st a w) {o : Oper} {c : OpC} {args : List Opd} {vs : List PV} {v : PV} (hk : chkC P o.op c args = true) (hv : evs st.f args = some vs)
  (he : c.ev st.own st.m vs = some v) : Pur P g st om szm a w o v := by
 obtain ⟨dst,op,ty,pos,aft,gd⟩ := o
 cases c <;> simp only [chkC] at hk <;> simp only [OpC.ev] at he <;> try (cases he; done)
 case mv =>
  split at hk
  ·obtain ⟨u,rfl,h1,h2⟩ := opds1 h hk hv
   simp only [on1,Option.some.injEq] at he; subst he
   exact ⟨_,rfl,h1,h2⟩
  ·obtain ⟨u,rfl,h1,h2⟩ := opds1 h hk hv
   simp only [on1,Option.some.injEq] at he; subst he
   exact ⟨_,rfl,h1,h2⟩
  ·cases hk
 case pick =>
  split at hk
  ·rename_i x y z
   obtain ⟨u,v1,v2,rfl,h1,h2,h3⟩ := opds3 h hk hv
   simp only [on3] at he
   cases u <;> simp only [pickP] at he <;> try (cases he; done)
   rename_i b
   have hb : a.eval x = .bool b := by have := h1.1; generalize a.eval x = q at this; cases this; rfl
   cases b
   ·simp only [Option.some.injEq] at he; subst he
    exact ⟨a.eval z,by simp [execOp,hb,asBool],h3.1,h3.2⟩
   ·simp only [Option.some.injEq] at he; subst he
    exact ⟨a.eval y,by simp [execOp,hb,asBool],h2.1,h2.2⟩
  ·cases hk
 case bin b =>
  split at hk
  ·simp only [Bool.and_eq_true,beq_iff_eq] at hk
   obtain ⟨rfl,hk⟩ := hk
   obtain ⟨u,v',rfl,h1,h2⟩ := opds2 h hk hv
   simp only [on2] at he
   exact pur_of rfl (bin_ok h1.1 h2.1 he w) (bin_untag he)
  ·cases hk
 case beq neg =>
  split at hk
  ·simp only [Bool.and_eq_true,beq_iff_eq] at hk
   obtain ⟨⟨rfl,hb⟩,hk⟩ := hk
   obtain ⟨u,v',rfl,h1,h2⟩ := opds2 h hk hv
   simp only [on2] at he
   refine pur_of rfl (beq_ok (isBool_eq hb) h1.1 h2.1 he w) ?_
   cases u <;> cases v' <;> simp only [beqP,Option.some.injEq] at he <;> first | (subst he; rfl) | cases he
  ·cases hk
 case eq offs neg =>
  split at hk
  ·simp only [Bool.and_eq_true,beq_iff_eq,Bool.not_eq_true'] at hk
   obtain ⟨⟨⟨⟨rfl,ht⟩,hl⟩,hg⟩,hk⟩ := hk
   obtain ⟨u,v',rfl,h1,h2⟩ := opds2 h hk hv
   simp only [on2] at he
   refine pur_of rfl (eqS_ok ht hl hg h1.1 h2.1 he w) ?_
   cases u <;> cases v' <;> simp only [eqP] at he <;> (try (cases he; done)) <;> (split at he <;> cases he <;> rfl)
  ·cases hk
 case lnil neg =>
  split at hk
  ·simp only [Bool.and_eq_true,beq_iff_eq] at hk
   obtain ⟨⟨rfl,ht⟩,hk⟩ := hk
   obtain ⟨e,ht⟩ := Option.isSome_iff_exists.1 ht
   obtain ⟨u,rfl,h1,h2⟩ := nilCmp_ok h hk hv
   simp only [on1] at he
   refine pur_of rfl (lnil_ok (isSlice_eq ht) h1 h2 he w) ?_
   cases u <;> simp only [lnilP] at he <;> (try (cases he; done)) <;> (cases he <;> rfl)
  ·cases hk
 case pnil neg =>
  split at hk
  ·simp only [Bool.and_eq_true,beq_iff_eq] at hk
   obtain ⟨⟨rfl,ht⟩,hk⟩ := hk
   obtain ⟨u,rfl,h1,h2⟩ := nilCmp_ok h hk hv
   simp only [on1] at he
   refine pur_of rfl (pnil_ok (isPtr_eq ht) h1 h2 he w) ?_
   cases u <;> simp only [pnilP] at he <;> (try (cases he; done)) <;> (cases he <;> rfl)
  ·cases hk
 case fnil neg =>
  split at hk
  ·simp only [Bool.and_eq_true,beq_iff_eq] at hk
   obtain ⟨⟨rfl,ht⟩,hk⟩ := hk
   obtain ⟨u,rfl,h1,h2⟩ := nilCmp_ok h hk hv
   simp only [on1] at he
   refine pur_of rfl (fnil_ok (isFunc_eq ht) h1 h2 he w) ?_
   cases u <;> simp only [fnilP] at he <;> (try (cases he; done)) <;> (cases he <;> rfl)
  ·cases hk
 case un u =>
  split at hk
  ·simp only [Bool.and_eq_true,beq_iff_eq] at hk
   obtain ⟨rfl,hk⟩ := hk
   obtain ⟨v',rfl,h1,_⟩ := opds1 h hk hv
   simp only [on1] at he
   refine pur_of rfl (un_ok h1 he w) ?_
   cases v' <;> simp only [unP] at he <;> (try (cases he; done)) <;> (split at he <;> cases he <;> rfl)
  ·cases hk
 case i2i k =>
  split at hk
  ·simp only [Bool.and_eq_true,beq_iff_eq] at hk
   obtain ⟨⟨hs,hd⟩,hk⟩ := hk
   obtain ⟨k0,hs⟩ := Option.isSome_iff_exists.1 hs
   obtain ⟨v',rfl,h1,_⟩ := opds1 h hk hv
   simp only [on1] at he
   refine pur_of rfl (i2i_ok (isInt_eq hs) (isInt_eq hd) h1 he w) ?_
   cases v' <;> simp only [i2iP,Option.some.injEq] at he <;> first | (subst he; rfl) | cases he
  ·cases hk
 case s2s =>
  split at hk
  ·simp only [Bool.and_eq_true] at hk
   obtain ⟨⟨hs,hd⟩,hk⟩ := hk
   obtain ⟨v',rfl,h1,h1t⟩ := opds1 h hk hv
   clear h1t
   simp only [on1] at he
   cases v' <;> simp only [s2sP,Option.some.injEq] at he <;> try (cases he; done)
   rename_i x s
   subst he
   have hx : a.eval x = .string s := by generalize a.eval x = q at h1; cases h1; rfl
   exact ⟨.string s,by simp [execOp,hx,convert,run_und (isStr_eq hs),run_und (isStr_eq hd)],.str s,by simp only [Tg]; trivial⟩
  ·cases hk
 case b2s =>
  split at hk
  ·simp only [Bool.and_eq_true] at hk
   obtain ⟨⟨hs,hd⟩,hk⟩ := hk
   split at hs
   ·rename_i e hse
    obtain ⟨v',rfl,h1,_⟩ := opds1 h hk hv
    simp only [on1] at he
    split at he
    ·rename_i x' hx'
     refine pur_of rfl (b2s_src (isSlice_eq hse) (isInt_eq (beq_iff_eq.1 hs)) (isStr_eq hd) (deref_src h h1 hx') he) ?_
     cases x' <;> simp only [b2sP] at he <;> try (cases he; done)
     split at he <;> cases he; rfl
    ·cases he
   ·cases hs
  ·cases hk
 case fld off sz ag =>
  split at hk
  ·rename_i t x i
   simp only [Bool.and_eq_true,beq_iff_eq] at hk
   obtain ⟨hf,hk⟩ := hk
   obtain ⟨v',rfl,h1,h2⟩ := opds1 h hk hv
   simp only [on1] at he
   simp only [fieldOk] at hf
   split at hf
   ·rename_i fs hfs
    split at hf
    ·rename_i f hfi
     split at hf
     ·rename_i hc
      simp only [Bool.and_eq_true,beq_iff_eq] at hc
      obtain ⟨⟨hoff,hsz⟩,_⟩ := hc
      subst hoff
      cases v' <;> simp only [fldP] at he <;> try (cases he; done)
      rename_i cs
      have hx : ∃ rs,a.eval x = .agg rs := by generalize a.eval x = q at h1; cases h1; exact ⟨_,rfl⟩
      obtain ⟨rs,hx⟩ := hx
      rw [hx] at h1 h2
      obtain ⟨r,h3,h4,h5⟩ := part_agg2 h1 h2 hf hsz he w
      exact ⟨r,by simp [execOp,hx,Instr.field,run_und (isStruct_eq hfs),hfi,asAgg,h3],h4,h5⟩
     ·cases hf
    ·cases hf
   ·cases hf
  ·cases hk
 case fadr off =>
  split at hk
  ·simp only [Bool.and_eq_true] at hk
   obtain ⟨hf,hk⟩ := hk
   obtain ⟨v',rfl,h1,_⟩ := opds1 h hk hv
   simp only [on1] at he
   split at hf
   ·rename_i fs hfs
    split at hf
    ·rename_i f hfi
     simp only [Bool.and_eq_true,beq_iff_eq] at hf
     obtain ⟨hoff,hn⟩ := hf
     subst hoff
     split at hn
     ·rename_i n hsz
      refine pur_of rfl (fadr_ok (isStruct_eq hfs) hfi hsz (by simpa using hn) h1 he w) ?_
      cases v' <;> simp only [addP,Option.some.injEq] at he <;> first | (subst he; rfl) | cases he
     ·cases hn
    ·cases hf
   ·cases hf
  ·cases hk
 case ladr sz =>
  split at hk
  ·simp only [Bool.and_eq_true] at hk
   obtain ⟨hf,hk⟩ := hk
   obtain ⟨u,v',rfl,h1,h2⟩ := opds2 h hk hv
   simp only [on2] at he
   split at hf
   ·rename_i e hse
    refine pur_of rfl (ladr_ok (isSlice_eq hse) (beq_iff_eq.1 hf) h1.1 h2.1 he w) ?_
    cases u <;> cases v' <;> simp only [ladrP] at he <;> try (cases he; done)
    ·split at he
     ·split at he
      ·split at he <;> cases he; rfl
      ·cases he
     ·cases he
    ·split at he
     ·split at he
      ·split at he <;> cases he; rfl
      ·cases he
     ·cases he
   ·cases hf
  ·cases hk
 case aadr sz n =>
  split at hk
  ·simp only [Bool.and_eq_true] at hk
   obtain ⟨hf,hk⟩ := hk
   obtain ⟨u,v',rfl,h1,h2⟩ := opds2 h hk hv
   simp only [on2] at he
   split at hf
   ·rename_i n' e hse
    simp only [Bool.and_eq_true,beq_iff_eq] at hf
    obtain ⟨rfl,hsz⟩ := hf
    refine pur_of rfl (aadr_ok (isArr_eq hse) hsz h1.1 h2.1 he w) ?_
    cases v' <;> simp only [aadrP,asI] at he <;> try (cases he; done)
    split at he
    ·split at he
     ·cases u <;> simp only [addP,Option.some.injEq] at he <;> first | (subst he; rfl) | cases he
     ·cases he
    ·cases he
   ·cases hf
  ·cases hk
 case ixs =>
  split at hk
  ·simp only [Bool.and_eq_true] at hk
   obtain ⟨hf,hk⟩ := hk
   obtain ⟨u,v',rfl,h1,h2⟩ := opds2 h hk hv
   simp only [on2] at he
   refine pur_of rfl (ixs_ok (isStr_eq hf) h1.1 h2.1 he w) ?_
   cases u <;> cases v' <;> simp only [ixsP] at he <;> try (cases he; done)
   split at he
   ·split at he <;> cases he; rfl
   ·cases he
  ·cases hk
 case ixa sz n ag =>
  split at hk
  ·rename_i t x i
   simp only [Bool.and_eq_true] at hk
   obtain ⟨hf,hk⟩ := hk
   obtain ⟨u,v',rfl,h1,h2⟩ := opds2 h hk hv
   simp only [on2] at he
   split at hf
   ·rename_i n' e hse
    simp only [Bool.and_eq_true,beq_iff_eq] at hf
    obtain ⟨⟨rfl,hsz⟩,hag⟩ := hf
    cases u <;> simp only [ixaP] at he <;> try (cases he; done)
    cases v' <;> simp only [ixaP] at he <;> try (cases he; done)
    rename_i cs k ix
    split at he
    ·rename_i h0
     split at he
     ·rename_i hlt
      have hx : ∃ rs,a.eval x = .agg rs := by have := h1.1; generalize a.eval x = q at this; cases this; exact ⟨_,rfl⟩
      have hi : a.eval i = .int k ix := by have := h2.1; generalize a.eval i = q at this; cases this; rfl
      obtain ⟨rs,hx⟩ := hx
      obtain ⟨h1,h1'⟩ := h1
      rw [hx] at h1 h1'
      obtain ⟨r,h3,h4,h5⟩ := part_agg2 h1 h1' hag hsz he w
      exact ⟨r,by simp [execOp,hx,hi,Instr.index,asIntOf,run_und (isArr_eq hse),h0,hlt,run_sizeOf hsz,h3],h4,h5⟩
     ·cases he
    ·cases he
   ·cases hf
  ·cases hk
 case load ag sz =>
  split at hk
  ·simp only [Bool.and_eq_true,beq_iff_eq] at hk
   obtain ⟨⟨ht,hsz⟩,hk⟩ := hk
   obtain ⟨v',rfl,h1,_⟩ := opds1 h hk hv
   simp only [on1] at he
   obtain ⟨r,h3,h4,h5⟩ := load_pur h h1 ht hsz he
   exact ⟨r,by simp [execOp,h3],h4,Tg_no h5⟩
  ·cases hk
 case build z ps =>
  split at hk
  ·simp only [Bool.and_eq_true] at hk
   obtain ⟨⟨hz,hp⟩,hk⟩ := hk
   split at he
   ·rename_i cs hf
    cases he
    obtain ⟨r,h3,h4,h5⟩ := build_pur h hz hp hk hv hf
    exact ⟨r,by simp only [execOp]; simp [h3],h4,h5⟩
   ·cases he
  ·cases hk
 case ext i =>
  split at hk
  ·rename_i x i'
   simp only [Bool.and_eq_true,beq_iff_eq] at hk
   obtain ⟨rfl,hk⟩ := hk
   obtain ⟨v',rfl,h1,h2⟩ := opds1 h hk hv
   simp only [on1] at he
   obtain ⟨r,h3,h4,h5⟩ := ext_ok (P := P) h1 h2 he w
   exact ⟨r,by simp [execOp,h3],h4,h5⟩
  ·cases hk
 case mkf f =>
  split at hk
  ·rename_i f' first cap
   simp only [Bool.and_eq_true,beq_iff_eq] at hk
   obtain ⟨⟨rfl,hfe⟩,hk⟩ := hk
   obtain ⟨hl,hV⟩ := opds_V h hk hv
   simp only [Option.some.injEq] at he; subst he
   have hfe' : first = #[] := by simpa using hfe
   subst hfe'
   refine ⟨.func (.func f) #[] (cap.map a.eval),by simp [execOp,Instr.makeFunc],.fn f _ _ (by simpa using hl.symm) (fun j c hj => ?_),by simp only [Tg]; trivial⟩
   rw [List.getElem?_map] at hj
   obtain ⟨u,hu,rfl⟩ := Option.map_eq_some_iff.1 hj
   have hlt : j < cap.size := by have := (List.getElem?_eq_some_iff.1 hu).1; simp at hl; omega
   have := (hV j u cap[j] hu (by simp [hlt])).1.untag
   simpa [hlt] using this
  ·cases hk
 case mkb f =>
  split at hk
  ·rename_i f' first cap
   simp only [Bool.and_eq_true,beq_iff_eq] at hk
   obtain ⟨⟨rfl,hfe⟩,hk⟩ := hk
   obtain ⟨hl,hV⟩ := opds_V h hk hv
   simp only [Option.some.injEq] at he; subst he
   have hfe' : cap = #[] := by simpa using hfe
   subst hfe'
   refine ⟨.func (.func f) (first.map a.eval) #[],by simp [execOp,Instr.makeFunc],.bfn f _ _ (by simpa using hl.symm) (fun j c hj => ?_),by simp only [Tg]; trivial⟩
   rw [List.getElem?_map] at hj
   obtain ⟨u,hu,rfl⟩ := Option.map_eq_some_iff.1 hj
   have hlt : j < first.size := by have := (List.getElem?_eq_some_iff.1 hu).1; simp at hl; omega
   have := (hV j u first[j] hu (by simp [hlt])).1.untag
   simpa [hlt] using this
  ·cases hk
 case len =>
  split at hk
  ·rename_i as ts
   split at hk
   ·rename_i t x hts has
    simp only [Bool.and_eq_true] at hk
    obtain ⟨ht,hk⟩ := hk
    obtain ⟨v',rfl,h1,h1t⟩ := opds1 h hk hv
    clear h1t
    simp only [on1] at he
    have has' : as = #[x] := by apply Array.ext'; simpa using has
    have hts' : ts = #[t] := by apply Array.ext'; simpa using hts
    subst has'; subst hts'
    obtain ⟨n,rfl,ad,cap,hx⟩ : ∃ n : Nat,v = .int .i64 n ∧ ∃ ad cap,a.eval x = .slice ad n cap := by
     generalize a.eval x = q at h1
     cases v' <;> simp only [lenP,Option.some.injEq] at he <;> (try (cases he; done)) <;> subst he <;> cases h1 <;> exact ⟨_,rfl,_,_,rfl⟩
    obtain ⟨e,ht⟩ := Option.isSome_iff_exists.1 ht
    exact ⟨.int .i64 n,by simp [execOp,resolve,invoke,builtin,hx,Builtin.len_,run_und (isSlice_eq ht),goInt],.int _ _,by simp only [Tg]; trivial⟩
   ·cases hk
  ·cases hk
 case slen =>
  split at hk
  ·rename_i as ts
   split at hk
   ·rename_i t x hts has
    simp only [Bool.and_eq_true] at hk
    obtain ⟨ht,hk⟩ := hk
    obtain ⟨v',rfl,h1,h1t⟩ := opds1 h hk hv
    clear h1t
    simp only [on1] at he
    have has' : as = #[x] := by apply Array.ext'; simpa using has
    have hts' : ts = #[t] := by apply Array.ext'; simpa using hts
    subst has'; subst hts'
    cases v' <;> simp only [slenP,Option.some.injEq] at he <;> (try (cases he; done)) <;> subst he
    rename_i s
    have hx : a.eval x = .string s := by generalize a.eval x = q at h1; cases h1; rfl
    exact ⟨.int .i64 s.size,by simp [execOp,resolve,invoke,builtin,hx,Builtin.len_,run_und (isStr_eq ht),goInt],.int _ _,by simp only [Tg]; trivial⟩
   ·cases hk
  ·cases hk
 case lenc n =>
  split at hk
  ·rename_i as ts
   split at hk
   ·rename_i t x hts has
    simp only [Bool.and_eq_true] at hk
    obtain ⟨ht,hk⟩ := hk
    split at ht
    ·rename_i n' e har
     have := beq_iff_eq.1 ht; subst this
     have has' : as = #[x] := by apply Array.ext'; simpa using has
     have hts' : ts = #[t] := by apply Array.ext'; simpa using hts
     subst has'; subst hts'
     cases he
     exact ⟨.int .i64 n,by simp [execOp,resolve,invoke,builtin,Builtin.len_,run_und (isArr_eq har),goInt],.int _ _,by simp only [Tg]; trivial⟩
    ·cases ht
   ·cases hk
  ·cases hk
 case mn =>
  split at hk
  ·rename_i as ts
   split at hk
   ·rename_i x y has
    obtain ⟨u,v',rfl,h1,h2⟩ := opds2 h hk hv
    simp only [on2] at he
    have has' : as = #[x,y] := by apply Array.ext'; simpa using has
    subst has'
    obtain ⟨r,h3,h4⟩ := mn_ok (P := P) h1.1 h2.1 he w ts ty
    refine ⟨r,by simp [execOp,resolve,invoke,builtin,h3],h4,?_⟩
    cases u <;> cases v' <;> simp only [mnP,Option.some.injEq] at he <;> first | (subst he; simp only [Tg]; trivial) | cases he
   ·cases hk
  ·cases hk
 case mx =>
  split at hk
  ·rename_i as ts
   split at hk
   ·rename_i x y has
    obtain ⟨u,v',rfl,h1,h2⟩ := opds2 h hk hv
    simp only [on2] at he
    have has' : as = #[x,y] := by apply Array.ext'; simpa using has
    subst has'
    obtain ⟨r,h3,h4⟩ := mx_ok (P := P) h1.1 h2.1 he w ts ty
    refine ⟨r,by simp [execOp,resolve,invoke,builtin,h3],h4,?_⟩
    cases u <;> cases v' <;> simp only [mxP,Option.some.injEq] at he <;> first | (subst he; simp only [Tg]; trivial) | cases he
   ·cases hk
  ·cases hk
 case nilc =>
  split at hk
  ·rename_i x
   obtain ⟨v',rfl,h1,_⟩ := opds1 h hk hv
   simp only [on1] at he
   cases v' <;> simp only [nilcP,Option.some.injEq] at he <;> (try (cases he; done)) <;> subst he
   ·have hx : ∃ b o,a.eval x = .pointer (some ⟨b,o,none⟩) := by generalize a.eval x = q at h1; cases h1; exact ⟨_,_,rfl⟩
    obtain ⟨b,o,hx⟩ := hx
    rw [hx] at h1
    exact ⟨_,by simp [execOp,hx],h1,by simp only [Tg]; trivial⟩
   ·have hx : ∃ b o,a.eval x = .pointer (some ⟨b,o,none⟩) := by generalize a.eval x = q at h1; cases h1; exact ⟨_,_,rfl⟩
    obtain ⟨b,o,hx⟩ := hx
    rw [hx] at h1
    exact ⟨_,by simp [execOp,hx],h1,by simp only [Tg]; trivial⟩
  ·cases hk
 case slcl sz lo hi =>
  split at hk
  ·simp only [Bool.and_eq_true,beq_iff_eq] at hk
   obtain ⟨⟨⟨hf,hlo⟩,hhi⟩,hk⟩ := hk
   split at hf
   ·rename_i e hse
    obtain ⟨xv,lv,hv',h1,h2,h3,h4⟩ := slice_parts h hlo hhi hk hv he
    refine pur_of rfl (slcl_ok (isSlice_eq hse) (beq_iff_eq.1 hf) h1 h2 h3 h4 w) ?_
    cases xv <;> simp only [slclP] at h4 <;> try (cases h4; done)
    ·split at h4
     ·split at h4 <;> cases h4; rfl
     ·cases h4
    ·split at h4
     ·split at h4 <;> cases h4; rfl
     ·cases h4
   ·cases hf
  ·cases hk
 case rsl sz n0 lo hi =>
  split at hk
  ·simp only [Bool.and_eq_true,beq_iff_eq] at hk
   obtain ⟨⟨⟨hf,hlo⟩,hhi⟩,hk⟩ := hk
   split at hf
   ·rename_i n' e hse
    simp only [Bool.and_eq_true,beq_iff_eq] at hf
    obtain ⟨rfl,hsz⟩ := hf
    obtain ⟨xv,lv,hv',h1,h2,h3,h4⟩ := slice_parts h hlo hhi hk hv he
    refine pur_of rfl (rsl_ok (isArr_eq hse) hsz h.rel h1 h2 h3 h4) ?_
    cases xv <;> simp only [rslP] at h4 <;> try (cases h4; done)
    case ptr =>
     split at h4
     ·split at h4
      ·split at h4 <;> cases h4; rfl
      ·cases h4
     ·cases h4
    case elp =>
     split at h4
     ·split at h4 <;> cases h4; rfl
     ·cases h4
   ·cases hf
  ·cases hk
 case slcs lo hi =>
  split at hk
  ·simp only [Bool.and_eq_true,beq_iff_eq] at hk
   obtain ⟨⟨⟨hf,hlo⟩,hhi⟩,hk⟩ := hk
   obtain ⟨xv,lv,hv',h1,h2,h3,h4⟩ := slice_parts h hlo hhi hk hv he
   refine pur_of rfl (slcs_ok (isStr_eq hf) h1 h2 h3 h4 w) ?_
   cases xv <;> simp only [slcsP] at h4 <;> try (cases h4; done)
   split at h4
   ·split at h4 <;> cases h4; rfl
   ·cases h4
  ·cases hk
 case mkif t =>
  split at hk
  ·rename_i t' x
   simp only [Bool.and_eq_true,beq_iff_eq] at hk
   obtain ⟨⟨rfl,ht⟩,hk⟩ := hk
   obtain ⟨v',rfl,h1,_⟩ := opds1 h hk hv
   simp only [on1,Option.some.injEq] at he; subst he
   cases hu : P.underlying t with
   | none => rw [hu] at ht; cases ht
   | some dd =>
    rw [hu] at ht
    refine ⟨.iface t (a.eval x),?_,.ifc t _ _ h1.untag,by simp only [Tg]; trivial⟩
    cases dd <;> first | (cases ht; done) | simp [execOp,Instr.makeInterface,run_und hu]
  ·cases hk
 all_goals cases hk
end
end Go.Proofs.Ytmffcpiffkclgaa.ZJM
