/- Operations without an effect: what the machine's own operation answers stands for what the ideal one answers. -/
import Derived.Test.YtmffcpiffkclgaaZJ2
import Derived.Laws.Sem
import Derived.Laws.Entries
import Derived.Laws.BytesArg
set_option linter.unusedSimpArgs false
set_option linter.unusedVariables false
namespace Go.Proofs.Ytmffcpiffkclgaa.ZJM
open Go.RowKit
section
variable {P : Program} {g : Gh}
def tyAg (P : Program) (t : TypeId) : Option Bool :=
 match P.underlying t with
 | some (.struct _) => some true
 | some (.array _ _) => some true
 | some _ => some false
 | none => none
def tySz (P : Program) (t : TypeId) : Option Nat := (P.info? t).map (·.size)
theorem run_sizeOf {t : TypeId} {n : Nat} (h : tySz P t = some n) (w : World) : (sizeOf t).run P w = .ok n w := by
 unfold tySz at h
 obtain ⟨i,hi,rfl⟩ := Option.map_eq_some_iff.1 h
 simp [sizeOf,typeInfo,hi]
theorem run_und {t : TypeId} {d : TypeDesc} (h : P.underlying t = some d) (w : World) : (underlying t).run P w = .ok d w := by
 simp [underlying,h]
theorem run_isAgg {t : TypeId} {b : Bool} (h : tyAg P t = some b) (w : World) : (isAgg t).run P w = .ok b w := by
 unfold tyAg at h
 cases hu : P.underlying t with
 | none => rw [hu] at h; cases h
 | some d =>
  rw [hu] at h
  simp only [isAgg,Sem.run_bind,run_und hu,Result.andThen_ok]
  cases d <;> simp_all
theorem add_at (b off j : Nat) : (⟨b,off,none⟩ : Addr).add j = ⟨b,off + j,none⟩ := by unfold Addr.add; split <;> simp_all
theorem flat_get {sz : Nat} : ∀ {xs : List PV},(∀ x ∈ xs,x.isVal = true ∧ x.cells.length = sz) → ∀ (i : Nat) (x : PV),xs[i]? = some x → ∀ j,j < sz →
  (xs.flatMap PV.cells)[i * sz + j]? = x.cells[j]?
 | [],_,i,x,h,_,_ => by simp at h
 | y :: xs,hs,0,x,h,j,hj => by
  simp only [List.getElem?_cons_zero,Option.some.injEq] at h
  subst h
  have hl := (hs y (by simp)).2
  rw [List.flatMap_cons,Nat.zero_mul,Nat.zero_add,List.getElem?_append_left (by omega)]
 | y :: xs,hs,i + 1,x,h,j,hj => by
  have hl := (hs y (by simp)).2
  rw [List.flatMap_cons,List.getElem?_append_right (by rw [hl,Nat.succ_mul]; omega),hl,Nat.succ_mul,show i * sz + sz + j - sz = i * sz + j by omega]
  exact flat_get (fun x hx => hs x (by simp [hx])) i x (by simpa using h) j hj
theorem flat_len {sz : Nat} : ∀ {xs : List PV},(∀ x ∈ xs,x.isVal = true ∧ x.cells.length = sz) → (xs.flatMap PV.cells).length = xs.length * sz
 | [],_ => by simp
 | y :: xs,hs => by
  rw [List.flatMap_cons,List.length_append,(hs y (by simp)).2,flat_len fun x hx => hs x (by simp [hx]),List.length_cons,Nat.succ_mul]; omega
theorem isVal_cells {x : PV} (h : x.isVal = true) : ∀ c ∈ x.cells,c.isCell = true := by
 cases x <;> simp only [PV.cells] <;> first
  | (intro c hc; simp only [List.mem_singleton] at hc; subst hc; exact h)
  | (intro c hc; exact (List.all_eq_true.1 (by simpa [PV.isVal] using h)) c hc)
structure Cells (g : Gh) (w : World) (b off : Nat) (cs : List PV) (rv : Nat → Value) : Prop where
 at_ : ∀ j,j < cs.length → w.cell? ⟨b,off + j,none⟩ = some (rv j)
 isC : ∀ c ∈ cs,c.isCell = true
 v : ∀ j c,cs[j]? = some c → V g c (rv j)
theorem load_cells {w : World} {b base : Nat} {cs : List PV} {rv : Nat → Value} (h : Cells g w b base cs rv) {t : TypeId} {ag : Bool} {sz off : Nat}
  (ht : tyAg P t = some ag) (hs : tySz P t = some sz) {v : PV} (hv : partP ag sz off cs = some v) :
  ∃ r,(loadVar t ⟨b,base + off,none⟩).run P w = .ok r w ∧ V g v r ∧ (∀ vs,r = .agg vs → ∀ j,j < sz → vs.getD j undef = rv (off + j)) ∧ (ag = false → r = rv off) := by
 cases ag with
 | true =>
  simp only [partP] at hv
  split at hv
  ·rename_i hle
   cases hv
   have hr : (loadCells ⟨b,base + off,none⟩ sz).run P w = .ok ((List.range sz).map fun j => rv (off + j)).toArray w :=
    run_loadCells w _ sz _ fun j hj => by rw [add_at,Nat.add_assoc]; exact h.at_ (off + j) (by omega)
   refine ⟨.agg ((List.range sz).map fun j => rv (off + j)).toArray,?_,?_,?_,fun h => by cases h⟩
   ·simp only [loadVar,Sem.run_bind,run_isAgg ht,Result.andThen_ok,if_true,run_sizeOf hs,hr]; rfl
   ·refine .agg _ _ (by simp; omega) (fun c hc => h.isC c (List.mem_of_mem_drop (List.mem_of_mem_take hc))) fun j c hj => ?_
    have hj' : j < sz := by
     have := (List.getElem?_eq_some_iff.1 hj).1
     simp only [List.length_take] at this; omega
    rw [List.getElem?_take_of_lt hj',List.getElem?_drop] at hj
    have := h.v (off + j) c hj
    simpa [hj'] using this
   ·intro vs hvs j hj
    cases hvs
    simp [hj]
  ·cases hv
 | false =>
  simp only [partP] at hv
  have hlt := (List.getElem?_eq_some_iff.1 hv).1
  refine ⟨rv off,?_,h.v off v hv,?_,fun _ => rfl⟩
  ·simp only [loadVar,Sem.run_bind,run_isAgg ht,Result.andThen_ok,Bool.false_eq_true,if_false,run_load,h.at_ off hlt]
  ·intro vs hvs
   have h1 := (h.v off v hv).vcell (h.isC v (getElem?_mem' hv))
   rw [hvs] at h1
   cases h1
theorem part_agg {cs : List PV} {vs : Array Value} (h : V g (.agg cs) (.agg vs)) {t : TypeId} {ag : Bool} {sz off : Nat}
  (ht : tyAg P t = some ag) (hs : tySz P t = some sz) {v : PV} (hv : partP ag sz off cs = some v) (w : World) :
  ∃ r,(part t vs off).run P w = .ok r w ∧ V g v r := by
 cases h with
 | agg _ _ hn hc hV =>
 cases ag with
 | true =>
  simp only [partP] at hv
  split at hv
  ·rename_i hle
   cases hv
   refine ⟨.agg (vs.extract off (off + sz)),by simp [part,run_isAgg ht,run_sizeOf hs],.agg _ _ (by simp; omega) (fun c hc' => hc c (List.mem_of_mem_drop (List.mem_of_mem_take hc'))) fun j c hj => ?_⟩
   have hj' : j < sz := by
    have := (List.getElem?_eq_some_iff.1 hj).1
    simp only [List.length_take] at this; omega
   rw [List.getElem?_take_of_lt hj',List.getElem?_drop] at hj
   have h1 := hV (off + j) c hj
   have h2 : off + j < vs.size := by have := (List.getElem?_eq_some_iff.1 hj).1; omega
   have h3 : j < min (off + sz) vs.size - off := by omega
   simp only [Array.getD_eq_getD_getElem?] at h1 ⊢
   rw [Array.getElem?_extract_of_lt (by omega),← Array.getElem?_eq_getElem h2]
   exact h1
  ·cases hv
 | false =>
  simp only [partP] at hv
  have hlt : off < vs.size := by have := (List.getElem?_eq_some_iff.1 hv).1; omega
  have h1 := hV off v hv
  refine ⟨vs[off],by simp [part,run_isAgg ht,hlt],?_⟩
  simpa [hlt] using h1
theorem Rel.cellsG {m : Mem} {w : World} (hR : Rel g m w) {x : PV} {b base : Nat} {rv : Nat → Value} (hx : x.isVal = true) (hG : ∀ j,j < x.cells.length → g.G b (base + j) = some (rv j))
  (hV : ∀ j c,x.cells[j]? = some c → V g c (rv j)) : Cells g w b base x.cells rv :=
 ⟨fun j hj => (hR.hG _ _ _ (hG j hj)).1,isVal_cells hx,hV⟩
theorem outC_V {lv sl : Nat} {p : Path} {j : Nat} {c u : PV} {rv : Value} (h : MC g lv sl p j c rv) (hu : outC lv sl p j c = some u) : u.isCell = true ∧ V g u rv ∧ u.untag1 = u := by
 cases c with
 | vec ver n sz cs =>
  obtain ⟨b,o,t,o',c,h1,rfl,h3,h4,h5⟩ := h
  simp only [outC,Option.some.injEq] at hu; subst hu
  exact ⟨rfl,.slr lv sl _ 0 n sz b o t o' c h1 (fun hc => by obtain ⟨h6,h7⟩ := h4 hc; subst h6; exact ⟨rfl,h7⟩) h3,rfl⟩
 | vnil ver sz =>
  have h' : rv = .slice none 0 0 := h
  subst h'
  simp only [outC,Option.some.injEq] at hu; subst hu
  exact ⟨rfl,.nil none sz,rfl⟩
 | vfrz ver sz xs => simp only [outC,Option.some.injEq] at hu; subst hu; exact ⟨rfl,h.2,rfl⟩
 | gone => simp [outC] at hu
 | lrec => simp [outC] at hu
 | _ => simp only [outC,Option.some.injEq] at hu; subst hu; exact ⟨h.1,h.2.2.2,h.2.1⟩
theorem outCs_spec {lv sl : Nat} {p : Path} : ∀ {l us : List PV} {j : Nat},outCs lv sl p j l = some us → us.length = l.length ∧ ∀ (i : Nat) (u : PV),us[i]? = some u → ∃ c,l[i]? = some c ∧ outC lv sl p (j + i) c = some u
 | [],us,j,h => by simp only [outCs,Option.some.injEq] at h; subst h; exact ⟨rfl,fun i u hi => by simp at hi⟩
 | c :: l,us,j,h => by
  simp only [outCs] at h
  split at h
  ·rename_i c' r' h1 h2
   cases h
   obtain ⟨h3,h4⟩ := outCs_spec h2
   refine ⟨by simp [h3],fun i u hi => ?_⟩
   cases i with
   | zero => simp only [List.getElem?_cons_zero,Option.some.injEq] at hi; subst hi; exact ⟨c,rfl,h1⟩
   | succ i =>
    obtain ⟨c2,h5,h6⟩ := h4 i u (by simpa using hi)
    exact ⟨c2,by simpa using h5,by rw [show j + (i + 1) = j + 1 + i by omega]; exact h6⟩
  ·cases h
theorem Rel.row {m : Mem} {w : World} (hR : Rel g m w) {lv sl b o t : Nat} {p : Path} (hb : g.blk lv sl p = some (b,o,t)) {cs : List PV} (hc : mget m lv sl p = some cs) {off n : Nat} (hle : off + n ≤ cs.length) {us : List PV} (hu : outCs lv sl p off ((cs.drop off).take n) = some us) :
  ∃ C E,w.heap[b]? = some (.cells C E (0,0)) ∧ Cells g w b (o + off) us (fun j => C.getD (o + off + j) undef) ∧ us.length = n ∧ (∀ u ∈ us,u.untag1 = u) ∧ C.size = t ∧ o + cs.length ≤ t := by
 obtain ⟨C,E,h1,h2,h3,h4,h5⟩ := hR.hM _ _ _ _ _ _ hb _ hc
 obtain ⟨h6,h7⟩ := outCs_spec hu
 have hl : us.length = n := by rw [h6]; simp; omega
 have key : ∀ (j : Nat) (u : PV),us[j]? = some u → u.isCell = true ∧ V g u (C.getD (o + off + j) undef) ∧ u.untag1 = u := by
  intro j u hj
  obtain ⟨c,h8,h9⟩ := h7 j u hj
  have hlt : j < n := by rw [← hl]; exact (List.getElem?_eq_some_iff.1 hj).1
  rw [List.getElem?_take_of_lt hlt,List.getElem?_drop] at h8
  have := outC_V (h4 _ c h8) h9
  rwa [← Nat.add_assoc] at this
 refine ⟨C,E,h1,⟨fun j hj => ?_,fun u hu' => ?_,fun j u hj => (key j u hj).2.1⟩,hl,fun u hu' => ?_,h2,h3⟩
 ·simp only [World.cell?,h1]
  have : o + off + j < C.size := by omega
  simp [this]
 ·obtain ⟨j,hj⟩ := List.getElem?_of_mem hu'
  exact (key j u hj).1
 ·obtain ⟨j,hj⟩ := List.getElem?_of_mem hu'
  exact (key j u hj).2.2
theorem load_row {m : Mem} {w : World} (hR : Rel g m w) {lv sl b o tt : Nat} {p : Path} (hb : g.blk lv sl p = some (b,o,tt)) {cs : List PV} (hc : mget m lv sl p = some cs) {t : TypeId} {ag : Bool} {sz off : Nat}
  (ht : tyAg P t = some ag) (hs : tySz P t = some sz) {v : PV} (hv : rowP lv sl p ag sz off cs = some v) : ∃ r,(loadVar t ⟨b,o + off,none⟩).run P w = .ok r w ∧ V g v r ∧ v.untag = v ∧ v.isVal = true := by
 cases ag with
 | true =>
  simp only [rowP] at hv
  split at hv
  ·rename_i hle
   split at hv
   ·rename_i us hus
    cases hv
    obtain ⟨C,E,_,hC,hl,hun,_⟩ := hR.row hb hc hle hus
    obtain ⟨r,h1,h2,_⟩ := load_cells hC (off := 0) ht hs (v := .agg us) (by simp only [partP]; rw [if_pos (by omega),List.drop_zero,List.take_of_length_le (by omega)])
    refine ⟨r,h1,h2,?_,by simp only [PV.isVal,List.all_eq_true]; exact hC.isC⟩
    simp only [PV.untag,PV.agg.injEq]
    exact (List.map_congr_left hun).trans (List.map_id _)
   ·cases hv
  ·cases hv
 | false =>
  simp only [rowP] at hv
  split at hv
  ·rename_i c hcc
   have hlt := (List.getElem?_eq_some_iff.1 hcc).1
   have hd : (cs.drop off).take 1 = [c] := by
    refine List.ext_getElem? fun j => ?_
    cases j with
    | zero => simp [hcc]
    | succ j => rw [List.getElem?_eq_none (by simp; omega),List.getElem?_eq_none (by simp)]
   obtain ⟨C,E,_,hC,_,hun,_⟩ := hR.row hb hc (off := off) (n := 1) (by omega) (us := [v]) (by rw [hd]; simp only [outCs,hv])
   obtain ⟨r,h1,h2,_⟩ := load_cells hC (off := 0) ht hs (v := v) rfl
   have h3 := hun v (by simp)
   have h4 := hC.isC v (by simp)
   exact ⟨r,h1,h2,by cases v <;> first | exact h3 | (simp [PV.isCell] at h4),by cases v <;> first | exact h4 | (simp [PV.isCell] at h4)⟩
  ·cases hv
theorem addP_ok {n : Nat} {x v : PV} {rx : Value} (hx : V g x rx) (hv : addP n x = some v) : ∃ b o,rx = .pointer (some ⟨b,o,none⟩) ∧ V g v (.pointer (some ⟨b,o + n,none⟩)) := by
 cases x with
 | ptr l s p off =>
  cases hx with
  | ptr _ _ _ _ b o t hb =>
  simp only [addP,Option.some.injEq] at hv; subst hv
  exact ⟨b,o + off,rfl,by rw [Nat.add_assoc]; exact .ptr _ _ _ _ b o t hb⟩
 | elp y o =>
  cases hx with
  | elp _ _ b base rv hx hu hG hV =>
  simp only [addP,Option.some.injEq] at hv; subst hv
  exact ⟨b,base + o,rfl,by rw [Nat.add_assoc]; exact .elp y (o + n) b base rv hx hu hG hV⟩
 | _ => simp [addP] at hv
theorem fadr_ok {s : TypeId} {fields : Array Field} {i : Nat} {f : Field} {sz : Nat} (hu : P.underlying s = some (.struct fields)) (hf : fields[i]? = some f)
  (hs : tySz P f.type = some sz) (h0 : sz ≠ 0) {x v : PV} {rx : Value} (hx : V g x rx) (hv : addP f.offset x = some v) (w : World) :
  ∃ r,(Instr.fieldAt s rx i).run P w = .ok r w ∧ V g v r := by
 obtain ⟨b,o,rfl,h⟩ := addP_ok hx hv
 refine ⟨_,?_,h⟩
 simp [Instr.fieldAt,run_und hu,hf,Instr.sureAddr,fieldPlace,run_sizeOf hs,h0,add_at]
theorem ladr_ok {t e : TypeId} {sz : Nat} (hu : P.underlying t = some (.slice e)) (hs : tySz P e = some sz) {x i v : PV} {rx ri : Value} (hx : V g x rx) (hi : V g i ri)
  (hv : ladrP sz x i = some v) (w : World) : ∃ r,(Instr.indexAt t rx ri).run P w = .ok r w ∧ V g v r := by
 cases x with
 | lst o nl sz' xs =>
  cases i with
  | int k n =>
   cases hi
   simp only [ladrP] at hv
   split at hv
   ·rename_i h0
    split at hv
    ·rename_i x hx'
     split at hv
     ·rename_i hsz
      have hsz' := beq_iff_eq.1 hsz
      subst hsz'
      cases hv
      have hlt := (List.getElem?_eq_some_iff.1 hx').1
      cases hx with
      | nil => simp at hlt
      | emp => simp at hlt
      | lst _ _ _ b off cap rv hs' hu' hG hV hc =>
       have hn : n < (xs.length : Int) := by omega
       have hxm := hs' x (getElem?_mem' hx')
       refine ⟨.pointer (some ⟨b,off + n.toNat * sz + 0,none⟩),?_,.elp x 0 b (off + n.toNat * sz) (fun j => rv (n.toNat * sz + j)) hxm.1 (hu' x (getElem?_mem' hx')) (fun j hj => ?_) fun j c hj => ?_⟩
       ·simp [Instr.indexAt,asIntOf,run_und hu,h0,hn,run_sizeOf hs,add_at]
       ·rw [Nat.add_assoc]
        refine hG _ ?_
        rw [flat_len hs']
        have := Nat.mul_le_mul_right sz (show n.toNat + 1 ≤ xs.length by omega)
        rw [Nat.succ_mul] at this
        omega
       ·have hj' : j < sz := by have := (List.getElem?_eq_some_iff.1 hj).1; omega
        exact hV _ c (by rw [flat_get hs' n.toNat x hx' j hj']; exact hj)
     ·cases hv
    ·cases hv
   ·cases hv
  | _ => simp [ladrP] at hv
 | slr lv sl p off n' sz' =>
  cases i with
  | int k n =>
   cases hi
   simp only [ladrP] at hv
   split at hv
   ·rename_i h0
    split at hv
    ·rename_i hlt
     split at hv
     ·cases hv
      cases hx with
      | slr _ _ _ _ _ _ b o tt off' c h ho hc =>
       have hn0 : c ≠ 0 := by omega
       obtain ⟨this,_⟩ := ho hn0
       subst this
       exact ⟨.pointer (some ⟨b,o + off + n.toNat * sz,none⟩),by simp [Instr.indexAt,asIntOf,run_und hu,h0,hlt,run_sizeOf hs,add_at],by rw [Nat.add_assoc]; exact .ptr lv sl p _ b o tt h⟩
     ·cases hv
    ·cases hv
   ·cases hv
  | _ => simp [ladrP] at hv
 | _ => simp [ladrP] at hv
theorem aadr_ok {t e : TypeId} {len sz : Nat} (hu : P.underlying t = some (.array len e)) (hs : tySz P e = some sz) {x i v : PV} {rx ri : Value} (hx : V g x rx) (hi : V g i ri)
  (hv : aadrP sz len x i = some v) (w : World) : ∃ r,(Instr.indexAt t rx ri).run P w = .ok r w ∧ V g v r := by
 cases i with
 | int k n =>
  cases hi
  simp only [aadrP,asI] at hv
  split at hv
  ·rename_i h0
   split at hv
   ·rename_i h1
    obtain ⟨b,o,rfl,h⟩ := addP_ok hx hv
    exact ⟨_,by simp [Instr.indexAt,asIntOf,run_und hu,Instr.sureAddr,h0,h1,run_sizeOf hs,add_at],h⟩
   ·cases hv
  ·cases hv
 | _ => simp [aadrP,asI] at hv
theorem ixs_ok {t : TypeId} (hu : P.underlying t = some .string) {x i v : PV} {rx ri : Value} (hx : V g x rx) (hi : V g i ri)
  (hv : ixsP x i = some v) (w : World) : ∃ r,(Instr.index t rx ri).run P w = .ok r w ∧ V g v r := by
 cases x with
 | str s =>
  cases i with
  | int k n =>
   cases hi
   cases hx
   simp only [ixsP] at hv
   split at hv
   ·rename_i h0
    split at hv
    ·rename_i b hb
     cases hv
     exact ⟨_,by simp [Instr.index,asIntOf,run_und hu,h0,hb],.int _ _⟩
    ·cases hv
   ·cases hv
  | _ => simp [ixsP] at hv
 | _ => simp [ixsP] at hv
theorem i2i_ok {src dst : TypeId} {k k0 : IntKind} (hs : P.underlying src = some (.int k0)) (hd : P.underlying dst = some (.int k)) {x v : PV} {rx : Value} (hx : V g x rx) (hv : i2iP k x = some v) (w : World) :
  ∃ r,(convert src dst rx).run P w = .ok r w ∧ V g v r := by
 cases x with
 | int k' n =>
  cases hx
  simp only [i2iP,Option.some.injEq] at hv; subst hv
  exact ⟨_,by simp [convert,run_und hs,run_und hd,Conv.intToInt],.int _ _⟩
 | _ => simp [i2iP] at hv
theorem un_ok {u : UnOp} {x v : PV} {rx : Value} (hx : V g x rx) (hv : unP u x = some v) (w : World) : ∃ r,(Op.unary u rx).run P w = .ok r w ∧ V g v r := by
 cases x with
 | int k n =>
  cases hx
  cases u <;> simp only [unP,Option.some.injEq] at hv <;> first
   | (subst hv; exact ⟨_,by simp [Op.unary,Op.intArith,Op.intBits,intBits],.int _ _⟩)
   | cases hv
 | bool b =>
  cases hx
  cases u <;> simp only [unP,Option.some.injEq] at hv <;> first
   | (subst hv; exact ⟨_,by simp [Op.unary],.bool _⟩)
   | cases hv
 | _ => simp [unP] at hv
theorem bin_ok {b : BinOp} {t : TypeId} {ox oy : Operand} {x y v : PV} {rx ry : Value} (hx : V g x rx) (hy : V g y ry) (hv : binP b x y = some v) (w : World) :
  ∃ r,(do eqGuard b t ox oy rx ry; binOp b t rx ry : Sem Value).run P w = .ok r w ∧ V g v r := by
 cases x with
 | int k n =>
  cases y with
  | int k' n' =>
   cases hx; cases hy
   simp only [binP] at hv
   split at hv
   ·rename_i hk
    by_cases hkk : k = k'
    ·subst hkk
     cases b <;> simp only [binI] at hv
     case quo => split at hv <;> cases hv; rename_i h0; exact ⟨_,by simp [eqGuard,binOp,Op.intDiv,h0],.int _ _⟩
     case rem => split at hv <;> cases hv; rename_i h0; exact ⟨_,by simp [eqGuard,binOp,Op.intDiv,h0],.int _ _⟩
     case shl => split at hv <;> cases hv; rename_i h0; exact ⟨_,by simp [eqGuard,binOp,Op.shift,h0],.int _ _⟩
     case shr => split at hv <;> cases hv; rename_i h0; exact ⟨_,by simp [eqGuard,binOp,Op.shift,h0],.int _ _⟩
     all_goals (cases hv; first
      | (refine ⟨_,?_,.int _ _⟩; simp [eqGuard,binOp,Op.intArith,Op.intBits,Op.intCmp,intBits]; done)
      | (refine ⟨_,?_,.bool _⟩; simp [eqGuard,binOp,Op.intArith,Op.intBits,Op.intCmp,intBits]; done))
    ·cases b <;> simp [hkk,shiftOp] at hk <;> simp only [binI] at hv
     case shl => split at hv <;> cases hv; rename_i h0; exact ⟨_,by simp [eqGuard,binOp,Op.shift,h0],.int _ _⟩
     case shr => split at hv <;> cases hv; rename_i h0; exact ⟨_,by simp [eqGuard,binOp,Op.shift,h0],.int _ _⟩
   ·cases hv
  | _ => simp [binP] at hv
 | str s =>
  cases y with
  | str s' =>
   cases hx; cases hy
   simp only [binP] at hv
   cases b <;> simp only [binS] at hv <;> first
    | (cases hv; done)
    | (split at hv <;> cases hv; rename_i h0; exact ⟨_,by
      have h1 : (s.size : Int) + s'.size ≤ 9223372036854775807 := by unfold maxBytes at h0; omega
      simp [eqGuard,binOp,Op.stringOp,IntKind.max,IntKind.signed,IntKind.bits,h1],.str _⟩)
    | (cases hv; exact ⟨_,by simp [eqGuard,binOp,Op.stringOp],.bool _⟩)
  | _ => simp [binP] at hv
 | _ => simp [binP] at hv
theorem run_equalIn_bool {t : TypeId} (hu : P.underlying t = some .bool) (d : Nat) (a b : Bool) (w : World) : (Op.equalIn (d + 1) t (.bool a) (.bool b)).run P w = .ok (a == b) w := by
 simp [Op.equalIn,run_und hu]
theorem run_equal_bool {t : TypeId} (hu : P.underlying t = some .bool) (a b : Bool) (w : World) : (Op.equal t (.bool a) (.bool b)).run P w = .ok (a == b) w :=
 run_equalIn_bool hu 9999 a b w
theorem beq_ok {neg : Bool} {t : TypeId} (hu : P.underlying t = some .bool) {ox oy : Operand} {x y v : PV} {rx ry : Value} (hx : V g x rx) (hy : V g y ry) (hv : beqP neg x y = some v) (w : World) :
  ∃ r,(do eqGuard (if neg then .neq else .eql) t ox oy rx ry; binOp (if neg then .neq else .eql) t rx ry : Sem Value).run P w = .ok r w ∧ V g v r := by
 cases x with
 | bool a =>
  cases y with
  | bool b =>
   cases hx; cases hy
   simp only [beqP,Option.some.injEq] at hv; subst hv
   cases neg <;> (refine ⟨_,?_,.bool _⟩; simp [eqGuard,binOp,run_equal_bool hu])
  | _ => simp [beqP] at hv
 | _ => simp [beqP] at hv
end
end Go.Proofs.Ytmffcpiffkclgaa.ZJM
set_option linter.unusedSimpArgs false
set_option linter.unusedVariables false
namespace Go.Proofs.Ytmffcpiffkclgaa.ZJM
open Go.RowKit
section
variable {P : Program} {g : Gh}
theorem bytesP_spec : ∀ {xs : List PV} {l : List Int},bytesP xs = some l → xs = l.map (PV.int .u8)
 | [],l,h => by simp only [bytesP,Option.some.injEq] at h; subst h; rfl
 | x :: r,l,h => by
  simp only [bytesP] at h
  split at h
  ·rename_i n l' hl
   cases h
   rw [bytesP_spec hl]; rfl
  ·cases h
theorem foldl_set_size : ∀ (l : List (Value × Nat)) (cs : Array Value) (off : Nat),(l.foldl (fun cs p => cs.setIfInBounds (off + p.2) p.1) cs).size = cs.size
 | [],cs,off => rfl
 | p :: l,cs,off => by rw [List.foldl_cons,foldl_set_size l]; simp
theorem foldl_set_get : ∀ (vs : List Value) (k : Nat) (cs : Array Value) (off j : Nat),
  ((vs.zipIdx k).foldl (fun cs p => cs.setIfInBounds (off + p.2) p.1) cs)[j]? =
   if off + k ≤ j ∧ j < off + k + vs.length ∧ j < cs.size then vs[j - (off + k)]? else cs[j]?
 | [],k,cs,off,j => by
  simp only [List.zipIdx_nil,List.foldl_nil,List.length_nil]
  rw [if_neg (by omega)]
 | v :: vs,k,cs,off,j => by
  rw [List.zipIdx_cons,List.foldl_cons,foldl_set_get vs (k + 1)]
  simp only [Array.size_setIfInBounds,List.length_cons]
  by_cases h1 : off + (k + 1) ≤ j ∧ j < off + (k + 1) + vs.length ∧ j < cs.size
  ·rw [if_pos h1,if_pos (by omega),show j - (off + k) = (j - (off + (k + 1))) + 1 by omega]; simp
  ·rw [if_neg h1,Array.getElem?_setIfInBounds]
   by_cases h2 : off + k = j
   ·subst h2
    by_cases h3 : off + k < cs.size
    ·simp [h3]
    ·rw [if_pos rfl,if_neg h3,if_neg (by omega)]; simp [h3]
   ·rw [if_neg h2,if_neg (by omega)]
theorem splice_get {α : Type} {cs new : List α} {off j : Nat} (h : off + new.length ≤ cs.length) :
  (splice cs new off)[j]? = if off ≤ j ∧ j < off + new.length then new[j - off]? else cs[j]? := by
 unfold splice
 by_cases h1 : j < off
 ·rw [List.append_assoc,List.getElem?_append_left (by simp; omega),List.getElem?_take_of_lt h1,if_neg (by omega)]
 ·rw [List.append_assoc,List.getElem?_append_right (by simp; omega)]
  have hl : (cs.take off).length = off := by simp; omega
  rw [hl]
  by_cases h2 : j < off + new.length
  ·rw [List.getElem?_append_left (by omega),if_pos ⟨by omega,h2⟩]
  ·rw [List.getElem?_append_right (by omega),List.getElem?_drop,if_neg (by omega),show off + new.length + (j - off - new.length) = j by omega]
theorem splice_length {α : Type} {cs new : List α} {off : Nat} (h : off + new.length ≤ cs.length) : (splice cs new off).length = cs.length := by
 unfold splice; simp; omega
theorem cells_V {v : PV} {rv : Value} (h : V g v rv) (hc : v.isVal = true) : v.cells.length = rv.cells.size ∧ ∀ j c,v.cells[j]? = some c → V g c (rv.cells.getD j undef) := by
 cases v with
 | agg cs =>
  cases h with
  | agg _ vs hn hc hV => exact ⟨hn,hV⟩
 | tup _ => simp [PV.isVal,PV.isCell] at hc
 | und => simp [PV.isVal,PV.isCell] at hc
 | _ =>
  have hv : vcell rv = true := h.vcell (by simpa [PV.isVal] using hc)
  have hcs : rv.cells = #[rv] := by cases rv <;> first | rfl | (simp [vcell] at hv)
  rw [hcs]
  refine ⟨rfl,fun j c hj => ?_⟩
  simp only [PV.cells] at hj
  cases j with
  | zero => simp only [List.getElem?_cons_zero,Option.some.injEq] at hj; subst hj; exact h
  | succ j => simp at hj
theorem fill_ok : ∀ {ps : List (Nat × Nat)} {vs : List PV} {cs cs' : List PV} {C : Array Value} {rs : List (Nat × Value)} {place : Nat → Option (Nat × Nat)},
  fillP cs ps vs = some cs' → V g (.agg cs) (.agg C) → rs.map (fun r => place r.1) = ps.map some → rs.length = vs.length → (∀ (j : Nat) (v : PV) (r : Nat × Value),vs[j]? = some v → rs[j]? = some r → V g v r.2) →
  ∃ C',Instr.fill place C rs = some C' ∧ V g (.agg cs') (.agg C')
 | [],[],cs,cs',C,rs,place,h,hV,hp,hl,_ => by
  simp only [fillP,Option.some.injEq] at h; subst h
  have : rs = [] := by cases rs <;> simp_all
  subst this
  exact ⟨C,rfl,hV⟩
 | p :: ps,v :: vs,cs,cs',C,rs,place,h,hV,hp,hl,hvs => by
  simp only [fillP] at h
  split at h
  ·rename_i hc
   simp only [Bool.and_eq_true,beq_iff_eq,decide_eq_true_eq] at hc
   obtain ⟨⟨hval,hsz⟩,hle⟩ := hc
   cases rs with
   | nil => simp at hl
   | cons r rs =>
    simp only [List.map_cons,List.cons.injEq] at hp
    have hvr := hvs 0 v r rfl rfl
    obtain ⟨hn,hcv⟩ := cells_V hvr hval
    cases hV with
    | agg _ _ hn' hc' hV' =>
    have hV2 : V g (.agg (splice cs v.cells p.1)) (.agg ((r.2.cells.zipIdx.foldl (fun cs x => cs.setIfInBounds (p.1 + x.2) x.1) C))) := by
     have hz : r.2.cells.zipIdx.foldl (fun cs x => cs.setIfInBounds (p.1 + x.2) x.1) C = (r.2.cells.toList.zipIdx 0).foldl (fun cs x => cs.setIfInBounds (p.1 + x.2) x.1) C := by
      rw [← Array.foldl_toList,Array.toList_zipIdx]
     rw [hz]
     refine .agg _ _ ?_ ?_ ?_
     ·rw [splice_length (by omega),foldl_set_size]; exact hn'
     ·intro c hcm
      unfold splice at hcm
      rcases List.mem_append.1 hcm with hcm | hcm
      ·rcases List.mem_append.1 hcm with hcm | hcm
       ·exact hc' c (List.mem_of_mem_take hcm)
       ·exact isVal_cells hval c hcm
      ·exact hc' c (List.mem_of_mem_drop hcm)
     ·intro j c hj
      rw [splice_get (by omega)] at hj
      rw [Array.getD_eq_getD_getElem?,foldl_set_get]
      have hlC : cs.length = C.size := hn'
      have hlv : v.cells.length = r.2.cells.toList.length := by simpa using hn
      by_cases h1 : p.1 ≤ j ∧ j < p.1 + v.cells.length
      ·rw [if_pos h1] at hj
       rw [if_pos (by omega)]
       have := hcv _ c hj
       simpa [Array.getD_eq_getD_getElem?] using this
      ·rw [if_neg h1] at hj
       have hj' := (List.getElem?_eq_some_iff.1 hj).1
       rw [if_neg (by omega)]
       have := hV' j c hj
       simpa [Array.getD_eq_getD_getElem?] using this
    obtain ⟨C',h1,h2⟩ := fill_ok h hV2 hp.2 (by simpa using hl) (fun j v r hv hr => hvs (j + 1) v r (by simpa using hv) (by simpa using hr))
    refine ⟨C',?_,h2⟩
    simp only [Instr.fill]
    rw [hp.1]
    simp only []
    rw [if_neg (by simp; omega)]
    exact h1
  ·cases h
 | [],_ :: _,_,_,_,_,_,h,_,_,_,_ => by simp [fillP] at h
 | _ :: _,[],_,_,_,_,_,h,_,_,_,_ => by simp [fillP] at h
theorem mn_ok {x y v : PV} {rx ry : Value} (hx : V g x rx) (hy : V g y ry) (hv : mnP x y = some v) (w : World) (a : Array TypeId) (ty : TypeId) : ∃ r,(Builtin.min_ a ty #[rx,ry]).run P w = .ok r w ∧ V g v r := by
 cases x with
 | int k n =>
  cases y with
  | int k' n' =>
   cases hx; cases hy
   simp only [mnP,Option.some.injEq] at hv; subst hv
   refine ⟨_,?_,.int _ _⟩
   simp [Builtin.min_,Builtin.min2]
  | _ => simp [mnP] at hv
 | _ => simp [mnP] at hv
theorem mx_ok {x y v : PV} {rx ry : Value} (hx : V g x rx) (hy : V g y ry) (hv : mxP x y = some v) (w : World) (a : Array TypeId) (ty : TypeId) : ∃ r,(Builtin.max_ a ty #[rx,ry]).run P w = .ok r w ∧ V g v r := by
 cases x with
 | int k n =>
  cases y with
  | int k' n' =>
   cases hx; cases hy
   simp only [mxP,Option.some.injEq] at hv; subst hv
   refine ⟨_,?_,.int _ _⟩
   simp [Builtin.max_,Builtin.max2]
  | _ => simp [mxP] at hv
 | _ => simp [mxP] at hv
theorem V.sub {o : Option Nat} {nl : Bool} {sz : Nat} {xs : List PV} {rx : Value} (hx : V g (.lst o nl sz xs) rx) {l h : Nat} (hlh : l ≤ h) (hh : h ≤ xs.length) :
  ∃ a len cap,rx = .slice a len cap ∧ len = xs.length ∧ len ≤ cap ∧ ∀ (a' : Option Addr),(a' = a.map (·.add (l * sz)) ∨ (l = cap ∧ a' = a)) → V g (.lst none nl sz ((xs.take h).drop l)) (.slice a' (h - l) (cap - l)) := by
 cases hx with
 | nil =>
  refine ⟨none,0,0,rfl,rfl,Nat.le_refl _,fun a' ha => ?_⟩
  have : a' = none := by rcases ha with ha | ha <;> simp_all
  subst this
  simp only [List.length_nil] at hh
  have h1 : h = 0 := by omega
  have h2 : l = 0 := by omega
  subst h1; subst h2
  exact .nil none sz
 | emp _ ad =>
  refine ⟨some ad,0,0,rfl,rfl,Nat.le_refl _,fun a' ha => ?_⟩
  simp only [List.length_nil] at hh
  have h1 : h = 0 := by omega
  have h2 : l = 0 := by omega
  subst h1; subst h2
  obtain ⟨a2,rfl⟩ : ∃ a2,a' = some a2 := by rcases ha with ha | ⟨_,ha⟩ <;> exact ⟨_,ha⟩
  exact .emp sz a2
 | lst _ _ _ b off cap rv hs hu hG hV hc =>
  refine ⟨_,_,cap,rfl,rfl,hc,fun a' ha => ?_⟩
  have hlen : ((xs.take h).drop l).length = h - l := by simp; omega
  have hs' : ∀ x ∈ (xs.take h).drop l,x.isVal = true ∧ x.cells.length = sz := fun x hx => hs x (List.mem_of_mem_take (List.mem_of_mem_drop hx))
  have key : ∀ j,j < (h - l) * sz → (((xs.take h).drop l).flatMap PV.cells)[j]? = (xs.flatMap PV.cells)[l * sz + j]? := by
   intro j hj
   have hsz : 0 < sz := by rcases Nat.eq_zero_or_pos sz with h0 | h0; (subst h0; simp at hj); exact h0
   have hi : j / sz < h - l := Nat.div_lt_of_lt_mul (by rw [Nat.mul_comm]; exact hj)
   have hmod := Nat.mod_lt j hsz
   have hdm : j / sz * sz + j % sz = j := by rw [Nat.mul_comm]; exact Nat.div_add_mod j sz
   have hx0 : ((xs.take h).drop l)[j / sz]? = some xs[l + j / sz] := by
    rw [List.getElem?_drop,List.getElem?_take_of_lt (by omega),List.getElem?_eq_getElem (by omega)]
   have h1 := flat_get hs' (j / sz) _ hx0 (j % sz) hmod
   have h2 := flat_get hs (l + j / sz) _ (List.getElem?_eq_getElem (by omega)) (j % sz) hmod
   rw [hdm] at h1
   rw [Nat.add_mul,Nat.add_assoc,hdm] at h2
   rw [h1,h2]
  have hfl : (((xs.take h).drop l).flatMap PV.cells).length = (h - l) * sz := by rw [flat_len hs',hlen]
  by_cases he : h - l = 0
  ·have hnil : (xs.take h).drop l = [] := List.eq_nil_of_length_eq_zero (by omega)
   rw [hnil]
   obtain ⟨b',off',ha'⟩ : ∃ b' off',a' = some ⟨b',off',none⟩ := by
    rcases ha with ha | ⟨_,ha⟩
    ·exact ⟨b,off + l * sz,by rw [ha]; simp [add_at]⟩
    ·exact ⟨b,off,ha⟩
   rw [ha',he]
   exact .lst none sz [] b' off' (cap - l) rv (fun x hx => by cases hx) (fun x hx => by cases hx) (fun j hj => by simp at hj) (fun j c hj => by simp at hj) (Nat.zero_le _)
  ·have ha' : a' = some ⟨b,off + l * sz,none⟩ := by
    rcases ha with ha | ⟨hl,_⟩
    ·rw [ha]; simp [add_at]
    ·omega
   rw [ha',← hlen]
   refine .lst none sz _ b (off + l * sz) (cap - l) (fun j => rv (l * sz + j)) hs' (fun x hx => hu x (List.mem_of_mem_take (List.mem_of_mem_drop hx))) (fun j hj => ?_) (fun j c hj => ?_) (by omega)
   ·rw [Nat.add_assoc]
    refine hG _ ?_
    rw [flat_len hs]
    have := Nat.mul_le_mul_right sz hh
    rw [hfl,Nat.sub_mul] at hj
    omega
   ·have hj' : j < (h - l) * sz := by have := (List.getElem?_eq_some_iff.1 hj).1; omega
    rw [key j hj'] at hj
    exact hV _ c hj
def OV (g : Gh) : Option PV → Option Value → Prop
 | none,none => True
 | some v,some r => V g v r
 | _,_ => False
theorem bounds_ok {b : Bool} {len cap : Nat} {lo hi : Option PV} {rlo rhi : Option Value} (hlo : OV g lo rlo) (hhi : OV g hi rhi) {l h : Int}
  (hh : (match (motive := Option PV → Option Int) hi with | none => some (len : Int) | some (.int _ h) => some h | _ => none) = some h)
  (hl : (match (motive := Option PV → Option Int) lo with | none => some 0 | some (.int _ l) => some l | _ => none) = some l) (h0 : 0 ≤ l) (h1 : l ≤ h) (h2 : h ≤ cap) (w : World) :
  (Instr.sliceBounds b len cap rlo rhi none).run P w = .ok (l.toNat,h.toNat,cap) w := by
 have h3 : 0 ≤ h := by omega
 have h4 : l ≤ (h.toNat : Int) := by omega
 cases hi with
 | none =>
  cases rhi with
  | some _ => exact hhi.elim
  | none =>
   simp only [Option.some.injEq] at hh; subst hh
   cases lo with
   | none =>
    cases rlo with
    | some _ => exact hlo.elim
    | none =>
     simp only [Option.some.injEq] at hl; subst hl
     simp [Instr.sliceBounds]
   | some lv =>
    cases rlo with
    | none => exact hlo.elim
    | some rl =>
     cases lv <;> simp at hl
     subst hl
     cases hlo
     simp [Instr.sliceBounds,Instr.sliceBound,asIntOf,h0,h1]
 | some hv =>
  cases rhi with
  | none => exact hhi.elim
  | some rh =>
   cases hv <;> simp at hh
   subst hh
   cases hhi
   cases lo with
   | none =>
    cases rlo with
    | some _ => exact hlo.elim
    | none =>
     simp only [Option.some.injEq] at hl; subst hl
     simp [Instr.sliceBounds,Instr.sliceBound,asIntOf,h3,h2]
   | some lv =>
    cases rlo with
    | none => exact hlo.elim
    | some rl =>
     cases lv <;> simp at hl
     subst hl
     cases hlo
     simp [Instr.sliceBounds,Instr.sliceBound,asIntOf,h0,h1,h2,h3,h4]
     intro hh; omega
theorem boundsP_ok {b : Bool} {n cap : Nat} {lo hi : Option PV} {rlo rhi : Option Value} (hlo : OV g lo rlo) (hhi : OV g hi rhi) {p : Nat × Nat} (hp : boundsP n lo hi = some p) (hc : n ≤ cap) (w : World) :
  (Instr.sliceBounds b n cap rlo rhi none).run P w = .ok (p.1,p.2,cap) w ∧ p.1 ≤ p.2 ∧ p.2 ≤ n := by
 simp only [boundsP] at hp
 split at hp
 ·rename_i h l hh hl
  split at hp
  ·rename_i hb
   obtain ⟨hb1,hb2,hb3⟩ := hb
   cases hp
   exact ⟨bounds_ok hlo hhi hh hl hb1 hb2 (cap := cap) (by omega) w,by simp only; omega,by simp only; omega⟩
  ·cases hp
 ·cases hp
theorem slcl_ok {t e : TypeId} {sz : Nat} (hu : P.underlying t = some (.slice e)) (hs : tySz P e = some sz) {x v : PV} {lo hi : Option PV} {rx : Value} {rlo rhi : Option Value} (hx : V g x rx)
  (hlo : OV g lo rlo) (hhi : OV g hi rhi) (hv : slclP sz x lo hi = some v) (w : World) : ∃ r,(Instr.sliceAt t rx rlo rhi none).run P w = .ok r w ∧ V g v r := by
 cases x with
 | lst o nl sz' xs =>
  simp only [slclP] at hv
  split at hv
  ·rename_i hsz
   have := beq_iff_eq.1 hsz; subst this
   split at hv
   ·rename_i p hp
    cases hv
    obtain ⟨_,hb1,hb2⟩ := boundsP_ok (P := P) (b := true) hlo hhi hp (Nat.le_refl _) w
    obtain ⟨a,len,cap,rfl,hlen,hcap,hsub⟩ := hx.sub (l := p.1) (h := p.2) hb1 hb2
    subst hlen
    obtain ⟨hrun,_,_⟩ := boundsP_ok (P := P) (b := true) hlo hhi hp hcap w
    refine ⟨.slice (if cap = p.1 then a else a.map (·.add (p.1 * sz))) (p.2 - p.1) (cap - p.1),?_,?_⟩
    ·simp [Instr.sliceAt,run_und hu,Instr.slice,hrun,run_sizeOf hs]
    ·refine hsub _ ?_
     by_cases hc : cap = p.1
     ·rw [if_pos hc]; exact .inr ⟨hc.symm,rfl⟩
     ·rw [if_neg hc]; exact .inl rfl
   ·cases hv
  ·cases hv
 | slr lv sl q off n sz' =>
  simp only [slclP] at hv
  split at hv
  ·rename_i hsz
   have := beq_iff_eq.1 hsz; subst this
   split at hv
   ·rename_i p hp
    cases hv
    cases hx with
    | slr _ _ _ _ _ _ b o tt off' c h ho hc =>
     obtain ⟨hrun,hb1,hb2⟩ := boundsP_ok (P := P) (b := true) hlo hhi hp hc.1 w
     refine ⟨.slice (some (if c = p.1 then ⟨b,off',none⟩ else (⟨b,off',none⟩ : Addr).add (p.1 * sz))) (p.2 - p.1) (c - p.1),?_,?_⟩
     ·simp [Instr.sliceAt,run_und hu,Instr.slice,hrun,run_sizeOf hs]
      split <;> rfl
     ·by_cases hcp : c = p.1
      ·rw [if_pos hcp]
       exact .slr lv sl q _ _ sz b o tt off' _ h (fun hne => by omega) ⟨by omega,by have := hc.2; omega⟩
      ·rw [if_neg hcp,add_at]
       obtain ⟨h1,h2⟩ := ho (by omega)
       refine .slr lv sl q _ _ sz b o tt _ _ h (fun hne => ⟨by omega,?_⟩) ⟨by omega,by have := hc.2; omega⟩
       have : p.1 * sz + (c - p.1) * sz = c * sz := by rw [← Nat.add_mul]; congr 1; omega
       omega
   ·cases hv
  ·cases hv
 | _ => simp [slclP] at hv
theorem mkc_ok {sz : Nat} {cs : List PV} (hl : cs.length = sz) (hc : ∀ c ∈ cs,c.isCell = true ∧ c.untag1 = c) : (mkc sz cs).isVal = true ∧ (mkc sz cs).cells = cs ∧ (mkc sz cs).untag = mkc sz cs := by
 have hagg : PV.isVal (.agg cs) = true ∧ PV.cells (.agg cs) = cs ∧ PV.untag (.agg cs) = .agg cs := by
  refine ⟨by simp only [PV.isVal,List.all_eq_true]; exact fun c h => (hc c h).1,rfl,?_⟩
  simp only [PV.untag,PV.agg.injEq]
  exact (List.map_congr_left fun c h => (hc c h).2).trans (List.map_id _)
 unfold mkc
 split
 ·rename_i h1
  match cs,hl with
  | [c],_ =>
   obtain ⟨h2,h3⟩ := hc c (by simp)
   refine ⟨?_,?_,?_⟩
   ·cases c <;> first | exact h2 | simp [PV.isCell] at h2
   ·cases c <;> first | rfl | simp [PV.isCell] at h2
   ·cases c <;> first | exact h3 | simp [PV.isCell] at h2
  | [],hl => simp at hl; omega
  | _ :: _ :: _,hl => simp at hl; omega
 ·exact hagg
theorem chunks_ok {sz : Nat} : ∀ {n : Nat} {l : List PV},n * sz ≤ l.length → (∀ c ∈ l,c.isCell = true ∧ c.untag1 = c) →
  (chunks sz n l).length = n ∧ (∀ x ∈ chunks sz n l,(x.isVal = true ∧ x.cells.length = sz) ∧ x.untag = x) ∧ (chunks sz n l).flatMap PV.cells = l.take (n * sz)
 | 0,l,_,_ => ⟨rfl,(fun x hx => by cases hx),by simp [chunks]⟩
 | n + 1,l,hl,hc => by
  rw [Nat.add_mul,Nat.one_mul] at hl
  obtain ⟨h1,h2,h3⟩ := chunks_ok (sz := sz) (n := n) (l := l.drop sz) (by simp; omega) (fun c h => hc c (List.mem_of_mem_drop h))
  have ht : (l.take sz).length = sz := by simp; omega
  obtain ⟨h4,h5,h6⟩ := mkc_ok ht fun c h => hc c (List.mem_of_mem_take h)
  refine ⟨by simp [chunks,h1],fun x hx => ?_,?_⟩
  ·rcases List.mem_cons.1 hx with rfl | hx
   ·exact ⟨⟨h4,by rw [h5,ht]⟩,h6⟩
   ·exact h2 x hx
  ·simp only [chunks,List.flatMap_cons,h5,h3]
   rw [Nat.add_mul,Nat.one_mul,Nat.add_comm (n * sz) sz,List.take_add]
theorem elp_cells {y : PV} (hx : y.isVal = true) (hu : y.untag = y) : ∀ c ∈ y.cells,c.isCell = true ∧ c.untag1 = c := by
 intro c hc
 refine ⟨isVal_cells hx c hc,?_⟩
 cases y with
 | agg cs =>
  simp only [PV.untag,PV.agg.injEq] at hu
  obtain ⟨j,hj⟩ := List.getElem?_of_mem hc
  simp only [PV.cells] at hj
  have := congrArg (fun l => l[j]?) hu
  simp only [List.getElem?_map,hj,Option.map_some,Option.some.injEq] at this
  exact this
 | tup => simp [PV.isVal,PV.isCell] at hx
 | _ => simp only [PV.cells,List.mem_singleton] at hc; subst hc; simpa only [PV.untag] using hu
theorem rsl_ok {t e : TypeId} {sz len : Nat} (hu' : P.underlying t = some (.array len e)) (hs : tySz P e = some sz) {own : Lvl} {m : Mem} {w : World} (hR : Rel g (own :: m) w) {x v : PV} {lo hi : Option PV} {rx : Value} {rlo rhi : Option Value} (hx : V g x rx)
  (hlo : OV g lo rlo) (hhi : OV g hi rhi) (hv : rslP own m sz len x lo hi = some v) : ∃ r,(Instr.sliceAt t rx rlo rhi none).run P w = .ok r w ∧ V g v r := by
 cases x with
 | ptr lv sl q off =>
  simp only [rslP] at hv
  split at hv
  ·rename_i cs hcs
   split at hv
   ·rename_i hle0
    simp only [Bool.and_eq_true,decide_eq_true_eq] at hle0
    obtain ⟨hle,hle63⟩ := hle0
    split at hv
    ·rename_i p hp
     cases hv
     cases hx with
     | ptr _ _ _ _ b o tt h =>
      obtain ⟨C,E,_,h2,h3,_⟩ := hR.hM _ _ _ _ _ _ h _ hcs
      obtain ⟨hrun,hb1,hb2⟩ := boundsP_ok (P := P) (b := false) hlo hhi hp (Nat.le_refl _) w
      refine ⟨.slice (some (if len = p.1 then ⟨b,o + off,none⟩ else (⟨b,o + off,none⟩ : Addr).add (p.1 * sz))) (p.2 - p.1) (len - p.1),?_,?_⟩
      ·simp [Instr.sliceAt,run_und hu',Instr.sureAddr,hrun,run_sizeOf hs]
      ·by_cases hcp : len = p.1
       ·rw [if_pos hcp]
        exact .slr lv sl q _ _ sz b o tt _ _ h (fun hne => by omega) ⟨by omega,by omega⟩
       ·rw [if_neg hcp,add_at]
        refine .slr lv sl q _ _ sz b o tt _ _ h (fun hne => ⟨by omega,?_⟩) ⟨by omega,by omega⟩
        have : p.1 * sz + (len - p.1) * sz = len * sz := by rw [← Nat.add_mul]; congr 1; omega
        omega
    ·cases hv
   ·cases hv
  ·cases hv
 | elp y off =>
  simp only [rslP] at hv
  split at hv
  ·rename_i hle0
   simp only [Bool.and_eq_true,decide_eq_true_eq] at hle0
   obtain ⟨hle,hle63⟩ := hle0
   split at hv
   ·rename_i p hp
    cases hv
    cases hx with
    | elp _ _ b base rv hx hu hG hV =>
     obtain ⟨hrun,hb1,hb2⟩ := boundsP_ok (P := P) (b := false) hlo hhi hp (Nat.le_refl _) w
     have hpl : p.1 * sz + (p.2 - p.1) * sz = p.2 * sz := by rw [← Nat.add_mul]; congr 1; omega
     have hp2 : p.2 * sz ≤ len * sz := Nat.mul_le_mul_right sz hb2
     obtain ⟨c1,c2,c3⟩ := chunks_ok (sz := sz) (n := p.2 - p.1) (l := y.cells.drop (off + p.1 * sz)) (by rw [List.length_drop]; omega) fun c hc => elp_cells hx hu c (List.mem_of_mem_drop hc)
     refine ⟨.slice (some (if len = p.1 then ⟨b,base + off,none⟩ else (⟨b,base + off,none⟩ : Addr).add (p.1 * sz))) (p.2 - p.1) (len - p.1),?_,?_⟩
     ·simp [Instr.sliceAt,run_und hu',Instr.sureAddr,hrun,run_sizeOf hs]
     ·by_cases hcp : len = p.1
      ·rw [if_pos hcp]
       have e0 : p.2 - p.1 = 0 := by omega
       rw [e0]
       simp only [chunks]
       have e1 : len - p.1 = 0 := by omega
       rw [e1]
       exact .emp sz _
      ·rw [if_neg hcp,add_at]
       have key : V g (.lst none false sz (chunks sz (p.2 - p.1) (y.cells.drop (off + p.1 * sz)))) (.slice (some ⟨b,base + off + p.1 * sz,none⟩) (chunks sz (p.2 - p.1) (y.cells.drop (off + p.1 * sz))).length (len - p.1)) := by
        refine .lst none sz _ b _ _ (fun j => rv (off + p.1 * sz + j)) (fun x hx => (c2 x hx).1) (fun x hx => (c2 x hx).2) (fun j hj => ?_) (fun j c hj => ?_) (by rw [c1]; omega)
        ·rw [c3,List.length_take,List.length_drop] at hj
         have := hG (off + p.1 * sz + j) (by omega)
         rw [show base + off + p.1 * sz + j = base + (off + p.1 * sz + j) by omega]
         exact this
        ·rw [c3,List.getElem?_take] at hj
         split at hj
         ·rw [List.getElem?_drop] at hj
          exact hV _ _ hj
         ·cases hj
       rw [c1] at key
       exact key
   ·cases hv
  ·cases hv
 | _ => simp [rslP] at hv
theorem slcs_ok {t : TypeId} (hu : P.underlying t = some .string) {x v : PV} {lo hi : Option PV} {rx : Value} {rlo rhi : Option Value} (hx : V g x rx)
  (hlo : OV g lo rlo) (hhi : OV g hi rhi) (hv : slcsP x lo hi = some v) (w : World) : ∃ r,(Instr.sliceAt t rx rlo rhi none).run P w = .ok r w ∧ V g v r := by
 cases x with
 | str s =>
  cases hx
  simp only [slcsP] at hv
  split at hv
  ·rename_i h l hh hl
   split at hv
   ·rename_i hb
    obtain ⟨hb1,hb2,hb3⟩ := hb
    cases hv
    exact ⟨_,by simp [Instr.sliceAt,run_und hu,Instr.slice,bounds_ok hlo hhi hh hl hb1 hb2 hb3],.str _⟩
   ·cases hv
  ·cases hv
 | _ => simp [slcsP] at hv
end
end Go.Proofs.Ytmffcpiffkclgaa.ZJM
