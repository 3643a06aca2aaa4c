/- Operations without an effect: what the machine's own operation answers stands for what the ideal one answers. -/
import Derived.Test.YtmffcpiffkclgaaZJ2
import Derived.Laws.Sem
import Derived.Laws.Entries
set_option linter.unusedSimpArgs false
set_option linter.unusedVariables false
namespace Go.Proofs.Ytmffcpiffkclgaa.ZJM
open Go.RowKit

section
variable {P : Program} {g : Gh}

def tyAg (P : Program) (t : TypeId) : Option Bool :=
  match P.underlying t with
  | some (.struct _) => some true
  | some (.array _ _) => some true
  | some _ => some false
  | none => none
def tySz (P : Program) (t : TypeId) : Option Nat := (P.info? t).map (·.size)

theorem run_sizeOf {t : TypeId} {n : Nat} (h : tySz P t = some n) (w : World) : (sizeOf t).run P w = .ok n w := by
  unfold tySz at h
  obtain ⟨i, hi, rfl⟩ := Option.map_eq_some_iff.1 h
  simp [sizeOf, typeInfo, hi]
theorem run_und {t : TypeId} {d : TypeDesc} (h : P.underlying t = some d) (w : World) : (underlying t).run P w = .ok d w := by
  simp [underlying, h]
theorem run_isAgg {t : TypeId} {b : Bool} (h : tyAg P t = some b) (w : World) : (isAgg t).run P w = .ok b w := by
  unfold tyAg at h
  cases hu : P.underlying t with
  | none => rw [hu] at h; cases h
  | some d =>
    rw [hu] at h
    simp only [isAgg, Sem.run_bind, run_und hu, Result.andThen_ok]
    cases d <;> simp_all

theorem add_at (b off j : Nat) : (⟨b, off, none⟩ : Addr).add j = ⟨b, off + j, none⟩ := by unfold Addr.add; split <;> simp_all

/-- A list's cells, one behind the other. -/
theorem flat_get {sz : Nat} : ∀ {xs : List PV}, (∀ x ∈ xs, x.isVal = true ∧ x.cells.length = sz) → ∀ (i : Nat) (x : PV), xs[i]? = some x → ∀ j, j < sz →
    (xs.flatMap PV.cells)[i * sz + j]? = x.cells[j]?
  | [], _, i, x, h, _, _ => by simp at h
  | y :: xs, hs, 0, x, h, j, hj => by
    simp only [List.getElem?_cons_zero, Option.some.injEq] at h
    subst h
    have hl := (hs y (by simp)).2
    rw [List.flatMap_cons, Nat.zero_mul, Nat.zero_add, List.getElem?_append_left (by omega)]
  | y :: xs, hs, i + 1, x, h, j, hj => by
    have hl := (hs y (by simp)).2
    rw [List.flatMap_cons, List.getElem?_append_right (by rw [hl, Nat.succ_mul]; omega), hl, Nat.succ_mul, show i * sz + sz + j - sz = i * sz + j by omega]
    exact flat_get (fun x hx => hs x (by simp [hx])) i x (by simpa using h) j hj
theorem flat_len {sz : Nat} : ∀ {xs : List PV}, (∀ x ∈ xs, x.isVal = true ∧ x.cells.length = sz) → (xs.flatMap PV.cells).length = xs.length * sz
  | [], _ => by simp
  | y :: xs, hs => by
    rw [List.flatMap_cons, List.length_append, (hs y (by simp)).2, flat_len fun x hx => hs x (by simp [hx]), List.length_cons, Nat.succ_mul]; omega

theorem isVal_cells {x : PV} (h : x.isVal = true) : ∀ c ∈ x.cells, c.isCell = true := by
  cases x <;> simp only [PV.cells] <;> first
    | (intro c hc; simp only [List.mem_singleton] at hc; subst hc; exact h)
    | (intro c hc; exact (List.all_eq_true.1 (by simpa [PV.isVal] using h)) c hc)

/-- A row of cells, known by pure values. -/
structure Cells (g : Gh) (w : World) (b off : Nat) (cs : List PV) (rv : Nat → Value) : Prop where
  at_ : ∀ j, j < cs.length → w.cell? ⟨b, off + j, none⟩ = some (rv j)
  isC : ∀ c ∈ cs, c.isCell = true
  v : ∀ j c, cs[j]? = some c → V g c (rv j)

theorem load_cells {w : World} {b base : Nat} {cs : List PV} {rv : Nat → Value} (h : Cells g w b base cs rv) {t : TypeId} {ag : Bool} {sz off : Nat}
    (ht : tyAg P t = some ag) (hs : tySz P t = some sz) {v : PV} (hv : partP ag sz off cs = some v) :
    ∃ r, (loadVar t ⟨b, base + off, none⟩).run P w = .ok r w ∧ V g v r ∧ (∀ vs, r = .agg vs → ∀ j, j < sz → vs.getD j undef = rv (off + j)) ∧ (ag = false → r = rv off) := by
  cases ag with
  | true =>
    simp only [partP] at hv
    split at hv
    · rename_i hle
      cases hv
      have hr : (loadCells ⟨b, base + off, none⟩ sz).run P w = .ok ((List.range sz).map fun j => rv (off + j)).toArray w :=
        run_loadCells w _ sz _ fun j hj => by rw [add_at, Nat.add_assoc]; exact h.at_ (off + j) (by omega)
      refine ⟨.agg ((List.range sz).map fun j => rv (off + j)).toArray, ?_, ?_, ?_, fun h => by cases h⟩
      · simp only [loadVar, Sem.run_bind, run_isAgg ht, Result.andThen_ok, if_true, run_sizeOf hs, hr]; rfl
      · refine .agg _ _ (by simp; omega) (fun c hc => h.isC c (List.mem_of_mem_drop (List.mem_of_mem_take hc))) fun j c hj => ?_
        have hj' : j < sz := by
          have := (List.getElem?_eq_some_iff.1 hj).1
          simp only [List.length_take] at this; omega
        rw [List.getElem?_take_of_lt hj', List.getElem?_drop] at hj
        have := h.v (off + j) c hj
        simpa [hj'] using this
      · intro vs hvs j hj
        cases hvs
        simp [hj]
    · cases hv
  | false =>
    simp only [partP] at hv
    have hlt := (List.getElem?_eq_some_iff.1 hv).1
    refine ⟨rv off, ?_, h.v off v hv, ?_, fun _ => rfl⟩
    · simp only [loadVar, Sem.run_bind, run_isAgg ht, Result.andThen_ok, Bool.false_eq_true, if_false, run_load, h.at_ off hlt]
    · intro vs hvs
      have h1 := (h.v off v hv).vcell (h.isC v (getElem?_mem' hv))
      rw [hvs] at h1
      cases h1

/-- A struct's or an array's part. -/
theorem part_agg {cs : List PV} {vs : Array Value} (h : V g (.agg cs) (.agg vs)) {t : TypeId} {ag : Bool} {sz off : Nat}
    (ht : tyAg P t = some ag) (hs : tySz P t = some sz) {v : PV} (hv : partP ag sz off cs = some v) (w : World) :
    ∃ r, (part t vs off).run P w = .ok r w ∧ V g v r := by
  cases h with
  | agg _ _ hn hc hV =>
  cases ag with
  | true =>
    simp only [partP] at hv
    split at hv
    · rename_i hle
      cases hv
      refine ⟨.agg (vs.extract off (off + sz)), by simp [part, run_isAgg ht, run_sizeOf hs], .agg _ _ (by simp; omega) (fun c hc' => hc c (List.mem_of_mem_drop (List.mem_of_mem_take hc'))) fun j c hj => ?_⟩
      have hj' : j < sz := by
        have := (List.getElem?_eq_some_iff.1 hj).1
        simp only [List.length_take] at this; omega
      rw [List.getElem?_take_of_lt hj', List.getElem?_drop] at hj
      have h1 := hV (off + j) c hj
      have h2 : off + j < vs.size := by have := (List.getElem?_eq_some_iff.1 hj).1; omega
      have h3 : j < min (off + sz) vs.size - off := by omega
      simp only [Array.getD_eq_getD_getElem?] at h1 ⊢
      rw [Array.getElem?_extract_of_lt (by omega), ← Array.getElem?_eq_getElem h2]
      exact h1
    · cases hv
  | false =>
    simp only [partP] at hv
    have hlt : off < vs.size := by have := (List.getElem?_eq_some_iff.1 hv).1; omega
    have h1 := hV off v hv
    refine ⟨vs[off], by simp [part, run_isAgg ht, hlt], ?_⟩
    simpa [hlt] using h1

theorem Rel.cellsG {m : Mem} {w : World} (hR : Rel g m w) {x : PV} {b base : Nat} {rv : Nat → Value} (hx : x.isVal = true) (hG : ∀ j, j < x.cells.length → g.G b (base + j) = some (rv j))
    (hV : ∀ j c, x.cells[j]? = some c → V g c (rv j)) : Cells g w b base x.cells rv :=
  ⟨fun j hj => (hR.hG _ _ _ (hG j hj)).1, isVal_cells hx, hV⟩
theorem outC_V {lv sl : Nat} {p : Path} {j : Nat} {c u : PV} {rv : Value} (h : MC g lv sl p j c rv) (hu : outC lv sl p j c = some u) : u.isCell = true ∧ V g u rv ∧ u.untag1 = u := by
  cases c with
  | vec ver n sz cs =>
    obtain ⟨b, o, t, o', c, h1, rfl, h3, h4, h5⟩ := h
    simp only [outC, Option.some.injEq] at hu; subst hu
    exact ⟨rfl, .slr lv sl _ 0 n sz b o t o' c h1 (fun hc => by obtain ⟨h6, h7⟩ := h4 hc; subst h6; exact ⟨rfl, h7⟩) h3, rfl⟩
  | vnil ver sz =>
    have h' : rv = .slice none 0 0 := h
    subst h'
    simp only [outC, Option.some.injEq] at hu; subst hu
    exact ⟨rfl, .nil none sz, rfl⟩
  | vfrz ver sz xs => simp only [outC, Option.some.injEq] at hu; subst hu; exact ⟨rfl, h.2, rfl⟩
  | gone => simp [outC] at hu
  | lrec => simp [outC] at hu
  | _ => simp only [outC, Option.some.injEq] at hu; subst hu; exact ⟨h.1, h.2.2.2, h.2.1⟩
theorem outCs_spec {lv sl : Nat} {p : Path} : ∀ {l us : List PV} {j : Nat}, outCs lv sl p j l = some us → us.length = l.length ∧ ∀ (i : Nat) (u : PV), us[i]? = some u → ∃ c, l[i]? = some c ∧ outC lv sl p (j + i) c = some u
  | [], us, j, h => by simp only [outCs, Option.some.injEq] at h; subst h; exact ⟨rfl, fun i u hi => by simp at hi⟩
  | c :: l, us, j, h => by
    simp only [outCs] at h
    split at h
    · rename_i c' r' h1 h2
      cases h
      obtain ⟨h3, h4⟩ := outCs_spec h2
      refine ⟨by simp [h3], fun i u hi => ?_⟩
      cases i with
      | zero => simp only [List.getElem?_cons_zero, Option.some.injEq] at hi; subst hi; exact ⟨c, rfl, h1⟩
      | succ i =>
        obtain ⟨c2, h5, h6⟩ := h4 i u (by simpa using hi)
        exact ⟨c2, by simpa using h5, by rw [show j + (i + 1) = j + 1 + i by omega]; exact h6⟩
    · cases h
/-- A row's part, read. -/
theorem Rel.row {m : Mem} {w : World} (hR : Rel g m w) {lv sl b o t : Nat} {p : Path} (hb : g.blk lv sl p = some (b, o, t)) {cs : List PV} (hc : mget m lv sl p = some cs) {off n : Nat} (hle : off + n ≤ cs.length) {us : List PV} (hu : outCs lv sl p off ((cs.drop off).take n) = some us) :
    ∃ C E, w.heap[b]? = some (.cells C E (0, 0)) ∧ Cells g w b (o + off) us (fun j => C.getD (o + off + j) undef) ∧ us.length = n ∧ (∀ u ∈ us, u.untag1 = u) ∧ C.size = t ∧ o + cs.length ≤ t := by
  obtain ⟨C, E, h1, h2, h3, h4, h5⟩ := hR.hM _ _ _ _ _ _ hb _ hc
  obtain ⟨h6, h7⟩ := outCs_spec hu
  have hl : us.length = n := by rw [h6]; simp; omega
  have key : ∀ (j : Nat) (u : PV), us[j]? = some u → u.isCell = true ∧ V g u (C.getD (o + off + j) undef) ∧ u.untag1 = u := by
    intro j u hj
    obtain ⟨c, h8, h9⟩ := h7 j u hj
    have hlt : j < n := by rw [← hl]; exact (List.getElem?_eq_some_iff.1 hj).1
    rw [List.getElem?_take_of_lt hlt, List.getElem?_drop] at h8
    have := outC_V (h4 _ c h8) h9
    rwa [← Nat.add_assoc] at this
  refine ⟨C, E, h1, ⟨fun j hj => ?_, fun u hu' => ?_, fun j u hj => (key j u hj).2.1⟩, hl, fun u hu' => ?_, h2, h3⟩
  · simp only [World.cell?, h1]
    have : o + off + j < C.size := by omega
    simp [this]
  · obtain ⟨j, hj⟩ := List.getElem?_of_mem hu'
    exact (key j u hj).1
  · obtain ⟨j, hj⟩ := List.getElem?_of_mem hu'
    exact (key j u hj).2.2
/-- load, of a variable. -/
theorem load_row {m : Mem} {w : World} (hR : Rel g m w) {lv sl b o tt : Nat} {p : Path} (hb : g.blk lv sl p = some (b, o, tt)) {cs : List PV} (hc : mget m lv sl p = some cs) {t : TypeId} {ag : Bool} {sz off : Nat}
    (ht : tyAg P t = some ag) (hs : tySz P t = some sz) {v : PV} (hv : rowP lv sl p ag sz off cs = some v) : ∃ r, (loadVar t ⟨b, o + off, none⟩).run P w = .ok r w ∧ V g v r ∧ v.untag = v ∧ v.isVal = true := by
  cases ag with
  | true =>
    simp only [rowP] at hv
    split at hv
    · rename_i hle
      split at hv
      · rename_i us hus
        cases hv
        obtain ⟨C, E, _, hC, hl, hun, _⟩ := hR.row hb hc hle hus
        obtain ⟨r, h1, h2, _⟩ := load_cells hC (off := 0) ht hs (v := .agg us) (by simp only [partP]; rw [if_pos (by omega), List.drop_zero, List.take_of_length_le (by omega)])
        refine ⟨r, h1, h2, ?_, by simp only [PV.isVal, List.all_eq_true]; exact hC.isC⟩
        simp only [PV.untag, PV.agg.injEq]
        exact (List.map_congr_left hun).trans (List.map_id _)
      · cases hv
    · cases hv
  | false =>
    simp only [rowP] at hv
    split at hv
    · rename_i c hcc
      have hlt := (List.getElem?_eq_some_iff.1 hcc).1
      have hd : (cs.drop off).take 1 = [c] := by
        refine List.ext_getElem? fun j => ?_
        cases j with
        | zero => simp [hcc]
        | succ j => rw [List.getElem?_eq_none (by simp; omega), List.getElem?_eq_none (by simp)]
      obtain ⟨C, E, _, hC, _, hun, _⟩ := hR.row hb hc (off := off) (n := 1) (by omega) (us := [v]) (by rw [hd]; simp only [outCs, hv])
      obtain ⟨r, h1, h2, _⟩ := load_cells hC (off := 0) ht hs (v := v) rfl
      have h3 := hun v (by simp)
      have h4 := hC.isC v (by simp)
      exact ⟨r, h1, h2, by cases v <;> first | exact h3 | (simp [PV.isCell] at h4), by cases v <;> first | exact h4 | (simp [PV.isCell] at h4)⟩
    · cases hv

/-- An address moved on. -/
theorem addP_ok {n : Nat} {x v : PV} {rx : Value} (hx : V g x rx) (hv : addP n x = some v) : ∃ b o, rx = .pointer (some ⟨b, o, none⟩) ∧ V g v (.pointer (some ⟨b, o + n, none⟩)) := by
  cases x with
  | ptr l s p off =>
    cases hx with
    | ptr _ _ _ _ b o t hb =>
    simp only [addP, Option.some.injEq] at hv; subst hv
    exact ⟨b, o + off, rfl, by rw [Nat.add_assoc]; exact .ptr _ _ _ _ b o t hb⟩
  | elp y o =>
    cases hx with
    | elp _ _ b base rv hx hu hG hV =>
    simp only [addP, Option.some.injEq] at hv; subst hv
    exact ⟨b, base + o, rfl, by rw [Nat.add_assoc]; exact .elp y (o + n) b base rv hx hu hG hV⟩
  | _ => simp [addP] at hv

theorem fadr_ok {s : TypeId} {fields : Array Field} {i : Nat} {f : Field} {sz : Nat} (hu : P.underlying s = some (.struct fields)) (hf : fields[i]? = some f)
    (hs : tySz P f.type = some sz) (h0 : sz ≠ 0) {x v : PV} {rx : Value} (hx : V g x rx) (hv : addP f.offset x = some v) (w : World) :
    ∃ r, (Instr.fieldAt s rx i).run P w = .ok r w ∧ V g v r := by
  obtain ⟨b, o, rfl, h⟩ := addP_ok hx hv
  refine ⟨_, ?_, h⟩
  simp [Instr.fieldAt, run_und hu, hf, Instr.sureAddr, fieldPlace, run_sizeOf hs, h0, add_at]

theorem ladr_ok {t e : TypeId} {sz : Nat} (hu : P.underlying t = some (.slice e)) (hs : tySz P e = some sz) {x i v : PV} {rx ri : Value} (hx : V g x rx) (hi : V g i ri)
    (hv : ladrP sz x i = some v) (w : World) : ∃ r, (Instr.indexAt t rx ri).run P w = .ok r w ∧ V g v r := by
  cases x with
  | lst o nl sz' xs =>
    cases i with
    | int k n =>
      cases hi
      simp only [ladrP] at hv
      split at hv
      · rename_i h0
        split at hv
        · rename_i x hx'
          split at hv
          · rename_i hsz
            have hsz' := beq_iff_eq.1 hsz
            subst hsz'
            cases hv
            have hlt := (List.getElem?_eq_some_iff.1 hx').1
            cases hx with
            | nil => simp at hlt
            | emp => simp at hlt
            | lst _ _ _ b off cap rv hs' hu' hG hV hc =>
              have hn : n < (xs.length : Int) := by omega
              have hxm := hs' x (getElem?_mem' hx')
              refine ⟨.pointer (some ⟨b, off + n.toNat * sz + 0, none⟩), ?_, .elp x 0 b (off + n.toNat * sz) (fun j => rv (n.toNat * sz + j)) hxm.1 (hu' x (getElem?_mem' hx')) (fun j hj => ?_) fun j c hj => ?_⟩
              · simp [Instr.indexAt, asIntOf, run_und hu, h0, hn, run_sizeOf hs, add_at]
              · rw [Nat.add_assoc]
                refine hG _ ?_
                rw [flat_len hs']
                have := Nat.mul_le_mul_right sz (show n.toNat + 1 ≤ xs.length by omega)
                rw [Nat.succ_mul] at this
                omega
              · have hj' : j < sz := by have := (List.getElem?_eq_some_iff.1 hj).1; omega
                exact hV _ c (by rw [flat_get hs' n.toNat x hx' j hj']; exact hj)
          · cases hv
        · cases hv
      · cases hv
    | _ => simp [ladrP] at hv
  | slr lv sl p off n' sz' =>
    cases i with
    | int k n =>
      cases hi
      simp only [ladrP] at hv
      split at hv
      · rename_i h0
        split at hv
        · rename_i hlt
          split at hv
          · cases hv
            cases hx with
            | slr _ _ _ _ _ _ b o tt off' c h ho hc =>
              have hn0 : c ≠ 0 := by omega
              obtain ⟨this, _⟩ := ho hn0
              subst this
              exact ⟨.pointer (some ⟨b, o + off + n.toNat * sz, none⟩), by simp [Instr.indexAt, asIntOf, run_und hu, h0, hlt, run_sizeOf hs, add_at], by rw [Nat.add_assoc]; exact .ptr lv sl p _ b o tt h⟩
          · cases hv
        · cases hv
      · cases hv
    | _ => simp [ladrP] at hv
  | _ => simp [ladrP] at hv

theorem aadr_ok {t e : TypeId} {len sz : Nat} (hu : P.underlying t = some (.array len e)) (hs : tySz P e = some sz) {x i v : PV} {rx ri : Value} (hx : V g x rx) (hi : V g i ri)
    (hv : aadrP sz len x i = some v) (w : World) : ∃ r, (Instr.indexAt t rx ri).run P w = .ok r w ∧ V g v r := by
  cases i with
  | int k n =>
    cases hi
    simp only [aadrP, asI] at hv
    split at hv
    · rename_i h0
      split at hv
      · rename_i h1
        obtain ⟨b, o, rfl, h⟩ := addP_ok hx hv
        exact ⟨_, by simp [Instr.indexAt, asIntOf, run_und hu, Instr.sureAddr, h0, h1, run_sizeOf hs, add_at], h⟩
      · cases hv
    · cases hv
  | _ => simp [aadrP, asI] at hv

theorem ixs_ok {t : TypeId} (hu : P.underlying t = some .string) {x i v : PV} {rx ri : Value} (hx : V g x rx) (hi : V g i ri)
    (hv : ixsP x i = some v) (w : World) : ∃ r, (Instr.index t rx ri).run P w = .ok r w ∧ V g v r := by
  cases x with
  | str s =>
    cases i with
    | int k n =>
      cases hi
      cases hx
      simp only [ixsP] at hv
      split at hv
      · rename_i h0
        split at hv
        · rename_i b hb
          cases hv
          exact ⟨_, by simp [Instr.index, asIntOf, run_und hu, h0, hb], .int _ _⟩
        · cases hv
      · cases hv
    | _ => simp [ixsP] at hv
  | _ => simp [ixsP] at hv
theorem i2i_ok {src dst : TypeId} {k k0 : IntKind} (hs : P.underlying src = some (.int k0)) (hd : P.underlying dst = some (.int k)) {x v : PV} {rx : Value} (hx : V g x rx) (hv : i2iP k x = some v) (w : World) :
    ∃ r, (convert src dst rx).run P w = .ok r w ∧ V g v r := by
  cases x with
  | int k' n =>
    cases hx
    simp only [i2iP, Option.some.injEq] at hv; subst hv
    exact ⟨_, by simp [convert, run_und hs, run_und hd, Conv.intToInt], .int _ _⟩
  | _ => simp [i2iP] at hv
theorem un_ok {u : UnOp} {x v : PV} {rx : Value} (hx : V g x rx) (hv : unP u x = some v) (w : World) : ∃ r, (Op.unary u rx).run P w = .ok r w ∧ V g v r := by
  cases x with
  | int k n =>
    cases hx
    cases u <;> simp only [unP, Option.some.injEq] at hv <;> first
      | (subst hv; exact ⟨_, by simp [Op.unary, Op.intArith, Op.intBits, intBits], .int _ _⟩)
      | cases hv
  | bool b =>
    cases hx
    cases u <;> simp only [unP, Option.some.injEq] at hv <;> first
      | (subst hv; exact ⟨_, by simp [Op.unary], .bool _⟩)
      | cases hv
  | _ => simp [unP] at hv
theorem bin_ok {b : BinOp} {t : TypeId} {ox oy : Operand} {x y v : PV} {rx ry : Value} (hx : V g x rx) (hy : V g y ry) (hv : binP b x y = some v) (w : World) :
    ∃ r, (do eqGuard b t ox oy rx ry; binOp b t rx ry : Sem Value).run P w = .ok r w ∧ V g v r := by
  cases x with
  | int k n =>
    cases y with
    | int k' n' =>
      cases hx; cases hy
      simp only [binP] at hv
      split at hv
      · rename_i hk
        by_cases hkk : k = k'
        · subst hkk
          cases b <;> simp only [binI] at hv
          case quo => split at hv <;> cases hv; rename_i h0; exact ⟨_, by simp [eqGuard, binOp, Op.intDiv, h0], .int _ _⟩
          case rem => split at hv <;> cases hv; rename_i h0; exact ⟨_, by simp [eqGuard, binOp, Op.intDiv, h0], .int _ _⟩
          case shl => split at hv <;> cases hv; rename_i h0; exact ⟨_, by simp [eqGuard, binOp, Op.shift, h0], .int _ _⟩
          case shr => split at hv <;> cases hv; rename_i h0; exact ⟨_, by simp [eqGuard, binOp, Op.shift, h0], .int _ _⟩
          all_goals (cases hv; first
            | (refine ⟨_, ?_, .int _ _⟩; simp [eqGuard, binOp, Op.intArith, Op.intBits, Op.intCmp, intBits]; done)
            | (refine ⟨_, ?_, .bool _⟩; simp [eqGuard, binOp, Op.intArith, Op.intBits, Op.intCmp, intBits]; done))
        · cases b <;> simp [hkk, shiftOp] at hk <;> simp only [binI] at hv
          case shl => split at hv <;> cases hv; rename_i h0; exact ⟨_, by simp [eqGuard, binOp, Op.shift, h0], .int _ _⟩
          case shr => split at hv <;> cases hv; rename_i h0; exact ⟨_, by simp [eqGuard, binOp, Op.shift, h0], .int _ _⟩
      · cases hv
    | _ => simp [binP] at hv
  | str s =>
    cases y with
    | str s' =>
      cases hx; cases hy
      simp only [binP] at hv
      cases b <;> simp only [binS] at hv <;> first
        | (cases hv; done)
        | (split at hv <;> cases hv; rename_i h0; exact ⟨_, by
            have h1 : (s.size : Int) + s'.size ≤ 9223372036854775807 := by unfold maxBytes at h0; omega
            simp [eqGuard, binOp, Op.stringOp, IntKind.max, IntKind.signed, IntKind.bits, h1], .str _⟩)
        | (cases hv; exact ⟨_, by simp [eqGuard, binOp, Op.stringOp], .bool _⟩)
    | _ => simp [binP] at hv
  | _ => simp [binP] at hv
theorem run_equalIn_bool {t : TypeId} (hu : P.underlying t = some .bool) (d : Nat) (a b : Bool) (w : World) : (Op.equalIn (d + 1) t (.bool a) (.bool b)).run P w = .ok (a == b) w := by
  simp [Op.equalIn, run_und hu]
theorem run_equal_bool {t : TypeId} (hu : P.underlying t = some .bool) (a b : Bool) (w : World) : (Op.equal t (.bool a) (.bool b)).run P w = .ok (a == b) w :=
  run_equalIn_bool hu 9999 a b w
theorem beq_ok {neg : Bool} {t : TypeId} (hu : P.underlying t = some .bool) {ox oy : Operand} {x y v : PV} {rx ry : Value} (hx : V g x rx) (hy : V g y ry) (hv : beqP neg x y = some v) (w : World) :
    ∃ r, (do eqGuard (if neg then .neq else .eql) t ox oy rx ry; binOp (if neg then .neq else .eql) t rx ry : Sem Value).run P w = .ok r w ∧ V g v r := by
  cases x with
  | bool a =>
    cases y with
    | bool b =>
      cases hx; cases hy
      simp only [beqP, Option.some.injEq] at hv; subst hv
      cases neg <;> (refine ⟨_, ?_, .bool _⟩; simp [eqGuard, binOp, run_equal_bool hu])
    | _ => simp [beqP] at hv
  | _ => simp [beqP] at hv
end
end Go.Proofs.Ytmffcpiffkclgaa.ZJM
