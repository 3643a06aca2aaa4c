/- '==' of two structs or arrays, part by part. -/
import Derived.Test.YtmffcpiffkclgaaZJ3
import Derived.Laws.StructEq
set_option linter.unusedSimpArgs false
set_option linter.unusedVariables false
namespace Go.Proofs.Ytmffcpiffkclgaa.ZJM
open Go.RowKit

def shiftL (o : Nat) (l : List (Nat × Nat)) : List (Nat × Nat) := l.map fun p => (o + p.1, p.2)
def belowL (sz : Nat) (l : List (Nat × Nat)) : Bool := l.all fun p => decide (p.1 < sz)
def eqFs (P : Program) (E : TypeId → Option (List (Nat × Nat))) : List Field → Option (List (Nat × Nat))
  | [] => some []
  | f :: fs => if f.name = "_" then eqFs P E fs else match tySz P f.type, tyAg P f.type, E f.type, eqFs P E fs with
    | some sz, some _, some l, some r => if belowL sz l = true then some (shiftL f.offset l ++ r) else none
    | _, _, _, _ => none
def eqAr (sz : Nat) (l : List (Nat × Nat)) : Nat → List Nat → List (Nat × Nat)
  | _, [] => []
  | s, i :: r => shiftL (i * sz) l ++ eqAr sz l s r
/-- The places of what is compared. -/
def eqLv (P : Program) : Nat → TypeId → Option (List (Nat × Nat))
  | 0, _ => none
  | d + 1, t => match P.underlying t with
    | some (.int _) => some [(0, 0)]
    | some .bool => some [(0, 1)]
    | some .string => some [(0, 2)]
    | some (.struct fs) => if P.stoodInHeld t = true then none else eqFs P (eqLv P d) fs.toList
    | some (.array n e) => match tySz P e, eqLv P d e, tyAg P e with
      | some sz, some l, some _ => if belowL sz l = true then some (eqAr sz l 0 (List.range' 0 n)) else none
      | _, _, _ => none
    | _ => none

theorem eqCs_append {xs ys : List PV} : ∀ {l r : List (Nat × Nat)} {b : Bool}, eqCs (l ++ r) xs ys = some b → ∃ c d, eqCs l xs ys = some c ∧ eqCs r xs ys = some d ∧ b = (c && d)
  | [], r, b, h => ⟨true, b, rfl, h, by simp⟩
  | p :: l, r, b, h => by
    simp only [List.cons_append, eqCs] at h ⊢
    split at h
    · rename_i x y hx hy
      split at h
      · rename_i b1 hb1
        split at h
        · rename_i c hc
          obtain ⟨c1, d1, h1, h2, rfl⟩ := eqCs_append hc
          cases h
          refine ⟨b1 && c1, d1, ?_, h2, by simp [Bool.and_assoc]⟩
          simp [hx, hy, hb1, h1]
        · cases h
      · cases h
    · cases h
theorem eqCs_shift {xs ys xs' ys' : List PV} {o : Nat} : ∀ {l : List (Nat × Nat)}, (∀ p ∈ l, xs'[p.1]? = xs[o + p.1]? ∧ ys'[p.1]? = ys[o + p.1]?) → eqCs (shiftL o l) xs ys = eqCs l xs' ys'
  | [], _ => rfl
  | p :: l, h => by
    have ih := eqCs_shift (o := o) (l := l) fun q hq => h q (List.mem_cons_of_mem _ hq)
    obtain ⟨h1, h2⟩ := h p List.mem_cons_self
    simp only [shiftL, List.map_cons, eqCs] at ih ⊢
    rw [h1, h2, ih]
theorem eqCs_some {xs ys : List PV} : ∀ {l : List (Nat × Nat)} {b : Bool}, eqCs l xs ys = some b → ∀ p ∈ l, ∃ x y, xs[p.1]? = some x ∧ ys[p.1]? = some y
  | [], _, _, p, hp => by cases hp
  | q :: l, b, h, p, hp => by
    simp only [eqCs] at h
    split at h
    · rename_i x y hx hy
      split at h
      · split at h
        · rename_i c hc
          rcases List.mem_cons.1 hp with rfl | hp
          · exact ⟨x, y, hx, hy⟩
          · exact eqCs_some hc p hp
        · cases h
      · cases h
    · cases h

section
variable {P : Program} {g : Gh}

/-- A value is a row of cells just where its type is. -/
def Shp (P : Program) (t : TypeId) (x : PV) : Prop := (tyAg P t = some true ∧ ∃ cs, x = .agg cs) ∨ (tyAg P t = some false ∧ x.isCell = true)
theorem eqB_int {x y : PV} {b : Bool} (h : eqB 0 x y = some b) : ∃ k m n, x = .int k m ∧ y = .int k n ∧ b = (m == n) := by
  cases x <;> cases y <;> simp only [eqB] at h <;> try (cases h; done)
  split at h
  · rename_i he
    have := beq_iff_eq.1 he
    subst this
    cases h
    exact ⟨_, _, _, rfl, rfl, rfl⟩
  · cases h
theorem eqB_bool {x y : PV} {b : Bool} (h : eqB 1 x y = some b) : ∃ m n, x = .bool m ∧ y = .bool n ∧ b = (m == n) := by
  cases x <;> cases y <;> simp only [eqB] at h <;> try (cases h; done)
  cases h
  exact ⟨_, _, rfl, rfl, rfl⟩
theorem eqB_str {x y : PV} {b : Bool} (h : eqB 2 x y = some b) : ∃ m n, x = .str m ∧ y = .str n ∧ b = (m == n) := by
  cases x <;> cases y <;> simp only [eqB] at h <;> try (cases h; done)
  cases h
  exact ⟨_, _, rfl, rfl, rfl⟩
theorem eqLv_flat {d : Nat} {t : TypeId} {l : List (Nat × Nat)} (h : eqLv P d t = some l) (ht : tyAg P t = some false) : ∃ k, l = [(0, k)] := by
  cases d with
  | zero => simp [eqLv] at h
  | succ d =>
    simp only [eqLv] at h
    simp only [tyAg] at ht
    split at h
    · cases h; exact ⟨_, rfl⟩
    · cases h; exact ⟨_, rfl⟩
    · cases h; exact ⟨_, rfl⟩
    · rename_i fs hu; rw [hu] at ht; cases ht
    · rename_i n e hu; rw [hu] at ht; cases ht
    · cases h
theorem part_run {cs : List PV} {vs : Array Value} (h : V g (.agg cs) (.agg vs)) {t : TypeId} {ag : Bool} (ht : tyAg P t = some ag) {sz off d : Nat} (hs : tySz P t = some sz) {l : List (Nat × Nat)} (hl : eqLv P d t = some l) (hb : belowL sz l = true)
    (hc : ∀ p ∈ shiftL off l, ∃ x, cs[p.1]? = some x) (w : World) :
    ∃ v r, (part t vs off).run P w = .ok r w ∧ V g v r ∧ Shp P t v ∧ ∀ p ∈ l, v.cells[p.1]? = cs[off + p.1]? := by
  cases h with
  | agg _ _ hn hcc hV =>
    cases ag with
    | true =>
      refine ⟨.agg ((cs.drop off).take sz), .agg (vs.extract off (off + sz)), by simp [part, run_isAgg ht, run_sizeOf hs], .agg _ _ (by simp; omega) (fun c hc' => hcc c (List.mem_of_mem_drop (List.mem_of_mem_take hc'))) (fun j c hj => ?_), .inl ⟨ht, _, rfl⟩, fun p hp => ?_⟩
      · rw [List.getElem?_take] at hj
        split at hj
        · rename_i hlt
          rw [List.getElem?_drop] at hj
          have := hV _ _ hj
          have hlt2 : off + j < vs.size := by have := (List.getElem?_eq_some_iff.1 hj).1; omega
          have hlt3 : j < (vs.extract off (off + sz)).size := by simp; omega
          rw [Array.getD_eq_getD_getElem?, Array.getElem?_eq_getElem hlt2] at this
          rw [Array.getD_eq_getD_getElem?, Array.getElem?_eq_getElem hlt3, Array.getElem_extract]
          exact this
        · cases hj
      · simp only [belowL, List.all_eq_true, decide_eq_true_eq] at hb
        simp [PV.cells, List.getElem?_take, hb p hp, List.getElem?_drop]
    | false =>
      obtain ⟨k, rfl⟩ := eqLv_flat hl ht
      obtain ⟨x, hx⟩ := hc (off + 0, k) (by simp [shiftL])
      simp only [Nat.add_zero] at hx
      have hcell := hcc x (List.mem_of_getElem? hx)
      obtain ⟨r, h1, h2⟩ := part_agg (.agg cs vs hn hcc hV) ht hs (v := x) (by simpa [partP] using hx) w
      refine ⟨x, r, h1, h2, .inr ⟨ht, hcell⟩, fun p hp => ?_⟩
      simp only [List.mem_singleton] at hp
      subst hp
      have : x.cells = [x] := by cases x <;> first | rfl | simp [PV.isCell] at hcell
      rw [this]; simp [hx]

def EqOk (P : Program) (g : Gh) (d : Nat) (t : TypeId) : Prop :=
  ∀ l x y rx ry b, eqLv P d t = some l → Shp P t x → Shp P t y → V g x rx → V g y ry → eqCs l x.cells y.cells = some b → ∀ D, d ≤ D → ∀ w, (Op.equalIn D t rx ry).run P w = .ok b w

theorem two_parts {d : Nat} {t : TypeId} (ih : EqOk P g d t) {cs ds : List PV} {vs us : Array Value} (hv : V g (.agg cs) (.agg vs)) (hu : V g (.agg ds) (.agg us)) {ag : Bool} (ht : tyAg P t = some ag) {sz off : Nat} (hs : tySz P t = some sz) {l : List (Nat × Nat)} (hl : eqLv P d t = some l) (hb : belowL sz l = true)
    {b : Bool} (hc : eqCs (shiftL off l) cs ds = some b) {D : Nat} (hD : d ≤ D) (w : World) : ∃ r r', (part t vs off).run P w = .ok r w ∧ (part t us off).run P w = .ok r' w ∧ (Op.equalIn D t r r').run P w = .ok b w := by
  obtain ⟨x, r, h1, h2, h3, h4⟩ := part_run hv ht hs hl hb (fun p hp => by obtain ⟨x, y, h, _⟩ := eqCs_some hc p hp; exact ⟨x, h⟩) w
  obtain ⟨y, r', h5, h6, h7, h8⟩ := part_run hu ht hs hl hb (fun p hp => by obtain ⟨x, y, _, h⟩ := eqCs_some hc p hp; exact ⟨y, h⟩) w
  refine ⟨r, r', h1, h5, ih l x y r r' b hl h3 h7 h2 h6 ?_ D hD w⟩
  rw [← eqCs_shift fun p hp => ⟨h4 p hp, h8 p hp⟩]
  exact hc

theorem eqFs_ok {d : Nat} (ih : ∀ t, EqOk P g d t) {cs ds : List PV} {vs us : Array Value} (hv : V g (.agg cs) (.agg vs)) (hu : V g (.agg ds) (.agg us)) {D : Nat} (hD : d ≤ D) (w : World) : ∀ {fs : List Field} {l : List (Nat × Nat)} {b : Bool}, eqFs P (eqLv P d) fs = some l → eqCs l cs ds = some b →
    (Op.eqFields D vs us fs).run P w = .ok b w
  | [], l, b, hl, hc => by
    simp only [eqFs, Option.some.injEq] at hl; subst hl
    simp only [eqCs, Option.some.injEq] at hc; subst hc
    simp [Op.eqFields]
  | f :: fs, l, b, hl, hc => by
    simp only [eqFs] at hl
    split at hl
    · rename_i hn
      simp only [Op.eqFields, hn, ne_eq, not_true_eq_false, if_false]
      exact eqFs_ok ih hv hu hD w hl hc
    · rename_i hn
      split at hl
      · rename_i sz ag l1 r hs ht h1 h2
        split at hl
        · rename_i hb
          cases hl
          obtain ⟨c, e, hc1, hc2, rfl⟩ := eqCs_append hc
          obtain ⟨q, q', h3, h4, h5⟩ := two_parts (ih f.type) hv hu ht hs h1 hb hc1 hD w
          have h6 := eqFs_ok ih hv hu hD w h2 hc2
          simp only [Op.eqFields, ne_eq, hn, not_false_eq_true, if_true, Sem.run_bind, h3, h4, h5, Result.andThen_ok]
          cases c
          · simp
          · simp [h6]
        · cases hl
      · cases hl

theorem eqAr_ok {d : Nat} {t : TypeId} (ih : EqOk P g d t) {cs ds : List PV} {vs us : Array Value} (hv : V g (.agg cs) (.agg vs)) (hu : V g (.agg ds) (.agg us)) {ag : Bool} (ht : tyAg P t = some ag) {sz : Nat} (hs : tySz P t = some sz) {l : List (Nat × Nat)} (hl : eqLv P d t = some l) (hb : belowL sz l = true)
    {D : Nat} (hD : d ≤ D) (w : World) : ∀ {is : List Nat} {b : Bool}, eqCs (eqAr sz l 0 is) cs ds = some b →
    (forIn is (none, ()) fun i (_ : Option Bool × Unit) => (do
        if (!(← Op.equalIn D t (← part t vs (i * sz)) (← part t us (i * sz)))) = true then pure (ForInStep.done (some false, ())) else pure (ForInStep.yield (none, ())) : Sem (ForInStep (Option Bool × Unit)))).run P w = .ok (if b = true then none else some false, ()) w
  | [], b, hc => by simp only [eqAr, eqCs, Option.some.injEq] at hc; subst hc; simp
  | i :: is, b, hc => by
    simp only [eqAr] at hc
    obtain ⟨c, e, hc1, hc2, rfl⟩ := eqCs_append hc
    obtain ⟨q, q', h3, h4, h5⟩ := two_parts ih hv hu ht hs hl hb hc1 hD w
    have h6 := eqAr_ok ih hv hu ht hs hl hb hD w hc2
    simp only [List.forIn_cons, Sem.run_bind, h3, h4, h5, Result.andThen_ok]
    cases c
    · simp
    · simpa using h6

theorem eq_ok : ∀ d t, EqOk P g d t
  | 0, t => fun l x y rx ry b hl => by simp [eqLv] at hl
  | d + 1, t => by
    intro l x y rx ry b hl hsx hsy hx hy hc D hD w
    obtain ⟨D, rfl⟩ : ∃ D', D = D' + 1 := ⟨D - 1, by omega⟩
    have flat : ∀ {k : Nat} {dd : TypeDesc}, P.underlying t = some dd → tyAg P t = some false → l = [(0, k)] → eqB k x y = some b := by
      intro k dd hu ht hl
      subst hl
      have cellx : x.cells = [x] := by rcases hsx with ⟨h, _⟩ | ⟨_, h⟩; rw [ht] at h; cases h; cases x <;> first | rfl | simp [PV.isCell] at h
      have celly : y.cells = [y] := by rcases hsy with ⟨h, _⟩ | ⟨_, h⟩; rw [ht] at h; cases h; cases y <;> first | rfl | simp [PV.isCell] at h
      rw [cellx, celly] at hc
      simp only [eqCs, List.getElem?_cons_zero] at hc
      split at hc
      · rename_i b1 hb1; cases hc; simpa using hb1
      · cases hc
    simp only [eqLv] at hl
    split at hl
    · rename_i k hu
      cases hl
      obtain ⟨k, m, n, rfl, rfl, rfl⟩ := eqB_int (flat hu (by simp [tyAg, hu]) rfl)
      cases hx; cases hy
      simp [Op.equalIn, run_und hu]
    · rename_i hu
      cases hl
      obtain ⟨m, n, rfl, rfl, rfl⟩ := eqB_bool (flat hu (by simp [tyAg, hu]) rfl)
      cases hx; cases hy
      simp [Op.equalIn, run_und hu]
    · rename_i hu
      cases hl
      obtain ⟨m, n, rfl, rfl, rfl⟩ := eqB_str (flat hu (by simp [tyAg, hu]) rfl)
      cases hx; cases hy
      simp [Op.equalIn, run_und hu]
    · rename_i fs hu
      split at hl
      · cases hl
      · rename_i hp
        have ht : tyAg P t = some true := by simp [tyAg, hu]
        obtain ⟨cs, rfl⟩ : ∃ cs, x = .agg cs := by rcases hsx with ⟨_, h⟩ | ⟨h, _⟩; exact h; rw [ht] at h; cases h
        obtain ⟨ds, rfl⟩ : ∃ cs, y = .agg cs := by rcases hsy with ⟨_, h⟩ | ⟨h, _⟩; exact h; rw [ht] at h; cases h
        obtain ⟨vs, rfl⟩ : ∃ vs, rx = .agg vs := by cases hx; exact ⟨_, rfl⟩
        obtain ⟨us, rfl⟩ : ∃ vs, ry = .agg vs := by cases hy; exact ⟨_, rfl⟩
        have hf : P.fieldsOf t = fs := by simp [Program.fieldsOf, hu]
        rw [run_equalIn_struct w D t vs us (by rw [hf]; exact hu) (by simpa using hp), hf]
        exact eqFs_ok (fun t => eq_ok d t) hx hy (by omega) w hl hc
    · rename_i n e hu
      split at hl
      · rename_i sz l1 ag hs h1 hta
        split at hl
        · rename_i hb
          cases hl
          have ht : tyAg P t = some true := by simp [tyAg, hu]
          obtain ⟨cs, rfl⟩ : ∃ cs, x = .agg cs := by rcases hsx with ⟨_, h⟩ | ⟨h, _⟩; exact h; rw [ht] at h; cases h
          obtain ⟨ds, rfl⟩ : ∃ cs, y = .agg cs := by rcases hsy with ⟨_, h⟩ | ⟨h, _⟩; exact h; rw [ht] at h; cases h
          obtain ⟨vs, rfl⟩ : ∃ vs, rx = .agg vs := by cases hx; exact ⟨_, rfl⟩
          obtain ⟨us, rfl⟩ : ∃ vs, ry = .agg vs := by cases hy; exact ⟨_, rfl⟩
          have key := eqAr_ok (eq_ok d e) hx hy hta hs h1 hb (D := D) (by omega) w hc
          simp only [Op.equalIn, Sem.run_bind, run_und hu, Result.andThen_ok, run_sizeOf hs, Std.Legacy.Range.forIn_eq_forIn_range', Std.Legacy.Range.size, Nat.sub_zero, Nat.add_sub_cancel, Nat.div_one] at key ⊢
          rw [key]
          cases b <;> simp
        · cases hl
      · cases hl
    · cases hl
end
end Go.Proofs.Ytmffcpiffkclgaa.ZJM
