/- What pure values stand for in a world; how that is carried along. -/
import Derived.Test.YtnagbdodcjlbjaaZJ1
import Derived.Below
import Derived.Laws.Cells
import Derived.Laws.IdiomCopy
import Derived.Laws.CopyRow
import Derived.Laws.NewBlocks
namespace Go.Proofs.Ytnagbdodcjlbjaa.ZJM
open Go.RowKit

/-- The ghost: cells that are never written again; where variables in memory, and rows in their cells, lie: a block, where in it, how many cells it has; where records of loops over functions lie. -/
structure Gh where
  G : Nat → Nat → Option Value
  blk : Nat → Nat → Path → Option (Nat × Nat × Nat)
  lp : Nat → Nat → Option (Nat × Loop)
  ok : FuncId → Nat → List Nat → Loop → Prop

def vcell : Value → Bool
  | .agg _ => false
  | .tuple _ => false
  | _ => true

inductive V (g : Gh) : PV → Value → Prop
  | bool (b : Bool) : V g (.bool b) (.bool b)
  | int (k : IntKind) (n : Int) : V g (.int k n) (.int k n)
  | str (s : ByteArray) : V g (.str s) (.string s)
  | nil (o : Option Nat) (sz : Nat) : V g (.lst o true sz []) (.slice none 0 0)
  | lst (o : Option Nat) (sz : Nat) (xs : List PV) (b off cap : Nat) (rv : Nat → Value) (hs : ∀ x ∈ xs, x.isVal = true ∧ x.cells.length = sz) (hu : ∀ x ∈ xs, x.untag = x)
      (hG : ∀ j, j < (xs.flatMap PV.cells).length → g.G b (off + j) = some (rv j))
      (hV : ∀ j c, (xs.flatMap PV.cells)[j]? = some c → V g c (rv j)) (hc : xs.length ≤ cap) :
      V g (.lst o false sz xs) (.slice (some ⟨b, off, none⟩) xs.length cap)
  | emp (sz : Nat) (a : Addr) : V g (.lst none false sz []) (.slice (some a) 0 0)
  | agg (cs : List PV) (vs : Array Value) (hn : cs.length = vs.size) (hc : ∀ c ∈ cs, c.isCell = true)
      (hV : ∀ j c, cs[j]? = some c → V g c (vs.getD j undef)) : V g (.agg cs) (.agg vs)
  | tup (cs : List PV) (vs : Array Value) (hn : cs.length = vs.size) (hV : ∀ j c, cs[j]? = some c → V g c (vs.getD j undef)) : V g (.tup cs) (.tuple vs)
  | nilp : V g .nilp (.pointer none)
  | ptr (lv sl : Nat) (p : Path) (off b o t : Nat) (h : g.blk lv sl p = some (b, o, t)) : V g (.ptr lv sl p off) (.pointer (some ⟨b, o + off, none⟩))
  | slr (lv sl : Nat) (p : Path) (off n sz b o t off' c : Nat) (h : g.blk lv sl p = some (b, o, t)) (ho : c ≠ 0 → off' = o + off ∧ off' + c * sz ≤ t) (hc : n ≤ c ∧ c ≤ 9223372036854775807) :
      V g (.slr lv sl p off n sz) (.slice (some ⟨b, off', none⟩) n c)
  | elp (x : PV) (off b base : Nat) (rv : Nat → Value) (hx : x.isVal = true) (hu : x.untag = x)
      (hG : ∀ j, j < x.cells.length → g.G b (base + j) = some (rv j))
      (hV : ∀ j c, x.cells[j]? = some c → V g c (rv j)) : V g (.elp x off) (.pointer (some ⟨b, base + off, none⟩))
  | fn (f : FuncId) (cap : List PV) (vs : Array Value) (hn : cap.length = vs.size) (hV : ∀ j c, cap[j]? = some c → V g c (vs.getD j undef)) :
      V g (.fn f cap) (.func (.func f) #[] vs)
  | rnd (f : FuncId) (i : Nat) (fs : List Nat) (cap : List PV) (lv sl l : Nat) (r : Loop) (h : g.lp lv sl = some (l, r)) (hok : g.ok f i fs r) (hn : cap.length = fs.length)
      (hV : ∀ (j : Nat) (c : PV) (s : Nat), cap[j]? = some c → fs[j]? = some s → V g c (r.tmps.getD s undef)) : V g (.rnd f i fs cap lv sl) (.func (.yield l) #[] #[])
  | nilfn : V g .nilfn .nilFunc
  | nilif : V g .nilif .nilIface
  | ifc (t : TypeId) (v : PV) (rv : Value) (h : V g v rv) : V g (.ifc t v) (.iface t rv)
  | und : V g .und undef

theorem V.vcell {g : Gh} {c : PV} {rv : Value} (h : V g c rv) (hc : c.isCell = true) : vcell rv = true := by
  cases h <;> first | rfl | (simp [PV.isCell] at hc)

/-- More is known. -/
structure Gh.le (g g' : Gh) : Prop where
  G : ∀ b o v, g.G b o = some v → g'.G b o = some v
  blk : ∀ l s p x, g.blk l s p = some x → g'.blk l s p = some x
  lp : ∀ l s x, g.lp l s = some x → g'.lp l s = some x
  ok : g'.ok = g.ok
theorem Gh.le.refl (g : Gh) : g.le g := ⟨fun _ _ _ h => h, fun _ _ _ _ h => h, fun _ _ _ h => h, rfl⟩
theorem Gh.le.trans {a b c : Gh} (h : a.le b) (k : b.le c) : a.le c := ⟨fun _ _ _ x => k.G _ _ _ (h.G _ _ _ x), fun _ _ _ _ x => k.blk _ _ _ _ (h.blk _ _ _ _ x), fun _ _ _ x => k.lp _ _ _ (h.lp _ _ _ x), k.ok.trans h.ok⟩

theorem V.mono {g g' : Gh} (hle : g.le g') {v : PV} {rv : Value} (h : V g v rv) : V g' v rv := by
  induction h with
  | bool b => exact .bool b
  | int k n => exact .int k n
  | str s => exact .str s
  | nil o sz => exact .nil o sz
  | lst o sz xs b off cap rv hs hu hG _ hc ih => exact .lst o sz xs b off cap rv hs hu (fun j hj => hle.G _ _ _ (hG j hj)) ih hc
  | emp sz a => exact .emp sz a
  | agg cs vs hn hc _ ih => exact .agg cs vs hn hc ih
  | tup cs vs hn _ ih => exact .tup cs vs hn ih
  | nilp => exact .nilp
  | ptr lv sl p off b o t h => exact .ptr lv sl p off b o t (hle.blk _ _ _ _ h)
  | slr lv sl p off n sz b o t off' c h ho hc => exact .slr lv sl p off n sz b o t off' c (hle.blk _ _ _ _ h) ho hc
  | rnd f i fs cap lv sl l r h hok hn _ ih => exact .rnd f i fs cap lv sl l r (hle.lp _ _ _ h) (hle.ok ▸ hok) hn ih
  | elp x off b base rv hx hu hG _ ih => exact .elp x off b base rv hx hu (fun j hj => hle.G _ _ _ (hG j hj)) ih
  | fn f cap vs hn _ ih => exact .fn f cap vs hn ih
  | nilfn => exact .nilfn
  | nilif => exact .nilif
  | ifc t v rv _ ih => exact .ifc t v rv ih
  | und => exact .und

theorem deps_mem {n : Nat} : ∀ {l : List PV}, PV.deps n l = true → ∀ x ∈ l, x.dep n = true
  | [], _, _, h => by cases h
  | y :: l, h, x, hx => by
    simp only [PV.deps, Bool.and_eq_true] at h
    rcases List.mem_cons.1 hx with rfl | hx
    · exact h.1
    · exact deps_mem h.2 x hx
theorem deps_of_mem {n : Nat} : ∀ {l : List PV}, (∀ x ∈ l, x.dep n = true) → PV.deps n l = true
  | [], _ => rfl
  | y :: l, h => by simp only [PV.deps, Bool.and_eq_true]; exact ⟨h y (by simp), deps_of_mem fun x hx => h x (by simp [hx])⟩
theorem okns_mem {n : Nat} {ks ts : List Nat} : ∀ {l : List PV}, PV.okns n ks ts l = true → ∀ x ∈ l, x.okn n ks ts = true
  | [], _, _, h => by cases h
  | y :: l, h, x, hx => by
    simp only [PV.okns, Bool.and_eq_true] at h
    rcases List.mem_cons.1 hx with rfl | hx
    · exact h.1
    · exact okns_mem h.2 x hx
theorem cells_dep {n : Nat} {x : PV} (h : x.dep n = true) : ∀ c ∈ x.cells, c.dep n = true := by
  cases x <;> simp only [PV.cells] <;> first
    | (intro c hc; simp only [List.mem_singleton] at hc; subst hc; exact h)
    | exact deps_mem (by simpa [PV.dep] using h)
theorem cells_okn {n : Nat} {ks ts : List Nat} {x : PV} (h : x.okn n ks ts = true) : ∀ c ∈ x.cells, c.okn n ks ts = true := by
  cases x <;> simp only [PV.cells] <;> first
    | (intro c hc; simp only [List.mem_singleton] at hc; subst hc; exact h)
    | exact okns_mem (by simpa [PV.okn] using h)
theorem dep_of_cells {n : Nat} {x : PV} (h : ∀ c ∈ x.cells, c.dep n = true) : x.dep n = true := by
  cases x <;> simp only [PV.cells] at h <;> first
    | exact h _ (by simp)
    | (simp only [PV.dep]; exact deps_of_mem h)
mutual
theorem dep_mono {n m : Nat} (h : n ≤ m) : ∀ v : PV, v.dep n = true → v.dep m = true
  | .lst _ _ _ xs, hd => by simp only [PV.dep] at hd ⊢; exact deps_mono h xs hd
  | .agg cs, hd => by simp only [PV.dep] at hd ⊢; exact deps_mono h cs hd
  | .tup vs, hd => by simp only [PV.dep] at hd ⊢; exact deps_mono h vs hd
  | .ptr lv _ _ _, hd => by simp only [PV.dep, decide_eq_true_eq] at hd ⊢; omega
  | .slr lv _ _ _ _ _, hd => by simp only [PV.dep, decide_eq_true_eq] at hd ⊢; omega
  | .vec _ _ _ cs, hd => by simp only [PV.dep] at hd ⊢; exact deps_mono h cs hd
  | .vfrz _ _ xs, hd => by simp only [PV.dep] at hd ⊢; exact deps_mono h xs hd
  | .elp x _, hd => by simp only [PV.dep] at hd ⊢; exact dep_mono h x hd
  | .fn _ cap, hd => by simp only [PV.dep] at hd ⊢; exact deps_mono h cap hd
  | .rnd _ _ _ cap lv _, hd => by simp only [PV.dep, Bool.and_eq_true, decide_eq_true_eq] at hd ⊢; exact ⟨by omega, deps_mono h cap hd.2⟩
  | .ifc _ v, hd => by simp only [PV.dep] at hd ⊢; exact dep_mono h v hd
  | .bool _, _ | .int _ _, _ | .str _, _ | .nilp, _ | .nilfn, _ | .nilif, _ | .und, _ | .vnil _ _, _ | .gone _ _, _ | .lrec _, _ => rfl
theorem deps_mono {n m : Nat} (h : n ≤ m) : ∀ vs : List PV, PV.deps n vs = true → PV.deps m vs = true
  | [], _ => rfl
  | v :: r, hd => by
    simp only [PV.deps, Bool.and_eq_true] at hd ⊢
    exact ⟨dep_mono h v hd.1, deps_mono h r hd.2⟩
end
theorem getElem?_mem' {α : Type} {l : List α} {j : Nat} {c : α} (h : l[j]? = some c) : c ∈ l := List.mem_of_getElem? h

/-- Names below level n alone are looked at. -/
theorem V.under {g g' : Gh} {n : Nat} (hG : ∀ b o v, g.G b o = some v → g'.G b o = some v) (hb : ∀ l s p, l < n → g'.blk l s p = g.blk l s p) (hr : ∀ l s, l < n → g'.lp l s = g.lp l s) (hk : g'.ok = g.ok) {v : PV} {rv : Value} (h : V g v rv) :
    v.dep n = true → V g' v rv := by
  induction h with
  | bool b => exact fun _ => .bool b
  | int k n => exact fun _ => .int k n
  | str s => exact fun _ => .str s
  | nil o sz => exact fun _ => .nil o sz
  | lst o sz xs b off cap rv hs hu hG' _ hc ih =>
    intro hd
    simp only [PV.dep] at hd
    refine .lst o sz xs b off cap rv hs hu (fun j hj => hG _ _ _ (hG' j hj)) (fun j c hj => ih j c hj ?_) hc
    obtain ⟨x, hx, hxc⟩ := List.mem_flatMap.1 (getElem?_mem' hj)
    exact cells_dep (deps_mem hd x hx) c hxc
  | emp sz a => exact fun _ => .emp sz a
  | agg cs vs hn hc _ ih => exact fun hd => .agg cs vs hn hc fun j c hj => ih j c hj (deps_mem (by simpa [PV.dep] using hd) c (getElem?_mem' hj))
  | tup cs vs hn _ ih => exact fun hd => .tup cs vs hn fun j c hj => ih j c hj (deps_mem (by simpa [PV.dep] using hd) c (getElem?_mem' hj))
  | nilp => exact fun _ => .nilp
  | ptr lv sl p off b o t h => exact fun hd => .ptr lv sl p off b o t (by rw [hb lv sl p (by simpa [PV.dep] using hd)]; exact h)
  | slr lv sl p off n sz b o t off' c h ho hc => exact fun hd => .slr lv sl p off n sz b o t off' c (by rw [hb lv sl p (by simpa [PV.dep] using hd)]; exact h) ho hc
  | rnd f i fs cap lv sl l r h hok hn _ ih =>
    intro hd
    simp only [PV.dep, Bool.and_eq_true, decide_eq_true_eq] at hd
    exact .rnd f i fs cap lv sl l r (by rw [hr lv sl hd.1]; exact h) (hk ▸ hok) hn fun j c s hj hs => ih j c s hj hs (deps_mem hd.2 c (getElem?_mem' hj))
  | elp x off b base rv hx hu hG' _ ih =>
    exact fun hd => .elp x off b base rv hx hu (fun j hj => hG _ _ _ (hG' j hj)) fun j c hj => ih j c hj (cells_dep (by simpa [PV.dep] using hd) c (getElem?_mem' hj))
  | fn f cap vs hn _ ih => exact fun hd => .fn f cap vs hn fun j c hj => ih j c hj (deps_mem (by simpa [PV.dep] using hd) c (getElem?_mem' hj))
  | nilfn => exact fun _ => .nilfn
  | nilif => exact fun _ => .nilif
  | ifc t v rv _ ih => exact fun hd => .ifc t v rv (ih (by simpa [PV.dep] using hd))
  | und => exact fun _ => .und
/-- Of level n the names among ks alone are looked at. -/
theorem V.among {g g' : Gh} {n : Nat} {ks ts : List Nat} (hG : ∀ b o v, g.G b o = some v → g'.G b o = some v)
    (hb : ∀ l s p, (l ≠ n ∨ ks.contains s = true) → g'.blk l s p = g.blk l s p) (hr : ∀ l s, (l ≠ n ∨ ks.contains s = true) → g'.lp l s = g.lp l s) (hk : g'.ok = g.ok) {v : PV} {rv : Value} (h : V g v rv) : v.okn n ks ts = true → V g' v rv := by
  induction h with
  | bool b => exact fun _ => .bool b
  | int k n => exact fun _ => .int k n
  | str s => exact fun _ => .str s
  | nil o sz => exact fun _ => .nil o sz
  | lst o sz xs b off cap rv hs hu hG' _ hc ih =>
    intro hd
    simp only [PV.okn, Bool.and_eq_true] at hd
    refine .lst o sz xs b off cap rv hs hu (fun j hj => hG _ _ _ (hG' j hj)) (fun j c hj => ih j c hj ?_) hc
    obtain ⟨x, hx, hxc⟩ := List.mem_flatMap.1 (getElem?_mem' hj)
    exact cells_okn (okns_mem hd.2 x hx) c hxc
  | emp sz a => exact fun _ => .emp sz a
  | agg cs vs hn hc _ ih => exact fun hd => .agg cs vs hn hc fun j c hj => ih j c hj (okns_mem (by simpa [PV.okn] using hd) c (getElem?_mem' hj))
  | tup cs vs hn _ ih => exact fun hd => .tup cs vs hn fun j c hj => ih j c hj (okns_mem (by simpa [PV.okn] using hd) c (getElem?_mem' hj))
  | nilp => exact fun _ => .nilp
  | ptr lv sl p off b o t h =>
    exact fun hd => .ptr lv sl p off b o t (by
      rw [hb lv sl p (by
        simp only [PV.okn, Bool.or_eq_true, bne_iff_ne] at hd
        exact hd)]
      exact h)
  | slr lv sl p off n' sz b o t off' c h ho hc =>
    exact fun hd => .slr lv sl p off n' sz b o t off' c (by
      rw [hb lv sl p (by
        simp only [PV.okn, Bool.or_eq_true, bne_iff_ne] at hd
        exact hd)]
      exact h) ho hc
  | rnd f i fs cap lv sl l r h hok hn _ ih =>
    intro hd
    simp only [PV.okn, Bool.and_eq_true, Bool.or_eq_true, bne_iff_ne] at hd
    exact .rnd f i fs cap lv sl l r (by rw [hr lv sl hd.1]; exact h) (hk ▸ hok) hn fun j c s hj hs => ih j c s hj hs (okns_mem hd.2 c (getElem?_mem' hj))
  | elp x off b base rv hx hu hG' _ ih =>
    exact fun hd => .elp x off b base rv hx hu (fun j hj => hG _ _ _ (hG' j hj)) fun j c hj => ih j c hj (cells_okn (by simpa [PV.okn] using hd) c (getElem?_mem' hj))
  | fn f cap vs hn _ ih => exact fun hd => .fn f cap vs hn fun j c hj => ih j c hj (okns_mem (by simpa [PV.okn] using hd) c (getElem?_mem' hj))
  | nilfn => exact fun _ => .nilfn
  | nilif => exact fun _ => .nilif
  | ifc t v rv _ ih => exact fun hd => .ifc t v rv (ih (by simpa [PV.okn] using hd))
  | und => exact fun _ => .und
/-- A value's names are names that are there. -/
theorem V.depAll {g : Gh} {n : Nat} (hb : ∀ l s p x, g.blk l s p = some x → l < n) (hr : ∀ l s x, g.lp l s = some x → l < n) {v : PV} {rv : Value} (h : V g v rv) : v.dep n = true := by
  induction h with
  | lst o sz xs b off cap rv hs hu hG' _ hc ih =>
    simp only [PV.dep]
    refine deps_of_mem fun x hx => dep_of_cells fun c hc => ?_
    obtain ⟨j, hj⟩ := List.getElem?_of_mem (List.mem_flatMap.2 ⟨x, hx, hc⟩)
    exact ih j c hj
  | agg cs vs hn hc _ ih =>
    simp only [PV.dep]
    exact deps_of_mem fun c hc => let ⟨j, hj⟩ := List.getElem?_of_mem hc; ih j c hj
  | tup cs vs hn _ ih =>
    simp only [PV.dep]
    exact deps_of_mem fun c hc => let ⟨j, hj⟩ := List.getElem?_of_mem hc; ih j c hj
  | ptr lv sl p off b o t h => simp only [PV.dep, decide_eq_true_eq]; exact hb _ _ _ _ h
  | slr lv sl p off n sz b o t off' c h ho hc => simp only [PV.dep, decide_eq_true_eq]; exact hb _ _ _ _ h
  | rnd f i fs cap lv sl l r h hok hn _ ih =>
    simp only [PV.dep, Bool.and_eq_true, decide_eq_true_eq]
    refine ⟨hr _ _ _ h, deps_of_mem fun c hc => ?_⟩
    obtain ⟨j, hj⟩ := List.getElem?_of_mem hc
    have hlt : j < fs.length := by rw [← hn]; exact (List.getElem?_eq_some_iff.1 hj).1
    exact ih j c fs[j] hj (List.getElem?_eq_getElem hlt)
  | elp x off b base rv hx hu hG' _ ih =>
    simp only [PV.dep]
    exact dep_of_cells fun c hc => let ⟨j, hj⟩ := List.getElem?_of_mem hc; ih j c hj
  | fn f cap vs hn _ ih =>
    simp only [PV.dep]
    exact deps_of_mem fun c hc => let ⟨j, hj⟩ := List.getElem?_of_mem hc; ih j c hj
  | ifc t v rv _ ih => simpa [PV.dep] using ih
  | _ => rfl
theorem V.untag1 {g : Gh} {v : PV} {rv : Value} (h : V g v rv) : V g v.untag1 rv := by
  cases h with
  | nil o sz => exact .nil none sz
  | lst o sz xs b off cap rv hs hu hG hV hc => exact .lst none sz xs b off cap rv hs hu hG hV hc
  | bool b => exact .bool b
  | int k n => exact .int k n
  | str s => exact .str s
  | emp sz a => exact .emp sz a
  | agg cs vs hn hc hV => exact .agg cs vs hn hc hV
  | tup cs vs hn hV => exact .tup cs vs hn hV
  | nilp => exact .nilp
  | ptr lv sl p off b o t h => exact .ptr lv sl p off b o t h
  | slr lv sl p off n sz b o t off' c h ho hc => exact .slr lv sl p off n sz b o t off' c h ho hc
  | rnd f i fs cap lv sl l r h hok hn hV => exact .rnd f i fs cap lv sl l r h hok hn hV
  | elp x off b base rv hx hu hG hV => exact .elp x off b base rv hx hu hG hV
  | fn f cap vs hn hV => exact .fn f cap vs hn hV
  | nilfn => exact .nilfn
  | nilif => exact .nilif
  | ifc t v rv h => exact .ifc t v rv h
  | und => exact .und
theorem isCell_untag1 (c : PV) : c.untag1.isCell = c.isCell := by cases c <;> rfl
theorem V.untag {g : Gh} {v : PV} {rv : Value} (h : V g v rv) : V g v.untag rv := by
  cases v with
  | agg cs =>
    cases h with
    | agg _ vs hn hc hV =>
      refine .agg _ vs (by simpa using hn) ?_ ?_
      · intro c hc'
        obtain ⟨d, hd, rfl⟩ := List.mem_map.1 hc'
        rw [isCell_untag1]; exact hc d hd
      · intro j c hj
        rw [List.getElem?_map] at hj
        obtain ⟨d, hd, rfl⟩ := Option.map_eq_some_iff.1 hj
        exact (hV j d hd).untag1
  | _ => exact h.untag1

