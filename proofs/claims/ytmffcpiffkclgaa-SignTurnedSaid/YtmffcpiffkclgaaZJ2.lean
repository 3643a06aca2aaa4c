/- What pure values stand for in a world; how that is carried along. -/
import Derived.Test.YtmffcpiffkclgaaZJ1
import Derived.Below
import Derived.Laws.Cells
import Derived.Laws.IdiomCopy
import Derived.Laws.CopyRow
import Derived.Laws.NewBlocks
namespace Go.Proofs.Ytmffcpiffkclgaa.ZJM
open Go.RowKit
structure Gh where
 G : Nat → Nat → Option Value
 blk : Nat → Nat → Path → Option (Nat × Nat × Nat)
 lp : Nat → Nat → Option (Nat × Loop)
 ok : FuncId → Nat → List Nat → Loop → Prop
def vcell : Value → Bool
 | .agg _ => false
 | .tuple _ => false
 | _ => true
inductive V (g : Gh) : PV → Value → Prop
 | bool (b : Bool) : V g (.bool b) (.bool b)
 | int (k : IntKind) (n : Int) : V g (.int k n) (.int k n)
 | str (s : ByteArray) : V g (.str s) (.string s)
 | nil (o : Option Nat) (sz : Nat) : V g (.lst o true sz []) (.slice none 0 0)
 | lst (o : Option Nat) (sz : Nat) (xs : List PV) (b off cap : Nat) (rv : Nat → Value) (hs : ∀ x ∈ xs,x.isVal = true ∧ x.cells.length = sz) (hu : ∀ x ∈ xs,x.untag = x)
   (hG : ∀ j,j < (xs.flatMap PV.cells).length → g.G b (off + j) = some (rv j))
   (hV : ∀ j c,(xs.flatMap PV.cells)[j]? = some c → V g c (rv j)) (hc : xs.length ≤ cap) :
   V g (.lst o false sz xs) (.slice (some ⟨b,off,none⟩) xs.length cap)
 | emp (sz : Nat) (a : Addr) : V g (.lst none false sz []) (.slice (some a) 0 0)
 | agg (cs : List PV) (vs : Array Value) (hn : cs.length = vs.size) (hc : ∀ c ∈ cs,c.isCell = true)
   (hV : ∀ j c,cs[j]? = some c → V g c (vs.getD j undef)) : V g (.agg cs) (.agg vs)
 | tup (cs : List PV) (vs : Array Value) (hn : cs.length = vs.size) (hV : ∀ j c,cs[j]? = some c → V g c (vs.getD j undef)) : V g (.tup cs) (.tuple vs)
 | nilp : V g .nilp (.pointer none)
 | ptr (lv sl : Nat) (p : Path) (off b o t : Nat) (h : g.blk lv sl p = some (b,o,t)) : V g (.ptr lv sl p off) (.pointer (some ⟨b,o + off,none⟩))
 | slr (lv sl : Nat) (p : Path) (off n sz b o t off' c : Nat) (h : g.blk lv sl p = some (b,o,t)) (ho : c ≠ 0 → off' = o + off ∧ off' + c * sz ≤ t) (hc : n ≤ c ∧ c ≤ 9223372036854775807) :
   V g (.slr lv sl p off n sz) (.slice (some ⟨b,off',none⟩) n c)
 | elp (x : PV) (off b base : Nat) (rv : Nat → Value) (hx : x.isVal = true) (hu : x.untag = x)
   (hG : ∀ j,j < x.cells.length → g.G b (base + j) = some (rv j))
   (hV : ∀ j c,x.cells[j]? = some c → V g c (rv j)) : V g (.elp x off) (.pointer (some ⟨b,base + off,none⟩))
 | fn (f : FuncId) (cap : List PV) (vs : Array Value) (hn : cap.length = vs.size) (hV : ∀ j c,cap[j]? = some c → V g c (vs.getD j undef)) :
   V g (.fn f cap) (.func (.func f) #[] vs)
 | bfn (f : FuncId) (cap : List PV) (vs : Array Value) (hn : cap.length = vs.size) (hV : ∀ j c,cap[j]? = some c → V g c (vs.getD j undef)) :
   V g (.fn f (.gone 0 0 :: cap)) (.func (.func f) vs #[])
 | rnd (f : FuncId) (i : Nat) (fs : List Nat) (cap : List PV) (lv sl l : Nat) (r : Loop) (h : g.lp lv sl = some (l,r)) (hok : g.ok f i fs r) (hn : cap.length = fs.length)
   (hV : ∀ (j : Nat) (c : PV) (s : Nat),cap[j]? = some c → fs[j]? = some s → V g c (r.tmps.getD s undef)) : V g (.rnd f i fs cap lv sl) (.func (.yield l) #[] #[])
 | nilfn : V g .nilfn .nilFunc
 | nilif : V g .nilif .nilIface
 | ifc (t : TypeId) (v : PV) (rv : Value) (h : V g v rv) : V g (.ifc t v) (.iface t rv)
 | und : V g .und undef
theorem V.vcell {g : Gh} {c : PV} {rv : Value} (h : V g c rv) (hc : c.isCell = true) : vcell rv = true := by
 cases h <;> first | rfl | (simp [PV.isCell] at hc)
structure Gh.le (g g' : Gh) : Prop where
 G : ∀ b o v,g.G b o = some v → g'.G b o = some v
 blk : ∀ l s p x,g.blk l s p = some x → g'.blk l s p = some x
 lp : ∀ l s x,g.lp l s = some x → g'.lp l s = some x
 ok : g'.ok = g.ok
theorem Gh.le.refl (g : Gh) : g.le g := ⟨fun _ _ _ h => h,fun _ _ _ _ h => h,fun _ _ _ h => h,rfl⟩
theorem Gh.le.trans {a b c : Gh} (h : a.le b) (k : b.le c) : a.le c := ⟨fun _ _ _ x => k.G _ _ _ (h.G _ _ _ x),fun _ _ _ _ x => k.blk _ _ _ _ (h.blk _ _ _ _ x),fun _ _ _ x => k.lp _ _ _ (h.lp _ _ _ x),k.ok.trans h.ok⟩
theorem V.mono {g g' : Gh} (hle : g.le g') {v : PV} {rv : Value} (h : V g v rv) : V g' v rv := by
 induction h with
 | bool b => exact .bool b
 | int k n => exact .int k n
 | str s => exact .str s
 | nil o sz => exact .nil o sz
 | lst o sz xs b off cap rv hs hu hG _ hc ih => exact .lst o sz xs b off cap rv hs hu (fun j hj => hle.G _ _ _ (hG j hj)) ih hc
 | emp sz a => exact .emp sz a
 | agg cs vs hn hc _ ih => exact .agg cs vs hn hc ih
 | tup cs vs hn _ ih => exact .tup cs vs hn ih
 | nilp => exact .nilp
 | ptr lv sl p off b o t h => exact .ptr lv sl p off b o t (hle.blk _ _ _ _ h)
 | slr lv sl p off n sz b o t off' c h ho hc => exact .slr lv sl p off n sz b o t off' c (hle.blk _ _ _ _ h) ho hc
 | rnd f i fs cap lv sl l r h hok hn _ ih => exact .rnd f i fs cap lv sl l r (hle.lp _ _ _ h) (hle.ok ▸ hok) hn ih
 | elp x off b base rv hx hu hG _ ih => exact .elp x off b base rv hx hu (fun j hj => hle.G _ _ _ (hG j hj)) ih
 | fn f cap vs hn _ ih => exact .fn f cap vs hn ih
 | bfn f cap vs hn _ ih => exact .bfn f cap vs hn ih
 | nilfn => exact .nilfn
 | nilif => exact .nilif
 | ifc t v rv _ ih => exact .ifc t v rv ih
 | und => exact .und
theorem deps_mem {n : Nat} : ∀ {l : List PV},PV.deps n l = true → ∀ x ∈ l,x.dep n = true
 | [],_,_,h => by cases h
 | y :: l,h,x,hx => by
  simp only [PV.deps,Bool.and_eq_true] at h
  rcases List.mem_cons.1 hx with rfl | hx
  ·exact h.1
  ·exact deps_mem h.2 x hx
theorem deps_of_mem {n : Nat} : ∀ {l : List PV},(∀ x ∈ l,x.dep n = true) → PV.deps n l = true
 | [],_ => rfl
 | y :: l,h => by simp only [PV.deps,Bool.and_eq_true]; exact ⟨h y (by simp),deps_of_mem fun x hx => h x (by simp [hx])⟩
theorem okns_mem {n : Nat} {ks ts : List Nat} : ∀ {l : List PV},PV.okns n ks ts l = true → ∀ x ∈ l,x.okn n ks ts = true
 | [],_,_,h => by cases h
 | y :: l,h,x,hx => by
  simp only [PV.okns,Bool.and_eq_true] at h
  rcases List.mem_cons.1 hx with rfl | hx
  ·exact h.1
  ·exact okns_mem h.2 x hx
theorem cells_dep {n : Nat} {x : PV} (h : x.dep n = true) : ∀ c ∈ x.cells,c.dep n = true := by
 cases x <;> simp only [PV.cells] <;> first
  | (intro c hc; simp only [List.mem_singleton] at hc; subst hc; exact h)
  | exact deps_mem (by simpa [PV.dep] using h)
theorem cells_okn {n : Nat} {ks ts : List Nat} {x : PV} (h : x.okn n ks ts = true) : ∀ c ∈ x.cells,c.okn n ks ts = true := by
 cases x <;> simp only [PV.cells] <;> first
  | (intro c hc; simp only [List.mem_singleton] at hc; subst hc; exact h)
  | exact okns_mem (by simpa [PV.okn] using h)
theorem dep_of_cells {n : Nat} {x : PV} (h : ∀ c ∈ x.cells,c.dep n = true) : x.dep n = true := by
 cases x <;> simp only [PV.cells] at h <;> first
  | exact h _ (by simp)
  | (simp only [PV.dep]; exact deps_of_mem h)
mutual
theorem dep_mono {n m : Nat} (h : n ≤ m) : ∀ v : PV,v.dep n = true → v.dep m = true
 | .lst _ _ _ xs,hd => by simp only [PV.dep] at hd ⊢; exact deps_mono h xs hd
 | .agg cs,hd => by simp only [PV.dep] at hd ⊢; exact deps_mono h cs hd
 | .tup vs,hd => by simp only [PV.dep] at hd ⊢; exact deps_mono h vs hd
 | .ptr lv _ _ _,hd => by simp only [PV.dep,decide_eq_true_eq] at hd ⊢; omega
 | .slr lv _ _ _ _ _,hd => by simp only [PV.dep,decide_eq_true_eq] at hd ⊢; omega
 | .vec _ _ _ cs,hd => by simp only [PV.dep] at hd ⊢; exact deps_mono h cs hd
 | .vfrz _ _ xs,hd => by simp only [PV.dep] at hd ⊢; exact deps_mono h xs hd
 | .elp x _,hd => by simp only [PV.dep] at hd ⊢; exact dep_mono h x hd
 | .fn _ cap,hd => by simp only [PV.dep] at hd ⊢; exact deps_mono h cap hd
 | .rnd _ _ _ cap lv _,hd => by simp only [PV.dep,Bool.and_eq_true,decide_eq_true_eq] at hd ⊢; exact ⟨by omega,deps_mono h cap hd.2⟩
 | .ifc _ v,hd => by simp only [PV.dep] at hd ⊢; exact dep_mono h v hd
 | .bool _,_ | .int _ _,_ | .str _,_ | .nilp,_ | .nilfn,_ | .nilif,_ | .und,_ | .vnil _ _,_ | .gone _ _,_ | .lrec _,_ => rfl
theorem deps_mono {n m : Nat} (h : n ≤ m) : ∀ vs : List PV,PV.deps n vs = true → PV.deps m vs = true
 | [],_ => rfl
 | v :: r,hd => by
  simp only [PV.deps,Bool.and_eq_true] at hd ⊢
  exact ⟨dep_mono h v hd.1,deps_mono h r hd.2⟩
end
theorem getElem?_mem' {α : Type} {l : List α} {j : Nat} {c : α} (h : l[j]? = some c) : c ∈ l := List.mem_of_getElem? h
theorem V.under {g g' : Gh} {n : Nat} (hG : ∀ b o v,g.G b o = some v → g'.G b o = some v) (hb : ∀ l s p,l < n → g'.blk l s p = g.blk l s p) (hr : ∀ l s,l < n → g'.lp l s = g.lp l s) (hk : g'.ok = g.ok) {v : PV} {rv : Value} (h : V g v rv) :
  v.dep n = true → V g' v rv := by
 induction h with
 | bool b => exact fun _ => .bool b
 | int k n => exact fun _ => .int k n
 | str s => exact fun _ => .str s
 | nil o sz => exact fun _ => .nil o sz
 | lst o sz xs b off cap rv hs hu hG' _ hc ih =>
  intro hd
  simp only [PV.dep] at hd
  refine .lst o sz xs b off cap rv hs hu (fun j hj => hG _ _ _ (hG' j hj)) (fun j c hj => ih j c hj ?_) hc
  obtain ⟨x,hx,hxc⟩ := List.mem_flatMap.1 (getElem?_mem' hj)
  exact cells_dep (deps_mem hd x hx) c hxc
 | emp sz a => exact fun _ => .emp sz a
 | agg cs vs hn hc _ ih => exact fun hd => .agg cs vs hn hc fun j c hj => ih j c hj (deps_mem (by simpa [PV.dep] using hd) c (getElem?_mem' hj))
 | tup cs vs hn _ ih => exact fun hd => .tup cs vs hn fun j c hj => ih j c hj (deps_mem (by simpa [PV.dep] using hd) c (getElem?_mem' hj))
 | nilp => exact fun _ => .nilp
 | ptr lv sl p off b o t h => exact fun hd => .ptr lv sl p off b o t (by rw [hb lv sl p (by simpa [PV.dep] using hd)]; exact h)
 | slr lv sl p off n sz b o t off' c h ho hc => exact fun hd => .slr lv sl p off n sz b o t off' c (by rw [hb lv sl p (by simpa [PV.dep] using hd)]; exact h) ho hc
 | rnd f i fs cap lv sl l r h hok hn _ ih =>
  intro hd
  simp only [PV.dep,Bool.and_eq_true,decide_eq_true_eq] at hd
  exact .rnd f i fs cap lv sl l r (by rw [hr lv sl hd.1]; exact h) (hk ▸ hok) hn fun j c s hj hs => ih j c s hj hs (deps_mem hd.2 c (getElem?_mem' hj))
 | elp x off b base rv hx hu hG' _ ih =>
  exact fun hd => .elp x off b base rv hx hu (fun j hj => hG _ _ _ (hG' j hj)) fun j c hj => ih j c hj (cells_dep (by simpa [PV.dep] using hd) c (getElem?_mem' hj))
 | fn f cap vs hn _ ih => exact fun hd => .fn f cap vs hn fun j c hj => ih j c hj (deps_mem (by simpa [PV.dep] using hd) c (getElem?_mem' hj))
 | bfn f cap vs hn _ ih => exact fun hd => .bfn f cap vs hn fun j c hj => ih j c hj (deps_mem (by simpa [PV.dep] using hd) c (List.mem_cons_of_mem _ (getElem?_mem' hj)))
 | nilfn => exact fun _ => .nilfn
 | nilif => exact fun _ => .nilif
 | ifc t v rv _ ih => exact fun hd => .ifc t v rv (ih (by simpa [PV.dep] using hd))
 | und => exact fun _ => .und
theorem V.among {g g' : Gh} {n : Nat} {ks ts : List Nat} (hG : ∀ b o v,g.G b o = some v → g'.G b o = some v)
  (hb : ∀ l s p,(l ≠ n ∨ ks.contains s = true) → g'.blk l s p = g.blk l s p) (hr : ∀ l s,(l ≠ n ∨ ks.contains s = true) → g'.lp l s = g.lp l s) (hk : g'.ok = g.ok) {v : PV} {rv : Value} (h : V g v rv) : v.okn n ks ts = true → V g' v rv := by
 induction h with
 | bool b => exact fun _ => .bool b
 | int k n => exact fun _ => .int k n
 | str s => exact fun _ => .str s
 | nil o sz => exact fun _ => .nil o sz
 | lst o sz xs b off cap rv hs hu hG' _ hc ih =>
  intro hd
  simp only [PV.okn,Bool.and_eq_true] at hd
  refine .lst o sz xs b off cap rv hs hu (fun j hj => hG _ _ _ (hG' j hj)) (fun j c hj => ih j c hj ?_) hc
  obtain ⟨x,hx,hxc⟩ := List.mem_flatMap.1 (getElem?_mem' hj)
  exact cells_okn (okns_mem hd.2 x hx) c hxc
 | emp sz a => exact fun _ => .emp sz a
 | agg cs vs hn hc _ ih => exact fun hd => .agg cs vs hn hc fun j c hj => ih j c hj (okns_mem (by simpa [PV.okn] using hd) c (getElem?_mem' hj))
 | tup cs vs hn _ ih => exact fun hd => .tup cs vs hn fun j c hj => ih j c hj (okns_mem (by simpa [PV.okn] using hd) c (getElem?_mem' hj))
 | nilp => exact fun _ => .nilp
 | ptr lv sl p off b o t h =>
  exact fun hd => .ptr lv sl p off b o t (by
   rw [hb lv sl p (by
    simp only [PV.okn,Bool.or_eq_true,bne_iff_ne] at hd
    exact hd)]
   exact h)
 | slr lv sl p off n' sz b o t off' c h ho hc =>
  exact fun hd => .slr lv sl p off n' sz b o t off' c (by
   rw [hb lv sl p (by
    simp only [PV.okn,Bool.or_eq_true,bne_iff_ne] at hd
    exact hd)]
   exact h) ho hc
 | rnd f i fs cap lv sl l r h hok hn _ ih =>
  intro hd
  simp only [PV.okn,Bool.and_eq_true,Bool.or_eq_true,bne_iff_ne] at hd
  exact .rnd f i fs cap lv sl l r (by rw [hr lv sl hd.1]; exact h) (hk ▸ hok) hn fun j c s hj hs => ih j c s hj hs (okns_mem hd.2 c (getElem?_mem' hj))
 | elp x off b base rv hx hu hG' _ ih =>
  exact fun hd => .elp x off b base rv hx hu (fun j hj => hG _ _ _ (hG' j hj)) fun j c hj => ih j c hj (cells_okn (by simpa [PV.okn] using hd) c (getElem?_mem' hj))
 | fn f cap vs hn _ ih => exact fun hd => .fn f cap vs hn fun j c hj => ih j c hj (okns_mem (by simpa [PV.okn] using hd) c (getElem?_mem' hj))
 | bfn f cap vs hn _ ih => exact fun hd => .bfn f cap vs hn fun j c hj => ih j c hj (okns_mem (by simpa [PV.okn] using hd) c (List.mem_cons_of_mem _ (getElem?_mem' hj)))
 | nilfn => exact fun _ => .nilfn
 | nilif => exact fun _ => .nilif
 | ifc t v rv _ ih => exact fun hd => .ifc t v rv (ih (by simpa [PV.okn] using hd))
 | und => exact fun _ => .und
theorem V.depAll {g : Gh} {n : Nat} (hb : ∀ l s p x,g.blk l s p = some x → l < n) (hr : ∀ l s x,g.lp l s = some x → l < n) {v : PV} {rv : Value} (h : V g v rv) : v.dep n = true := by
 induction h with
 | lst o sz xs b off cap rv hs hu hG' _ hc ih =>
  simp only [PV.dep]
  refine deps_of_mem fun x hx => dep_of_cells fun c hc => ?_
  obtain ⟨j,hj⟩ := List.getElem?_of_mem (List.mem_flatMap.2 ⟨x,hx,hc⟩)
  exact ih j c hj
 | agg cs vs hn hc _ ih =>
  simp only [PV.dep]
  exact deps_of_mem fun c hc => let ⟨j,hj⟩ := List.getElem?_of_mem hc; ih j c hj
 | tup cs vs hn _ ih =>
  simp only [PV.dep]
  exact deps_of_mem fun c hc => let ⟨j,hj⟩ := List.getElem?_of_mem hc; ih j c hj
 | ptr lv sl p off b o t h => simp only [PV.dep,decide_eq_true_eq]; exact hb _ _ _ _ h
 | slr lv sl p off n sz b o t off' c h ho hc => simp only [PV.dep,decide_eq_true_eq]; exact hb _ _ _ _ h
 | rnd f i fs cap lv sl l r h hok hn _ ih =>
  simp only [PV.dep,Bool.and_eq_true,decide_eq_true_eq]
  refine ⟨hr _ _ _ h,deps_of_mem fun c hc => ?_⟩
  obtain ⟨j,hj⟩ := List.getElem?_of_mem hc
  have hlt : j < fs.length := by rw [← hn]; exact (List.getElem?_eq_some_iff.1 hj).1
  exact ih j c fs[j] hj (List.getElem?_eq_getElem hlt)
 | elp x off b base rv hx hu hG' _ ih =>
  simp only [PV.dep]
  exact dep_of_cells fun c hc => let ⟨j,hj⟩ := List.getElem?_of_mem hc; ih j c hj
 | fn f cap vs hn _ ih =>
  simp only [PV.dep]
  exact deps_of_mem fun c hc => let ⟨j,hj⟩ := List.getElem?_of_mem hc; ih j c hj
 | bfn f cap vs hn _ ih =>
  simp only [PV.dep]
  refine deps_of_mem fun c hc => ?_
  rcases List.mem_cons.1 hc with rfl | hc
  ·rfl
  ·obtain ⟨j,hj⟩ := List.getElem?_of_mem hc
   exact ih j c hj
 | ifc t v rv _ ih => simpa [PV.dep] using ih
 | _ => rfl
theorem V.untag1 {g : Gh} {v : PV} {rv : Value} (h : V g v rv) : V g v.untag1 rv := by
 cases h with
 | nil o sz => exact .nil none sz
 | lst o sz xs b off cap rv hs hu hG hV hc => exact .lst none sz xs b off cap rv hs hu hG hV hc
 | bool b => exact .bool b
 | int k n => exact .int k n
 | str s => exact .str s
 | emp sz a => exact .emp sz a
 | agg cs vs hn hc hV => exact .agg cs vs hn hc hV
 | tup cs vs hn hV => exact .tup cs vs hn hV
 | nilp => exact .nilp
 | ptr lv sl p off b o t h => exact .ptr lv sl p off b o t h
 | slr lv sl p off n sz b o t off' c h ho hc => exact .slr lv sl p off n sz b o t off' c h ho hc
 | rnd f i fs cap lv sl l r h hok hn hV => exact .rnd f i fs cap lv sl l r h hok hn hV
 | elp x off b base rv hx hu hG hV => exact .elp x off b base rv hx hu hG hV
 | fn f cap vs hn hV => exact .fn f cap vs hn hV
 | bfn f cap vs hn hV => exact .bfn f cap vs hn hV
 | nilfn => exact .nilfn
 | nilif => exact .nilif
 | ifc t v rv h => exact .ifc t v rv h
 | und => exact .und
theorem isCell_untag1 (c : PV) : c.untag1.isCell = c.isCell := by cases c <;> rfl
theorem V.untag {g : Gh} {v : PV} {rv : Value} (h : V g v rv) : V g v.untag rv := by
 cases v with
 | agg cs =>
  cases h with
  | agg _ vs hn hc hV =>
   refine .agg _ vs (by simpa using hn) ?_ ?_
   ·intro c hc'
    obtain ⟨d,hd,rfl⟩ := List.mem_map.1 hc'
    rw [isCell_untag1]; exact hc d hd
   ·intro j c hj
    rw [List.getElem?_map] at hj
    obtain ⟨d,hd,rfl⟩ := Option.map_eq_some_iff.1 hj
    exact (hV j d hd).untag1
 | _ => exact h.untag1
end Go.Proofs.Ytmffcpiffkclgaa.ZJM
set_option linter.unusedSimpArgs false
set_option linter.unusedVariables false
namespace Go.Proofs.Ytmffcpiffkclgaa.ZJM
open Go.RowKit
theorem get_cons {α : Type} (s : Nat) (v : α) (r : List (Nat × α)) (t : Nat) : get ((s,v) :: r) t = if s = t then some v else get r t := by
 simp only [get]
 by_cases h : s = t
 ·simp [h]
 ·simp [h]
theorem get_upd {α : Type} : ∀ {l l' : List (Nat × α)} {t : Nat} {x : α},upd l t x = some l' → ∀ s,get l' s = if t = s then some x else get l s
 | [],_,_,_,h,_ => by simp [upd] at h
 | p :: r,l',t,x,h,s => by
  simp only [upd] at h
  split at h
  ·rename_i he
   have := beq_iff_eq.1 he
   cases h
   obtain ⟨p1,p2⟩ := p
   simp only at this
   subst this
   rw [get_cons,get_cons]
   by_cases hs : p1 = s <;> simp [hs]
  ·rename_i he
   obtain ⟨r',hr,rfl⟩ := Option.map_eq_some_iff.1 h
   obtain ⟨p1,p2⟩ := p
   simp only [beq_iff_eq] at he
   rw [get_cons,get_cons,get_upd hr s]
   by_cases hs : p1 = s
   ·subst hs; simp [Ne.symm he]
   ·simp [hs]
theorem get_del {α : Type} : ∀ (l : List (Nat × α)) (t s : Nat),get (del l t) s = if s = t then none else get l s
 | [],t,s => by simp [del,get]
 | p :: r,t,s => by
  obtain ⟨p1,p2⟩ := p
  simp only [del]
  by_cases h : p1 = t
  ·subst h
   simp only [beq_self_eq_true,if_true]
   rw [get_del r,get_cons]
   by_cases hs : s = p1
   ·rw [if_pos hs,if_pos hs]
   ·rw [if_neg hs,if_neg hs,if_neg (Ne.symm hs)]
  ·rw [if_neg (by simpa using h),get_cons,get_cons,get_del r]
   by_cases hs : p1 = s
   ·subst hs; rw [if_pos rfl,if_neg h,if_pos rfl]
   ·rw [if_neg hs,if_neg hs]
theorem tget_append : ∀ (p r : Path) (cs : List PV),tget cs (p ++ r) = (tget cs p).bind fun cs' => tget cs' r
 | [],r,cs => rfl
 | q :: p,r,cs => by
  simp only [List.cons_append,tget]
  split
  ·split
   ·exact tget_append p r _
   ·rfl
  ·rfl
inductive Sim : PV → PV → Prop
 | refl (c : PV) : Sim c c
 | vec (v n sz : Nat) (a b : List PV) (h : a.length = b.length) : Sim (.vec v n sz a) (.vec v n sz b)
def SimL (zs zs' : List PV) : Prop := zs.length = zs'.length ∧ ∀ (j : Nat) (c' : PV),zs'[j]? = some c' → ∃ c,zs[j]? = some c ∧ Sim c c'
theorem SimL.refl (zs : List PV) : SimL zs zs := ⟨rfl,fun j c' h => ⟨c',h,.refl _⟩⟩
theorem Sim.nextVer {c c' : PV} (h : Sim c c') : nextVer c = nextVer c' := by cases h <;> rfl
theorem tset_get : ∀ {p : Path} {cs x cs' : List PV},tset cs p x = some cs' → tget cs' p = some x ∧ ∃ y,tget cs p = some y
 | [],cs,x,cs',h => by simp only [tset,Option.some.injEq] at h; subst h; exact ⟨rfl,cs,rfl⟩
 | q :: p,cs,x,cs',h => by
  simp only [tset] at h
  split at h
  ·rename_i v' n sz c hc
   split at h
   ·rename_i hv
    split at h
    ·rename_i y hy
     cases h
     obtain ⟨h1,h2⟩ := tset_get hy
     have hlt := (List.getElem?_eq_some_iff.1 hc).1
     simp only [tget,hc,hv,if_true]
     exact ⟨by simp [hlt,hv,h1],h2⟩
    ·cases h
   ·cases h
  ·cases h
theorem tset_len : ∀ {p : Path} {cs x cs' y : List PV},tset cs p x = some cs' → tget cs p = some y → x.length = y.length → cs'.length = cs.length
 | [],cs,x,cs',y,h,hy,hl => by simp only [tset,Option.some.injEq] at h; simp only [tget,Option.some.injEq] at hy; subst h; subst hy; exact hl
 | q :: p,cs,x,cs',y,h,hy,hl => by
  simp only [tset] at h
  split at h
  ·split at h
   ·split at h
    ·cases h; simp
    ·cases h
   ·cases h
  ·cases h
theorem tset_all : ∀ {p : Path} {cs x cs' y : List PV},tset cs p x = some cs' → tget cs p = some y → x.length = y.length → ∀ (q : Path) (zs' : List PV),tget cs' q = some zs' →
  (∃ r,q = p ++ r ∧ tget x r = some zs') ∨ ((∀ r,q ≠ p ++ r) ∧ ∃ zs,tget cs q = some zs ∧ SimL zs zs')
 | [],cs,x,cs',y,h,hy,hl,q,zs',hq => by
  simp only [tset,Option.some.injEq] at h; subst h
  exact .inl ⟨q,rfl,hq⟩
 | a :: p,cs,x,cs',y,h,hy,hl,q,zs',hq => by
  simp only [tset] at h
  split at h
  ·rename_i v' n sz c hc
   split at h
   ·rename_i hv
    have hv' := beq_iff_eq.1 hv
    split at h
    ·rename_i c' hc'
     cases h
     have hlt := (List.getElem?_eq_some_iff.1 hc).1
     simp only [tget,hc,hv,if_true] at hy
     cases q with
     | nil =>
      simp only [tget,Option.some.injEq] at hq; subst hq
      refine .inr ⟨fun r hr => by simp at hr,cs,rfl,by simp,fun j d hj => ?_⟩
      by_cases he : a.1 = j
      ·subst he
       rw [List.getElem?_set_self hlt] at hj
       cases hj
       exact ⟨_,hc,.vec _ _ _ _ _ (tset_len hc' hy hl).symm⟩
      ·rw [List.getElem?_set_ne he] at hj
       exact ⟨d,hj,.refl _⟩
     | cons b q =>
      obtain ⟨b1,b2⟩ := b
      obtain ⟨a1,a2⟩ := a
      simp only at hc hv' hlt
      subst hv'
      simp only [tget] at hq
      by_cases hb : b1 = a1
      ·subst hb
       rw [List.getElem?_set_self hlt] at hq
       simp only at hq
       split at hq
       ·rename_i hv2
        have hv2' := beq_iff_eq.1 hv2
        subst hv2'
        rcases tset_all hc' hy hl q zs' hq with ⟨r,rfl,hr⟩ | ⟨hn,zs,hz,hs⟩
        ·exact .inl ⟨r,rfl,hr⟩
        ·refine .inr ⟨fun r hr => ?_,zs,by simp [tget,hc,hz],hs⟩
         simp only [List.cons_append,List.cons.injEq,true_and] at hr
         exact hn r hr
       ·cases hq
      ·rw [List.getElem?_set_ne (Ne.symm hb)] at hq
       refine .inr ⟨fun r hr => ?_,zs',by simp only [tget]; exact hq,SimL.refl _⟩
       simp only [List.cons_append,List.cons.injEq,Prod.mk.injEq] at hr
       exact hb hr.1.1
    ·cases h
   ·cases h
  ·cases h
theorem tset_other : ∀ {p : Path} {cs x cs' y : List PV},tset cs p x = some cs' → ∀ (q : Path) (zs : List PV),tget cs q = some zs → (∀ r,q ≠ p ++ r) → ∃ zs',tget cs' q = some zs'
 | [],cs,x,cs',y,h,q,zs,hq,hn => absurd rfl (hn q)
 | a :: p,cs,x,cs',y,h,q,zs,hq,hn => by
  simp only [tset] at h
  split at h
  ·rename_i v' n sz c hc
   split at h
   ·rename_i hv
    have hv' := beq_iff_eq.1 hv
    split at h
    ·rename_i c' hc'
     cases h
     have hlt := (List.getElem?_eq_some_iff.1 hc).1
     cases q with
     | nil => exact ⟨_,rfl⟩
     | cons b q =>
      obtain ⟨b1,b2⟩ := b
      obtain ⟨a1,a2⟩ := a
      simp only at hc hv' hlt
      subst hv'
      simp only [tget] at hq
      by_cases hb : b1 = a1
      ·subst hb
       rw [hc] at hq
       simp only at hq
       split at hq
       ·rename_i hv2
        have hv2' := beq_iff_eq.1 hv2
        subst hv2'
        obtain ⟨zs',h1⟩ := tset_other (y := y) hc' q zs hq (fun r hr => hn r (by rw [hr]; rfl))
        exact ⟨zs',by simp [tget,hlt,h1]⟩
       ·cases hq
      ·exact ⟨zs,by simp only [tget]; rw [List.getElem?_set_ne (Ne.symm hb)]; exact hq⟩
    ·cases h
   ·cases h
  ·cases h
theorem mget_lt : ∀ {m : Mem} {lv sl : Nat} {p : Path} {cs : List PV},mget m lv sl p = some cs → lv < m.length
 | [],_,_,_,_,h => by simp [mget] at h
 | l :: r,lv,sl,p,cs,h => by
  simp only [mget] at h
  split at h
  ·rename_i he; have := beq_iff_eq.1 he; subst this; simp
  ·have := mget_lt h; simp only [List.length_cons]; omega
theorem mget_cons (own : Lvl) (m : Mem) (lv sl : Nat) (p : Path) : mget (own :: m) lv sl p = if lv = m.length then lget own sl p else mget m lv sl p := by
 simp only [mget,beq_iff_eq]
theorem mget_own (own : Lvl) (m : Mem) (sl : Nat) (p : Path) : mget (own :: m) m.length sl p = lget own sl p := by rw [mget_cons,if_pos rfl]
theorem lget_nil (own : Lvl) (sl : Nat) : lget own sl [] = get own sl := by
 unfold lget
 cases get own sl <;> rfl
theorem mset_length : ∀ {m m' : Mem} {l s : Nat} {p : Path} {x : List PV},mset m l s p x = some m' → m'.length = m.length
 | [],_,_,_,_,_,h => by simp [mset] at h
 | y :: r,m',l,s,p,x,h => by
  simp only [mset] at h
  split at h
  ·split at h
   ·cases h; rfl
   ·cases h
  ·split at h
   ·rename_i r' hr; cases h; simp [mset_length hr]
   ·cases h
structure Wrote (M M' : Mem) (lv sl : Nat) (p : Path) (y x : List PV) : Prop where
 len : M'.length = M.length
 old : mget M lv sl p = some y
 here : mget M' lv sl p = some x
 all : x.length = y.length → ∀ (l s : Nat) (q : Path) (zs' : List PV),mget M' l s q = some zs' →
  (l = lv ∧ s = sl ∧ ∃ r,q = p ++ r ∧ tget x r = some zs') ∨ (¬ (l = lv ∧ s = sl ∧ ∃ r,q = p ++ r) ∧ ∃ zs,mget M l s q = some zs ∧ SimL zs zs')
 other : ∀ (l s : Nat) (q : Path) (zs : List PV),mget M l s q = some zs → ¬ (l = lv ∧ s = sl ∧ ∃ r,q = p ++ r) → ∃ zs',mget M' l s q = some zs'
theorem lset_spec {l l' : Lvl} {sl : Nat} {p : Path} {x : List PV} (h : lset l sl p x = some l') :
  ∃ cs cs' y,get l sl = some cs ∧ tset cs p x = some cs' ∧ tget cs p = some y ∧ tget cs' p = some x ∧ ∀ s,get l' s = if s = sl then some cs' else get l s := by
 unfold lset at h
 split at h
 ·rename_i cs hcs
  split at h
  ·rename_i cs' hcs'
   obtain ⟨h1,y,h2⟩ := tset_get hcs'
   refine ⟨cs,cs',y,hcs,hcs',h2,h1,fun s => ?_⟩
   rw [get_upd h s]
   by_cases hs : sl = s
   ·rw [if_pos hs,if_pos hs.symm]
   ·rw [if_neg hs,if_neg (Ne.symm hs)]
  ·cases h
 ·cases h
theorem mset_wrote : ∀ {M M' : Mem} {lv sl : Nat} {p : Path} {x : List PV},mset M lv sl p x = some M' → ∃ y,Wrote M M' lv sl p y x
 | [],_,_,_,_,_,h => by simp [mset] at h
 | L :: R,M',lv,sl,p,x,h => by
  have hlen := mset_length h
  simp only [mset] at h
  split at h
  ·rename_i he
   have hl := beq_iff_eq.1 he
   subst hl
   split at h
   ·rename_i L' hL
    cases h
    obtain ⟨cs,cs',y,h1,h2,h3,h4,h5⟩ := lset_spec hL
    have hg : ∀ s q,lget L' s q = if s = sl then tget cs' q else lget L s q := by
     intro s q
     unfold lget
     rw [h5 s]
     by_cases hs : s = sl
     ·rw [if_pos hs,if_pos hs]
     ·rw [if_neg hs,if_neg hs]
    have hg0 : ∀ q,lget L sl q = tget cs q := fun q => by unfold lget; rw [h1]
    refine ⟨y,hlen,by rw [mget_own,hg0]; exact h3,by rw [mget_own,hg,if_pos rfl]; exact h4,fun hxy l s q zs' hq => ?_,fun l s q zs hq hn => ?_⟩
    ·rw [mget_cons] at hq
     by_cases hl : l = R.length
     ·subst hl
      rw [if_pos rfl,hg] at hq
      by_cases hs : s = sl
      ·subst hs
       rw [if_pos rfl] at hq
       rcases tset_all h2 h3 hxy q zs' hq with ⟨r,hr,hr2⟩ | ⟨hn,zs,hz,hz2⟩
       ·exact .inl ⟨rfl,rfl,r,hr,hr2⟩
       ·exact .inr ⟨fun hh => by obtain ⟨_,_,r,hr⟩ := hh; exact hn r hr,zs,by rw [mget_own,hg0]; exact hz,hz2⟩
      ·rw [if_neg hs] at hq
       exact .inr ⟨fun hh => hs hh.2.1,zs',by rw [mget_own]; exact hq,SimL.refl _⟩
     ·rw [if_neg hl] at hq
      exact .inr ⟨fun hh => hl hh.1,zs',by rw [mget_cons,if_neg hl]; exact hq,SimL.refl _⟩
    ·rw [mget_cons] at hq ⊢
     by_cases hl : l = R.length
     ·subst hl
      rw [if_pos rfl] at hq ⊢
      rw [hg]
      by_cases hs : s = sl
      ·subst hs
       rw [if_pos rfl]
       rw [hg0] at hq
       exact tset_other (y := y) h2 q zs hq fun r hr => hn ⟨rfl,rfl,r,hr⟩
      ·rw [if_neg hs]; exact ⟨zs,hq⟩
     ·rw [if_neg hl] at hq ⊢; exact ⟨zs,hq⟩
   ·cases h
  ·rename_i he
   have hl : lv ≠ R.length := by simpa using he
   split at h
   ·rename_i R' hR
    cases h
    obtain ⟨y,hw⟩ := mset_wrote hR
    have hc : ∀ (m m2 : Mem) l s q,m2.length = m.length → l ≠ m.length → mget (L :: m2) l s q = mget m2 l s q := fun m m2 l s q h1 h2 => by rw [mget_cons,if_neg (by omega)]
    have hRl := hw.len
    have key : ∀ l s q,mget (L :: R') l s q = if l = R.length then lget L s q else mget R' l s q := fun l s q => by rw [mget_cons,hRl]
    have hlt : lv < R.length := mget_lt hw.old
    refine ⟨y,hlen,by rw [mget_cons,if_neg hl]; exact hw.old,by rw [key,if_neg hl]; exact hw.here,fun hxy l s q zs' hq => ?_,fun l s q zs hq hn => ?_⟩
    ·rw [key] at hq
     by_cases h2 : l = R.length
     ·rw [if_pos h2] at hq
      exact .inr ⟨fun hh => by omega,zs',by rw [mget_cons,if_pos h2]; exact hq,SimL.refl _⟩
     ·rw [if_neg h2] at hq
      rcases hw.all hxy l s q zs' hq with h3 | ⟨h3,zs,h4,h5⟩
      ·exact .inl h3
      ·exact .inr ⟨h3,zs,by rw [mget_cons,if_neg h2]; exact h4,h5⟩
    ·rw [mget_cons] at hq
     rw [key]
     by_cases h2 : l = R.length
     ·rw [if_pos h2] at hq ⊢; exact ⟨zs,hq⟩
     ·rw [if_neg h2] at hq ⊢
      exact hw.other l s q zs hq hn
   ·cases h
theorem mget_append : ∀ (M : Mem) (lv sl : Nat) (p r : Path),mget M lv sl (p ++ r) = (mget M lv sl p).bind fun cs => tget cs r
 | [],_,_,_,_ => rfl
 | L :: R,lv,sl,p,r => by
  rw [mget_cons,mget_cons]
  split
  ·unfold lget
   cases get L sl with
   | none => rfl
   | some cs => exact tget_append p r cs
  ·exact mget_append R lv sl p r
theorem Wrote.live {M M' : Mem} {lv sl : Nat} {p : Path} {y x : List PV} (h : Wrote M M' lv sl p y x) (hl : x.length = y.length) (l s : Nat) : (mget M' l s []).isSome = (mget M l s []).isSome := by
 cases h1 : mget M' l s [] with
 | some zs' =>
  rcases h.all hl l s [] zs' h1 with ⟨rfl,rfl,r,hr,_⟩ | ⟨_,zs,hz,_⟩
  ·obtain ⟨rfl,rfl⟩ := List.append_eq_nil_iff.1 hr.symm
   rw [h.old]; rfl
  ·rw [hz]; rfl
 | none =>
  cases h2 : mget M l s [] with
  | none => rfl
  | some zs =>
   exfalso
   by_cases hc : l = lv ∧ s = sl ∧ ∃ r,[] = p ++ r
   ·obtain ⟨rfl,rfl,r,hr⟩ := hc
    obtain ⟨rfl,rfl⟩ := List.append_eq_nil_iff.1 hr.symm
    rw [h.here] at h1; cases h1
   ·obtain ⟨zs',h3⟩ := h.other l s [] zs h2 hc
    rw [h1] at h3; cases h3
theorem Wrote.cases {M M' : Mem} {lv sl : Nat} {p : Path} {cs : List PV} {j : Nat} {c' : PV} (h : Wrote M M' lv sl p cs (cs.set j c')) (hj : j < cs.length) (l s : Nat) (q : Path) (zs' : List PV) (hq : mget M' l s q = some zs') :
  (l = lv ∧ s = sl ∧ q = p ∧ zs' = cs.set j c') ∨ (∃ v n sz ys r,l = lv ∧ s = sl ∧ q = p ++ (j,v) :: r ∧ c' = .vec v n sz ys ∧ tget ys r = some zs') ∨
   (¬ (l = lv ∧ s = sl ∧ q = p) ∧ (¬ ∃ v r,l = lv ∧ s = sl ∧ q = p ++ (j,v) :: r) ∧ ∃ zs,mget M l s q = some zs ∧ SimL zs zs') := by
 rcases h.all (by simp) l s q zs' hq with ⟨rfl,rfl,r,rfl,hr⟩ | ⟨hn,zs,hz,hs⟩
 ·cases r with
  | nil =>
   simp only [tget,Option.some.injEq] at hr
   exact .inl ⟨rfl,rfl,by simp,hr.symm⟩
  | cons a r =>
   obtain ⟨j2,v2⟩ := a
   simp only [tget] at hr
   by_cases hjj : j2 = j
   ·subst hjj
    rw [List.getElem?_set_self hj] at hr
    split at hr
    ·rename_i v' n sz ys hc
     cases hc
     split at hr
     ·rename_i hv
      have := beq_iff_eq.1 hv
      subst this
      exact .inr (.inl ⟨v2,n,sz,ys,r,rfl,rfl,rfl,rfl,hr⟩)
     ·cases hr
    ·cases hr
   ·rw [List.getElem?_set_ne (Ne.symm hjj)] at hr
    refine .inr (.inr ⟨fun hh => ?_,fun hh => ?_,zs',?_,SimL.refl _⟩)
    ·have := hh.2.2
     simp at this
    ·obtain ⟨v,r',_,_,hh⟩ := hh
     have := List.append_cancel_left hh
     simp only [List.cons.injEq,Prod.mk.injEq] at this
     exact hjj this.1.1
    ·rw [mget_append,h.old]
     simp only [Option.bind_some,tget]
     exact hr
 ·refine .inr (.inr ⟨fun hh => hn ⟨hh.1,hh.2.1,[],by simp [hh.2.2]⟩,fun hh => ?_,zs,hz,hs⟩)
  obtain ⟨v,r,h1,h2,h3⟩ := hh
  exact hn ⟨h1,h2,(j,v) :: r,h3⟩
theorem tget_cells {cs : List PV} (h : ∀ c ∈ cs,c.isCell = true) : ∀ {r : Path} {zs : List PV},tget cs r = some zs → r = [] ∧ zs = cs
 | [],zs,hr => by simp only [tget,Option.some.injEq] at hr; exact ⟨rfl,hr.symm⟩
 | a :: r,zs,hr => by
  simp only [tget] at hr
  split at hr
  ·rename_i hc
   have := h _ (List.mem_of_getElem? hc)
   simp [PV.isCell] at this
  ·cases hr
theorem isFree_eq {st st' : St} (hd : st'.dead = st.dead) {s : Nat} (hs : (get st'.own s).isSome = (get st.own s).isSome) : isFree st' s = isFree st s := by
 unfold isFree
 rw [hd]
 cases h1 : get st'.own s <;> cases h2 : get st.own s <;> simp_all
def MC (g : Gh) (lv sl : Nat) (p : Path) (j : Nat) : PV → Value → Prop
 | .vec ver n sz cs,rv => ∃ b o t o' c,g.blk lv sl (p ++ [(j,ver)]) = some (b,o,t) ∧ rv = .slice (some ⟨b,o',none⟩) n c ∧ (n ≤ c ∧ c ≤ 9223372036854775807) ∧ (c ≠ 0 → o' = o ∧ o + c * sz ≤ t) ∧ cs.length = n * sz
 | .vnil _ _,rv => rv = .slice none 0 0
 | .vfrz _ sz xs,rv => PV.deps (lv + 1) xs = true ∧ V g (.lst none false sz xs) rv
 | .gone _ _,rv => vcell rv = true
 | .lrec _,_ => False
 | c,rv => c.isCell = true ∧ c.untag1 = c ∧ c.dep (lv + 1) = true ∧ V g c rv
theorem MC.plain {g : Gh} {lv sl : Nat} {p : Path} {j : Nat} {c : PV} {rv : Value} (h : c.isCell = true) : MC g lv sl p j c rv ↔ c.untag1 = c ∧ c.dep (lv + 1) = true ∧ V g c rv := by
 cases c <;> first | (simp [PV.isCell] at h; done) | (simp only [MC,h,true_and])
theorem MC.cell {g : Gh} {lv sl : Nat} {p : Path} {j : Nat} {c : PV} {rv : Value} (h : MC g lv sl p j c rv) (hp : isPlace c = false) : c.isCell = true := by
 cases c <;> first | exact h.1 | (simp [isPlace] at hp)
theorem MC.vcell {g : Gh} {lv sl : Nat} {p : Path} {j : Nat} {c : PV} {rv : Value} (h : MC g lv sl p j c rv) : vcell rv = true := by
 cases c with
 | vec => obtain ⟨_,_,_,_,_,_,rfl,_⟩ := h; rfl
 | vnil => have h' : rv = .slice none 0 0 := h; subst h'; rfl
 | vfrz => exact h.2.vcell rfl
 | gone => exact h
 | lrec => exact h.elim
 | _ => exact h.2.2.2.vcell h.1
theorem MC.mono {g g' : Gh} (hle : g.le g') {lv sl : Nat} {p : Path} {j : Nat} {c : PV} {rv : Value} (h : MC g lv sl p j c rv) : MC g' lv sl p j c rv := by
 cases c with
 | vec => obtain ⟨b,o,t,o',c,h1,h2⟩ := h; exact ⟨b,o,t,o',c,hle.blk _ _ _ _ h1,h2⟩
 | vnil => exact h
 | vfrz => exact ⟨h.1,h.2.mono hle⟩
 | gone => exact h
 | lrec => exact h.elim
 | _ => exact ⟨h.1,h.2.1,h.2.2.1,h.2.2.2.mono hle⟩
theorem MC.sim {g : Gh} {lv sl : Nat} {p : Path} {j : Nat} {c c' : PV} {rv : Value} (h : MC g lv sl p j c rv) (hs : Sim c c') : MC g lv sl p j c' rv := by
 cases hs with
 | refl => exact h
 | vec v n sz a b hl => obtain ⟨b',o,t,o',c,h1,h2,h3,h4,h5⟩ := h; exact ⟨b',o,t,o',c,h1,h2,h3,h4,hl ▸ h5⟩
def turned (r : Loop) (s : Nat) : Loop :=
 { r with
  state := match s with | 0 => .ready | 1 => .busy | _ => .done
  pending := match s with | 0 => none | 1 => r.pending | 2 => some .ret | k + 3 => some (.exit k) }
structure Rel (g : Gh) (m : Mem) (w : World) : Prop where
 hG : ∀ b o v,g.G b o = some v → w.cell? ⟨b,o,none⟩ = some v ∧ vcell v = true
 hM : ∀ lv sl p b o t,g.blk lv sl p = some (b,o,t) → ∀ cs,mget m lv sl p = some cs → ∃ C E,w.heap[b]? = some (.cells C E (0,0)) ∧ C.size = t ∧ o + cs.length ≤ t ∧
  (∀ j c,cs[j]? = some c → MC g lv sl p j c (C.getD (o + j) undef)) ∧ ∀ q,g.G b q = none
 hL : ∀ lv sl l r,g.lp lv sl = some (l,r) → ∀ cs,mget m lv sl [] = some cs → ∃ s,cs = [.lrec s] ∧ ∃ pn,w.heap[l]? = some (.loop (turned { r with pending := pn } s))
 inj : ∀ l s p l' s' p' b o t o' t' cs cs',g.blk l s p = some (b,o,t) → g.blk l' s' p' = some (b,o',t') → mget m l s p = some cs → mget m l' s' p' = some cs' → l = l' ∧ s = s' ∧ p = p'
 injL : ∀ l s l' s' b r r' cs cs',g.lp l s = some (b,r) → g.lp l' s' = some (b,r') → mget m l s [] = some cs → mget m l' s' [] = some cs' → l = l' ∧ s = s'
 ver : ∀ lv sl p j v x,g.blk lv sl (p ++ [(j,v)]) = some x → ∀ cs,mget m lv sl p = some cs → ∃ c,cs[j]? = some c ∧ v < nextVer c
 lv : ∀ l s p x,g.blk l s p = some x → l < m.length
 lpv : ∀ l s x,g.lp l s = some x → l < m.length
 bd : ∀ l s p b o t,g.blk l s p = some (b,o,t) → b < w.heap.size
 bdL : ∀ l s b r,g.lp l s = some (b,r) → b < w.heap.size
 pre : ∀ lv sl q x y,g.blk lv sl (q ++ [x]) = some y → ∃ z,g.blk lv sl q = some z
end Go.Proofs.Ytmffcpiffkclgaa.ZJM
