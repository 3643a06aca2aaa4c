/- What holds of a frame under way: the invariant, and how each kind of step keeps it. -/
import Derived.Test.YtmffcpiffkclgaaZJ3
import Derived.Laws.AppendOwn
import Derived.Laws.OwnMore
import Derived.Maps.AppendAt
set_option linter.unusedSimpArgs false
set_option linter.unusedVariables false
namespace Go.Proofs.Ytmffcpiffkclgaa.ZJM
open Go.RowKit
def TgC (tops : List (Nat × Nat × Nat)) (om : Nat → Value) (szm : Nat → Nat) : PV → Value → Prop
 | .lst (some n) _ sz xs,rv => ∃ p,get tops n = some p ∧ xs.length ≤ p.1 ∧ (p.1 = xs.length → rv = om n ∧ szm n = sz)
 | _,_ => True
def Tg (tops : List (Nat × Nat × Nat)) (om : Nat → Value) (szm : Nat → Nat) (v : PV) (rv : Value) : Prop :=
 match v with
 | .agg cs => ∀ vs,rv = .agg vs → ∀ (j : Nat) (c : PV),cs[j]? = some c → TgC tops om szm c (vs.getD j undef)
 | .tup cs => ∀ vs,rv = .tuple vs → ∀ (j : Nat) (c : PV),cs[j]? = some c → TgC tops om szm c (vs.getD j undef)
 | v => TgC tops om szm v rv
theorem TgC.untagged {tops : List (Nat × Nat × Nat)} {om : Nat → Value} {szm : Nat → Nat} {v : PV} {rv : Value} : TgC tops om szm v.untag1 rv := by cases v <;> trivial
def noTag : PV → Prop
 | .agg cs => ∀ c ∈ cs,c.untag1 = c
 | .tup cs => ∀ c ∈ cs,c.untag1 = c
 | v => v.untag1 = v
theorem TgC_of {tops : List (Nat × Nat × Nat)} {om : Nat → Value} {szm : Nat → Nat} {v : PV} {rv : Value} (h : v.untag1 = v) : TgC tops om szm v rv := by rw [← h]; exact TgC.untagged
theorem Tg_no {tops : List (Nat × Nat × Nat)} {om : Nat → Value} {szm : Nat → Nat} {v : PV} {rv : Value} (h : noTag v) : Tg tops om szm v rv := by
 cases v <;> first
  | exact fun vs _ j c hj => TgC_of (h c (getElem?_mem' hj))
  | exact TgC_of (tops := tops) (om := om) (szm := szm) (rv := rv) h
theorem noTag_untag {v : PV} (hv : v.isVal = true) (h : v.untag = v) : noTag v := by
 cases v with
 | agg cs =>
  simp only [PV.untag,PV.agg.injEq] at h
  intro c hc
  obtain ⟨j,hj⟩ := List.getElem?_of_mem hc
  have := congrArg (fun l => l[j]?) h
  simp only [List.getElem?_map,hj,Option.map_some,Option.some.injEq] at this
  exact this
 | tup => simp [PV.isVal,PV.isCell] at hv
 | _ => exact h
theorem Tg.untag {tops : List (Nat × Nat × Nat)} {om : Nat → Value} {szm : Nat → Nat} {v : PV} {rv : Value} (ht : ∀ cs,v ≠ .tup cs) : Tg tops om szm v.untag rv := by
 cases v with
 | agg cs =>
  simp only [PV.untag,Tg]
  intro vs _ j c hj
  rw [List.getElem?_map] at hj
  obtain ⟨d,_,rfl⟩ := Option.map_eq_some_iff.1 hj
  exact TgC.untagged
 | tup cs => exact absurd rfl (ht cs)
 | _ => simp only [PV.untag,PV.untag1,Tg]; trivial
def Gh.free (g : Gh) (b : Nat) : Prop := (∀ l s p o t,g.blk l s p ≠ some (b,o,t)) ∧ ∀ l s r,g.lp l s ≠ some (b,r)
def Own (g : Gh) (w0 w : World) (om : Nat → Value) (szm : Nat → Nat) (n : Nat) (p : Nat × Nat) : Prop :=
 ∃ vals,w.ownsRow w0.heap.size p.2 (szm n) (om n) p.1 vals ∧ ∀ b,(om n).ownBlock = some b → g.free b ∧ ∀ j,g.G b j = vals[j]?
structure Kp (d : Nat) (g0 : Gh) (w0 : World) (g : Gh) (w : World) : Prop where
 size : w0.heap.size ≤ w.heap.size
 keep : ∀ b,b < w0.heap.size → g0.free b → w.heap[b]? = w0.heap[b]? ∧ ∀ q,g.G b q = g0.G b q
 G : ∀ b o v,g0.G b o = some v → g.G b o = some v
 blk : ∀ l s p x,l < d → g0.blk l s p = some x → g.blk l s p = some x
 lpl : ∀ l s,l < d → g.lp l s = g0.lp l s
 new : ∀ l s p b o t,g.blk l s p = some (b,o,t) → (∃ l' s' p' o' t',g0.blk l' s' p' = some (b,o',t')) ∨ w0.heap.size ≤ b
 newL : ∀ l s b r,g.lp l s = some (b,r) → (∃ l' s' r',g0.lp l' s' = some (b,r')) ∨ w0.heap.size ≤ b
 root : ∀ l s p x,l < d → g.blk l s p = some x → ∃ q y,g0.blk l s q = some y
 os : w.os = w0.os
 tape : w.tape = w0.tape
 output : w.output = w0.output
 ok : g.ok = g0.ok
theorem Kp.refl (d : Nat) (g : Gh) (w : World) : Kp d g w g w :=
 ⟨Nat.le_refl _,fun _ _ _ => ⟨rfl,fun _ => rfl⟩,fun _ _ _ h => h,fun _ _ _ _ _ h => h,fun _ _ _ => rfl,fun l s p b o t h => .inl ⟨l,s,p,o,t,h⟩,fun l s b r h => .inl ⟨l,s,r,h⟩,fun l s p x _ h => ⟨p,x,h⟩,rfl,rfl,rfl,rfl⟩
theorem Kp.free {d : Nat} {g0 g : Gh} {w0 w : World} (h : Kp d g0 w0 g w) {b : Nat} (hb : b < w0.heap.size) (hf : g0.free b) : g.free b := by
 refine ⟨fun l s p o t hh => ?_,fun l s r hh => ?_⟩
 ·rcases h.new _ _ _ _ _ _ hh with ⟨l',s',p',o',t',h2⟩ | h2
  ·exact hf.1 _ _ _ _ _ h2
  ·omega
 ·rcases h.newL _ _ _ _ hh with ⟨l',s',r',h2⟩ | h2
  ·exact hf.2 _ _ _ h2
  ·omega
theorem Kp.trans {d : Nat} {g0 g g' : Gh} {w0 w w' : World} (h : Kp d g0 w0 g w) (k : Kp d g w g' w') : Kp d g0 w0 g' w' := by
 refine ⟨Nat.le_trans h.size k.size,fun b hb hf => ?_,fun b o v hv => k.G _ _ _ (h.G _ _ _ hv),fun l s p x hl hx => k.blk _ _ _ _ hl (h.blk _ _ _ _ hl hx),fun l s hl => (k.lpl l s hl).trans (h.lpl l s hl),fun l s p b o t hb => ?_,
  fun l s b r hb => ?_,fun l s p x hl hx => ?_,k.os.trans h.os,k.tape.trans h.tape,k.output.trans h.output,k.ok.trans h.ok⟩
 ·obtain ⟨h1,h2⟩ := h.keep b hb hf
  obtain ⟨h3,h4⟩ := k.keep b (Nat.lt_of_lt_of_le hb h.size) (h.free hb hf)
  exact ⟨h3.trans h1,fun q => (h4 q).trans (h2 q)⟩
 ·rcases k.new _ _ _ _ _ _ hb with ⟨l',s',p',o',t',h2⟩ | h2
  ·exact h.new _ _ _ _ _ _ h2
  ·exact .inr (Nat.le_trans h.size h2)
 ·rcases k.newL _ _ _ _ hb with ⟨l',s',r',h2⟩ | h2
  ·exact h.newL _ _ _ _ h2
  ·exact .inr (Nat.le_trans h.size h2)
 ·obtain ⟨q,y,h2⟩ := k.root _ _ _ _ hl hx
  exact h.root _ _ _ _ hl h2
def Marks (g : Gh) (w0 w : World) (ds : List Deferred) : Prop := ∀ x ∈ ds,∃ D,x = { target := .collected D,args := #[] } ∧ w.heap[D]? = some (.deferred (some [])) ∧ w0.heap.size ≤ D ∧ g.free D
structure Inv (d nt : Nat) (m0 : Mem) (g0 : Gh) (w0 : World) (g : Gh) (om : Nat → Value) (szm : Nat → Nat) (st : St) (a : Act) (w : World) : Prop where
 rel : Rel g (st.own :: st.m) w
 lv : st.m.length = d
 f : ∀ t v,get st.f t = some v → t < nt ∧ V g v (a.tmps.getD t undef) ∧ Tg st.tops om szm v (a.tmps.getD t undef)
 nt : a.tmps.size = nt
 df : Marks g w0 w a.defers
 dn : a.defers.Nodup
 own : ∀ n p,get st.tops n = some p → Own g w0 w om szm n p
 apart : ∀ n n' p p',n ≠ n' → get st.tops n = some p → get st.tops n' = some p' → (om n).ownBlock = none ∨ (om n).ownBlock ≠ (om n').ownBlock
 kp : Kp d g0 w0 g w
 nm : ∀ s p x,g.blk d s p = some x → isFree st s = false
 nmL : ∀ s x,g.lp d s = some x → isFree st s = false
 roots : ∀ l s,l < d → (mget st.m l s []).isSome = (mget m0 l s []).isSome
theorem put_get (a : Act) {d : Nat} (v : Value) (h : d < a.tmps.size) (t : Nat) : (a.put (some d) v).tmps.getD t undef = if d = t then v else a.tmps.getD t undef := by
 simp only [Act.put,Array.getD_eq_getD_getElem?,Array.getElem?_setIfInBounds]
 by_cases hd : d = t
 ·subst hd; simp [h]
 ·simp [hd]
theorem ownsRow_grown {base : Nat} {e : TypeId} {size : Nat} {v : Value} {n : Nat} {xs : List Value} {w w' : World} (h : w.ownsRow base e size v n xs)
  (hb : ∀ b,v.ownBlock = some b → w'.heap[b]? = w.heap[b]?) : w'.ownsRow base e size v n xs := by
 refine ⟨h.1,?_⟩
 rcases h.2 with h2 | ⟨g,cap,cur,h1,h2,h3,h4⟩
 ·exact .inl h2
 ·exact .inr ⟨g,cap,cur,h1,h2,by rw [hb g (by rw [h1]; rfl)]; exact h3,h4⟩
section
variable {d nt : Nat} {m0 : Mem} {g0 : Gh} {w0 : World} {g : Gh} {om : Nat → Value} {szm : Nat → Nat} {st : St} {a : Act} {w : World}
theorem Inv.put (h : Inv d nt m0 g0 w0 g om szm st a w) {dst : Option Nat} (hd : ∀ t,dst = some t → t < nt) {v : PV} {rv : Value} (hv : V g v rv) (ht : Tg st.tops om szm v rv) :
  Inv d nt m0 g0 w0 g om szm (st.put dst v) (a.put dst rv) w := by
 cases dst with
 | none => exact h
 | some t0 =>
  have hlt : t0 < a.tmps.size := by rw [h.nt]; exact hd t0 rfl
  refine ⟨h.rel,h.lv,fun t v' hv' => ?_,by simp [Act.put,h.nt],h.df,h.dn,h.own,h.apart,h.kp,h.nm,h.nmL,h.roots⟩
  simp only [St.put] at hv'
  rw [get_cons] at hv'
  rw [put_get a rv hlt]
  by_cases he : t0 = t
  ·rw [if_pos he] at hv' ⊢
   cases hv'
   exact ⟨he ▸ hd t0 rfl,hv,ht⟩
  ·rw [if_neg he] at hv' ⊢
   exact h.f t v' hv'
theorem Inv.ownLt (h : Inv d nt m0 g0 w0 g om szm st a w) {n : Nat} {p : Nat × Nat} {b : Nat} (hp : get st.tops n = some p) (hb : (om n).ownBlock = some b) : w0.heap.size ≤ b ∧ b < w.heap.size := by
 obtain ⟨vals,h1,_⟩ := h.own n p hp
 exact h1.lt b hb
theorem Inv.turn (h : Inv d nt m0 g0 w0 g om szm st a w) {g' : Gh} {w' : World} {own' : Lvl} {dead' : List Nat} {m' : Mem} (hle : g.le g') (hrel : Rel g' (own' :: m') w') (hlen : m'.length = d) (hk : Kp d g w g' w')
  (hnm : ∀ s p x,g'.blk d s p = some x → isFree { st with own := own',dead := dead',m := m' } s = false) (hnmL : ∀ s x,g'.lp d s = some x → isFree { st with own := own',dead := dead',m := m' } s = false)
  (hroots : ∀ l s,l < d → (mget m' l s []).isSome = (mget st.m l s []).isSome) : Inv d nt m0 g0 w0 g' om szm { st with own := own',dead := dead',m := m' } a w' := by
 refine ⟨hrel,hlen,fun t v hv => ?_,h.nt,fun x hx => ?_,h.dn,fun n p hp => ?_,h.apart,h.kp.trans hk,hnm,hnmL,fun l s hl => (hroots l s hl).trans (h.roots l s hl)⟩
 ·obtain ⟨h1,h2,h3⟩ := h.f t v hv
  exact ⟨h1,h2.mono hle,h3⟩
 ·obtain ⟨D,h1,h2,h3,h4⟩ := h.df x hx
  have hlt := (Array.getElem?_eq_some_iff.1 h2).1
  exact ⟨D,h1,by rw [(hk.keep D hlt h4).1]; exact h2,h3,hk.free hlt h4⟩
 ·obtain ⟨vals,h1,h2⟩ := h.own n p hp
  refine ⟨vals,ownsRow_grown h1 fun b hb => (hk.keep b (h.ownLt hp hb).2 (h2 b hb).1).1,fun b hb => ?_⟩
  obtain ⟨h3,h4⟩ := h2 b hb
  exact ⟨hk.free (h.ownLt hp hb).2 h3,fun j => ((hk.keep b (h.ownLt hp hb).2 h3).2 j).trans (h4 j)⟩
theorem heap_alloc_at (w : World) (o : Obj) (b : Nat) : (w.alloc o).heap[b]? = if b = w.heap.size then some o else w.heap[b]? := by
 show (w.heap.push o)[b]? = _
 rw [Array.getElem?_push]
theorem heap_alloc_old (w : World) (o : Obj) {b : Nat} (hb : b < w.heap.size) : (w.alloc o).heap[b]? = w.heap[b]? := by rw [heap_alloc_at,if_neg (by omega)]
theorem Rel.G_lt {m : Mem} (hR : Rel g m w) {b o : Nat} {v : Value} (h : g.G b o = some v) : b < w.heap.size := by
 have := (hR.hG b o v h).1
 simp only [World.cell?] at this
 split at this
 ·rename_i c _ _ he; exact (Array.getElem?_eq_some_iff.1 he).1
 ·cases this
theorem Rel.world {m : Mem} (hR : Rel g m w) {w' : World} {g' : Gh} (hsz : w.heap.size ≤ w'.heap.size) (hG' : ∀ b o v,g'.G b o = some v → w'.cell? ⟨b,o,none⟩ = some v ∧ vcell v = true) (hle : ∀ b o v,g.G b o = some v → g'.G b o = some v)
  (hblk : g'.blk = g.blk) (hlp : g'.lp = g.lp) (hok : g'.ok = g.ok) (hcells : ∀ b C E,w.heap[b]? = some (.cells C E (0,0)) → (∃ l s p o t cs,g.blk l s p = some (b,o,t) ∧ mget m l s p = some cs) → w'.heap[b]? = some (.cells C E (0,0)) ∧ ∀ q,g'.G b q = g.G b q)
  (hloop : ∀ (b : Nat) (r : Loop),w.heap[b]? = some (.loop r) → w'.heap[b]? = some (.loop r)) : Rel g' m w' := by
 have hgl : g.le g' := ⟨hle,fun l s p x h => by rw [hblk]; exact h,fun l s x h => by rw [hlp]; exact h,hok⟩
 refine ⟨hG',fun lv sl p b o t hb cs hcs => ?_,fun lv sl l r hl cs hcs => ?_,fun l s p l' s' p' b o t o' t' cs cs' h1 h2 => ?_,fun l s l' s' b r r' cs cs' h1 h2 => ?_,fun lv sl p j v x h1 => ?_,fun l s p x h1 => ?_,fun l s x h1 => ?_,fun l s p b o t h1 => by rw [hblk] at h1; exact Nat.lt_of_lt_of_le (hR.bd _ _ _ _ _ _ h1) hsz,fun l s b r h1 => by rw [hlp] at h1; exact Nat.lt_of_lt_of_le (hR.bdL _ _ _ _ h1) hsz,fun lv sl q x y h1 => by rw [hblk] at h1 ⊢; exact hR.pre _ _ _ _ _ h1⟩
 ·rw [hblk] at hb
  obtain ⟨C,E,h1,h2,h3,h4,h5⟩ := hR.hM _ _ _ _ _ _ hb _ hcs
  obtain ⟨h6,h7⟩ := hcells b C E h1 ⟨_,_,_,_,_,_,hb,hcs⟩
  exact ⟨C,E,h6,h2,h3,fun j c hj => (h4 j c hj).mono hgl,fun q => by rw [h7 q]; exact h5 q⟩
 ·rw [hlp] at hl
  obtain ⟨s,h1,pn,h2⟩ := hR.hL _ _ _ _ hl _ hcs
  exact ⟨s,h1,pn,hloop _ _ h2⟩
 ·rw [hblk] at h1 h2; exact hR.inj _ _ _ _ _ _ _ _ _ _ _ _ _ h1 h2
 ·rw [hlp] at h1 h2; exact hR.injL _ _ _ _ _ _ _ _ _ h1 h2
 ·rw [hblk] at h1; exact hR.ver _ _ _ _ _ _ h1
 ·rw [hblk] at h1; exact hR.lv _ _ _ _ h1
 ·rw [hlp] at h1; exact hR.lpv _ _ _ h1
theorem Rel.freeNew {m : Mem} (hR : Rel g m w) : g.free w.heap.size := ⟨fun l s p o t hh => Nat.lt_irrefl _ (hR.bd _ _ _ _ _ _ hh),fun l s r hh => Nat.lt_irrefl _ (hR.bdL _ _ _ _ hh)⟩
theorem Inv.freeNew (h : Inv d nt m0 g0 w0 g om szm st a w) : g.free w.heap.size := h.rel.freeNew
def Gh.row (g : Gh) (b : Nat) (C : Array Value) (n : Nat) : Gh := { g with G := fun b' j => if b' = b then (if j < n then C[j]? else none) else g.G b' j }
theorem Gh.row_le {m : Mem} (hR : Rel g m w) (C : Array Value) (n : Nat) : g.le (g.row w.heap.size C n) := by
 refine ⟨fun b o v h => ?_,fun _ _ _ _ h => h,fun _ _ _ h => h,rfl⟩
 have := hR.G_lt h
 simp only [Gh.row]
 rw [if_neg (by omega)]
 exact h
theorem Inv.row (h : Inv d nt m0 g0 w0 g om szm st a w) {C : Array Value} {E : TypeId} {n : Nat} (hC : ∀ j v,C[j]? = some v → j < n → vcell v = true) :
  Inv d nt m0 g0 w0 (g.row w.heap.size C n) om szm st a (w.alloc (.cells C E (0,0))) := by
 have hle := Gh.row_le h.rel C n
 have hGo : ∀ b,b < w.heap.size → ∀ q,(g.row w.heap.size C n).G b q = g.G b q := fun b hb q => by simp only [Gh.row]; rw [if_neg (by omega)]
 have := h.turn (g' := g.row w.heap.size C n) (w' := w.alloc (.cells C E (0,0))) (own' := st.own) (dead' := st.dead) (m' := st.m) hle
  (h.rel.world (by simp) (fun b o v hb => by
   simp only [Gh.row] at hb
   by_cases he : b = w.heap.size
   ·rw [if_pos he] at hb
    split at hb
    ·rename_i hlt
     refine ⟨?_,hC o v hb hlt⟩
     simp only [World.cell?,heap_alloc_at,if_pos he]
     simpa using hb
    ·cases hb
   ·rw [if_neg he] at hb
    obtain ⟨h1,h2⟩ := h.rel.hG b o v hb
    refine ⟨?_,h2⟩
    have hlt := h.rel.G_lt hb
    simp only [World.cell?,heap_alloc_old _ _ hlt]
    simpa [World.cell?] using h1) hle.G rfl rfl rfl
   (fun b C' E' hb _ => by
    have hlt := (Array.getElem?_eq_some_iff.1 hb).1
    exact ⟨by rw [heap_alloc_old _ _ hlt]; exact hb,hGo b hlt⟩)
   (fun b r hb => by
    have hlt := (Array.getElem?_eq_some_iff.1 hb).1
    rw [heap_alloc_old _ _ hlt]; exact hb)) h.lv
  ⟨by simp,fun b hb _ => ⟨heap_alloc_old _ _ hb,hGo b hb⟩,hle.G,fun _ _ _ _ _ x => x,fun _ _ _ => rfl,fun l s p b o t x => .inl ⟨l,s,p,o,t,x⟩,fun l s b r x => .inl ⟨l,s,r,x⟩,fun l s p x _ y => ⟨p,x,y⟩,rfl,rfl,rfl,rfl⟩
  h.nm h.nmL (fun _ _ _ => rfl)
 exact this
theorem TgC.cons {tops : List (Nat × Nat × Nat)} {om om' : Nat → Value} {szm szm' : Nat → Nat} {n : Nat} {p : Nat × Nat} (hn : get tops n = none ∨ ∃ q,get tops n = some q ∧ q.1 = 0 ∧ p.1 ≠ 0)
  (ho : ∀ k,k ≠ n → om' k = om k ∧ szm' k = szm k) {v : PV} {rv : Value} (h : TgC tops om szm v rv) : TgC ((n,p) :: tops) om' szm' v rv := by
 cases v with
 | lst o nl sz xs =>
  cases o with
  | none => trivial
  | some k =>
   obtain ⟨q,h1,h2,h3⟩ := h
   by_cases hk : n = k
   ·subst hk
    rcases hn with hn | ⟨q',hq,h0,hp⟩
    ·rw [hn] at h1; cases h1
    ·rw [hq] at h1; cases h1
     exact ⟨p,by rw [get_cons,if_pos rfl],by omega,fun he => by omega⟩
   ·refine ⟨q,by rw [get_cons,if_neg hk]; exact h1,h2,fun he => ?_⟩
    rw [(ho k (Ne.symm hk)).1,(ho k (Ne.symm hk)).2]
    exact h3 he
 | _ => trivial
theorem Tg.of_cells {tops tops' : List (Nat × Nat × Nat)} {om om' : Nat → Value} {szm szm' : Nat → Nat} (hc : ∀ v rv,TgC tops om szm v rv → TgC tops' om' szm' v rv) {v : PV} {rv : Value}
  (h : Tg tops om szm v rv) : Tg tops' om' szm' v rv := by
 cases v with
 | agg cs => exact fun vs hv j c hj => hc _ _ (h vs hv j c hj)
 | tup cs => exact fun vs hv j c hj => hc _ _ (h vs hv j c hj)
 | _ => simp only [Tg] at h ⊢; exact hc _ _ h
theorem Inv.tag (h : Inv d nt m0 g0 w0 g om szm st a w) {n : Nat} {p : Nat × Nat} {rv : Value} {sz : Nat} (hn : get st.tops n = none ∨ ∃ q,get st.tops n = some q ∧ q.1 = 0 ∧ p.1 ≠ 0)
  (hown : ∃ vals,w.ownsRow w0.heap.size p.2 sz rv p.1 vals ∧ ∀ b,rv.ownBlock = some b → g.free b ∧ ∀ j,g.G b j = vals[j]?)
  (hap : ∀ k q b,get st.tops k = some q → k ≠ n → (om k).ownBlock = some b → rv.ownBlock ≠ some b) :
  Inv d nt m0 g0 w0 g (fun k => if k = n then rv else om k) (fun k => if k = n then sz else szm k) { st with tops := (n,p) :: st.tops } a w := by
 have ho : ∀ k,k ≠ n → (fun k => if k = n then rv else om k) k = om k ∧ (fun k => if k = n then sz else szm k) k = szm k := fun k hk => by simp [hk]
 have hT : ∀ v r,TgC st.tops om szm v r → TgC ((n,p) :: st.tops) (fun k => if k = n then rv else om k) (fun k => if k = n then sz else szm k) v r := fun v r => TgC.cons hn ho
 refine ⟨h.rel,h.lv,fun t v hv => ?_,h.nt,h.df,h.dn,fun k q hq => ?_,fun k k' q q' hk hq hq' => ?_,h.kp,h.nm,h.nmL,h.roots⟩
 ·obtain ⟨h1,h2,h3⟩ := h.f t v hv
  exact ⟨h1,h2,Tg.of_cells hT h3⟩
 ·rw [get_cons] at hq
  by_cases hk : n = k
  ·rw [if_pos hk] at hq; cases hq; subst hk
   simpa [Own] using hown
  ·rw [if_neg hk] at hq
   have := h.own k q hq
   simpa [Own,Ne.symm hk] using this
 ·rw [get_cons] at hq hq'
  by_cases hk1 : n = k
  ·subst hk1
   rw [if_neg hk] at hq'
   simp only [if_true,Ne.symm hk,if_false]
   cases hb : (om k').ownBlock with
   | none => cases hr : rv.ownBlock <;> simp
   | some b =>
    have := hap k' q' b hq' (Ne.symm hk) hb
    exact .inr this
  ·rw [if_neg hk1] at hq
   by_cases hk2 : n = k'
   ·subst hk2
    simp only [if_true,Ne.symm hk1,if_false]
    cases hb : (om k).ownBlock with
    | none => exact .inl rfl
    | some b =>
     have := hap k q b hq (Ne.symm hk1) hb
     exact .inr (fun he => this he.symm)
   ·rw [if_neg hk2] at hq'
    simp only [Ne.symm hk1,Ne.symm hk2,if_false]
    exact h.apart k k' q q' hk hq hq'
end
end Go.Proofs.Ytmffcpiffkclgaa.ZJM
set_option linter.unusedSimpArgs false
set_option linter.unusedVariables false
namespace Go.Proofs.Ytmffcpiffkclgaa.ZJM
open Go.RowKit
section
variable {P : Program} {d nt : Nat} {m0 : Mem} {g0 : Gh} {w0 : World} {g : Gh} {om : Nat → Value} {szm : Nat → Nat} {st : St} {a : Act} {w : World}
def Gh.key (g : Gh) (lv sl : Nat) (p : Path) (x : Nat × Nat × Nat) : Gh := { g with blk := fun l s q => if l = lv ∧ s = sl ∧ q = p then some x else g.blk l s q }
theorem Gh.key_le {lv sl : Nat} {p : Path} {x : Nat × Nat × Nat} (hn : g.blk lv sl p = none) : g.le (g.key lv sl p x) := by
 refine ⟨fun _ _ _ h => h,fun l s q y h => ?_,fun _ _ _ h => h,rfl⟩
 simp only [Gh.key]
 split
 ·rename_i hc; obtain ⟨rfl,rfl,rfl⟩ := hc; rw [hn] at h; cases h
 ·exact h
theorem Gh.key_here {lv sl : Nat} {p : Path} {x : Nat × Nat × Nat} : (g.key lv sl p x).blk lv sl p = some x := by simp [Gh.key]
theorem Gh.key_cases {lv sl l s : Nat} {p q : Path} {x y : Nat × Nat × Nat} (h : (g.key lv sl p x).blk l s q = some y) : (l = lv ∧ s = sl ∧ q = p ∧ y = x) ∨ (¬ (l = lv ∧ s = sl ∧ q = p) ∧ g.blk l s q = some y) := by
 simp only [Gh.key] at h
 split at h
 ·rename_i hc; cases h; exact .inl ⟨hc.1,hc.2.1,hc.2.2,rfl⟩
 ·rename_i hc; exact .inr ⟨hc,h⟩
theorem isFree_iff {s : Nat} : isFree st s = true ↔ get st.own s = none ∧ st.dead.contains s = false := by
 unfold isFree
 cases get st.own s <;> simp
theorem lget_cells {own : Lvl} {sl : Nat} {cs : List PV} {p : Path} {zs : List PV} (hg : get own sl = some cs) (h : ∀ c ∈ cs,c.isCell = true) (hz : lget own sl p = some zs) : p = [] ∧ zs = cs := by
 unfold lget at hz
 rw [hg] at hz
 exact tget_cells h hz
theorem Rel.blkLt {m : Mem} {w : World} (hR : Rel g m w) {l s b o t : Nat} {p : Path} {cs : List PV} (hb : g.blk l s p = some (b,o,t)) (hc : mget m l s p = some cs) : b < w.heap.size := by
 obtain ⟨C,E,h,_⟩ := hR.hM _ _ _ _ _ _ hb _ hc
 exact (Array.getElem?_eq_some_iff.1 h).1
theorem Inv.addRoot (h : Inv d nt m0 g0 w0 g om szm st a w) {dst : Nat} (hn : isFree st dst = true) {cs : List PV} {b1 o1 : Nat} {C : Array Value} {E : TypeId} {w' : World} (hh1 : w'.heap[b1]? = some (.cells C E (0,0))) (hl : o1 + cs.length ≤ C.size)
  (hc : ∀ j c,cs[j]? = some c → c.isCell = true ∧ c.untag1 = c ∧ V g c (C.getD (o1 + j) undef)) (hws : w.heap.size ≤ w'.heap.size) (hwo : ∀ k,k < w.heap.size → k ≠ b1 → w'.heap[k]? = w.heap[k]?) (hos : w'.os = w.os) (htp : w'.tape = w.tape) (hout : w'.output = w.output)
  (hG1 : ∀ q,g.G b1 q = none) (hlive : ∀ l s q o' t' zs,g.blk l s q = some (b1,o',t') → mget (st.own :: st.m) l s q ≠ some zs) (hliveL : ∀ l s r zs,g.lp l s = some (b1,r) → mget (st.own :: st.m) l s [] ≠ some zs) (hkn : (∃ l s q o' t',g.blk l s q = some (b1,o',t')) ∨ w.heap.size ≤ b1) :
  ∃ g',g.le g' ∧ Inv d nt m0 g0 w0 g' om szm { st with own := (dst,cs) :: st.own } a w' ∧ g'.blk d dst [] = some (b1,o1,C.size) := by
 obtain ⟨hno,hnd⟩ := isFree_iff.1 hn
 have hb0 : ∀ p,g.blk d dst p = none := fun p => by
  cases hb : g.blk d dst p with
  | none => rfl
  | some x => have := h.nm _ _ _ hb; rw [hn] at this; cases this
 have hl0 : g.lp d dst = none := by
  cases hb : g.lp d dst with
  | none => rfl
  | some x => have := h.nmL _ _ hb; rw [hn] at this; cases this
 let g' := g.key d dst [] (b1,o1,C.size)
 have hle : g.le g' := Gh.key_le (hb0 [])
 have hcell : ∀ c ∈ cs,c.isCell = true := fun c hcm => by obtain ⟨j,hj⟩ := List.getElem?_of_mem hcm; exact (hc j c hj).1
 have hb1lt : b1 < w'.heap.size := (Array.getElem?_eq_some_iff.1 hh1).1
 have hget : ∀ l s p zs,mget (((dst,cs) :: st.own) :: st.m) l s p = some zs → (l = d ∧ s = dst ∧ p = [] ∧ zs = cs) ∨ (¬ (l = d ∧ s = dst) ∧ mget (st.own :: st.m) l s p = some zs) := by
  intro l s p zs hz
  rw [mget_cons,h.lv] at hz
  by_cases hl' : l = d
  ·rw [if_pos hl'] at hz
   by_cases hs : dst = s
   ·subst hs
    obtain ⟨h1,h2⟩ := lget_cells (by rw [get_cons,if_pos rfl]) hcell hz
    exact .inl ⟨hl',rfl,h1,h2⟩
   ·refine .inr ⟨fun hh => hs hh.2.symm,?_⟩
    rw [mget_cons,h.lv,if_pos hl']
    unfold lget at hz ⊢
    rw [get_cons,if_neg hs] at hz
    exact hz
  ·rw [if_neg hl'] at hz
   exact .inr ⟨fun hh => hl' hh.1,by rw [mget_cons,h.lv,if_neg hl']; exact hz⟩
 have hdep : ∀ l s p x,g.blk l s p = some x → l < d + 1 := fun l s p x hx => by have := h.rel.lv l s p x hx; simpa [h.lv] using this
 have hdepL : ∀ l s x,g.lp l s = some x → l < d + 1 := fun l s x hx => by have := h.rel.lpv l s x hx; simpa [h.lv] using this
 have hrel : Rel g' (((dst,cs) :: st.own) :: st.m) w' := by
  refine ⟨fun b o v hb => ?_,fun lv sl p b o t hb zs hz => ?_,fun lv sl l r hb zs hz => ?_,fun l s p l' s' p' b o t o' t' zs zs' h1 h2 hz hz' => ?_,fun l s l' s' b r r' zs zs' h1 h2 hz hz' => ?_,fun lv sl p j v x h1 zs hz => ?_,fun l s p x hx => ?_,fun l s x hx => ?_,fun l s p b o t hx => ?_,fun l s b r hx => ?_,fun lv sl q x y h1 => ?_⟩
  ·obtain ⟨x,y⟩ := h.rel.hG b o v hb
   have hlt := h.rel.G_lt hb
   have hne : b ≠ b1 := fun he => by have hb' : g.G b o = some v := hb; rw [he,hG1 o] at hb'; cases hb'
   refine ⟨?_,y⟩
   simp only [World.cell?,hwo b hlt hne]
   simpa [World.cell?] using x
  ·rcases hget _ _ _ _ hz with ⟨rfl,rfl,rfl,rfl⟩ | ⟨hne,hz'⟩
   ·have hb' : g'.blk lv sl [] = some (b1,o1,C.size) := Gh.key_here
    rw [hb'] at hb
    simp only [Option.some.injEq,Prod.mk.injEq] at hb
    obtain ⟨rfl,rfl,rfl⟩ := hb
    refine ⟨C,E,hh1,rfl,hl,fun j c hj => ?_,hG1⟩
    obtain ⟨x,y,z⟩ := hc j c hj
    exact (MC.plain x).2 ⟨y,z.depAll hdep hdepL,z.mono hle⟩
   ·rcases Gh.key_cases hb with ⟨rfl,rfl,_⟩ | ⟨_,hb'⟩
    ·exact absurd ⟨rfl,rfl⟩ hne
    ·obtain ⟨C',E',a1,a2,a3,a4,a5⟩ := h.rel.hM _ _ _ _ _ _ hb' _ hz'
     exact ⟨C',E',by rw [hwo b (h.rel.blkLt hb' hz') (fun he => hlive _ _ _ _ _ _ (he ▸ hb') hz')]; exact a1,a2,a3,fun j c hj => (a4 j c hj).mono hle,a5⟩
  ·have hb' : g.lp lv sl = some (l,r) := hb
   rcases hget _ _ _ _ hz with ⟨rfl,rfl,_,_⟩ | ⟨hne,hz'⟩
   ·rw [hl0] at hb'; cases hb'
   ·obtain ⟨s,h1,pn,h2⟩ := h.rel.hL _ _ _ _ hb' _ hz'
    exact ⟨s,h1,pn,by rw [hwo _ (Array.getElem?_eq_some_iff.1 h2).1 (fun he => hliveL _ _ _ _ (he ▸ hb') hz')]; exact h2⟩
  ·rcases hget _ _ _ _ hz with ⟨rfl,rfl,rfl,rfl⟩ | ⟨hne,hz1⟩ <;> rcases hget _ _ _ _ hz' with ⟨rfl,rfl,rfl,rfl⟩ | ⟨hne',hz1'⟩
   ·exact ⟨rfl,rfl,rfl⟩
   ·have hb' : g'.blk l s [] = some (b1,o1,C.size) := Gh.key_here
    rw [hb'] at h1
    simp only [Option.some.injEq,Prod.mk.injEq] at h1
    rcases Gh.key_cases h2 with ⟨q1,q2,_⟩ | ⟨_,h3⟩
    ·exact absurd ⟨q1,q2⟩ hne'
    ·exact absurd hz1' (hlive _ _ _ _ _ _ (h1.1 ▸ h3))
   ·have hb' : g'.blk l' s' [] = some (b1,o1,C.size) := Gh.key_here
    rw [hb'] at h2
    simp only [Option.some.injEq,Prod.mk.injEq] at h2
    rcases Gh.key_cases h1 with ⟨q1,q2,_⟩ | ⟨_,h3⟩
    ·exact absurd ⟨q1,q2⟩ hne
    ·exact absurd hz1 (hlive _ _ _ _ _ _ (h2.1 ▸ h3))
   ·rcases Gh.key_cases h1 with ⟨q1,q2,_⟩ | ⟨_,h3⟩
    ·exact absurd ⟨q1,q2⟩ hne
    ·rcases Gh.key_cases h2 with ⟨q1,q2,_⟩ | ⟨_,h4⟩
     ·exact absurd ⟨q1,q2⟩ hne'
     ·exact h.rel.inj _ _ _ _ _ _ _ _ _ _ _ _ _ h3 h4 hz1 hz1'
  ·have h1' : g.lp l s = some (b,r) := h1
   have h2' : g.lp l' s' = some (b,r') := h2
   rcases hget _ _ _ _ hz with ⟨rfl,rfl,_,_⟩ | ⟨hne,hz1⟩
   ·rw [hl0] at h1'; cases h1'
   ·rcases hget _ _ _ _ hz' with ⟨rfl,rfl,_,_⟩ | ⟨hne',hz1'⟩
    ·rw [hl0] at h2'; cases h2'
    ·exact h.rel.injL _ _ _ _ _ _ _ _ _ h1' h2' hz1 hz1'
  ·rcases Gh.key_cases h1 with ⟨_,_,q3,_⟩ | ⟨_,h3⟩
   ·simp at q3
   ·rcases hget _ _ _ _ hz with ⟨rfl,rfl,_,_⟩ | ⟨hne,hz1⟩
    ·rw [hb0] at h3; cases h3
    ·exact h.rel.ver _ _ _ _ _ _ h3 _ hz1
  ·rcases Gh.key_cases hx with ⟨rfl,_⟩ | ⟨_,h3⟩
   ·simp [h.lv]
   ·have := h.rel.lv _ _ _ _ h3; simpa using this
  ·have := h.rel.lpv _ _ _ hx; simpa using this
  ·rcases Gh.key_cases hx with ⟨_,_,_,hx⟩ | ⟨_,h3⟩
   ·simp only [Prod.mk.injEq] at hx; omega
   ·have := h.rel.bd _ _ _ _ _ _ h3; omega
  ·have := h.rel.bdL _ _ _ _ hx; omega
  ·rcases Gh.key_cases h1 with ⟨_,_,q3,_⟩ | ⟨_,h3⟩
   ·simp at q3
   ·obtain ⟨z,hz⟩ := h.rel.pre _ _ _ _ _ h3
    exact ⟨z,hle.blk _ _ _ _ hz⟩
 have hfree : ∀ s,isFree st s = false → isFree { st with own := (dst,cs) :: st.own } s = false := by
  intro s hs
  cases hf : isFree { st with own := (dst,cs) :: st.own } s with
  | false => rfl
  | true =>
   obtain ⟨q1,q2⟩ := isFree_iff.1 hf
   rw [get_cons] at q1
   split at q1
   ·cases q1
   ·have := isFree_iff.2 ⟨q1,q2⟩; rw [hs] at this; cases this
 have hdst : isFree { st with own := (dst,cs) :: st.own } dst = false := by
  cases hf : isFree { st with own := (dst,cs) :: st.own } dst with
  | false => rfl
  | true =>
   obtain ⟨q1,q2⟩ := isFree_iff.1 hf
   rw [get_cons,if_pos rfl] at q1; cases q1
 refine ⟨g',hle,?_,Gh.key_here⟩
 refine h.turn (own' := (dst,cs) :: st.own) (dead' := st.dead) (m' := st.m) hle hrel h.lv ⟨hws,fun b hb hf => ⟨hwo b hb (fun he => ?_),fun _ => rfl⟩,fun _ _ _ x => x,fun l s p x _ y => hle.blk _ _ _ _ y,fun _ _ _ => rfl,fun l s p b o t hb => ?_,fun l s b r x => .inl ⟨l,s,r,x⟩,fun l s p x hl' hx => ?_,hos,htp,hout,rfl⟩ ?_ ?_ (fun _ _ _ => rfl)
 ·rcases hkn with ⟨l,s,q,o',t',h3⟩ | h3
  ·exact hf.1 _ _ _ _ _ (he ▸ h3)
  ·omega
 ·rcases Gh.key_cases hb with ⟨_,_,_,hx⟩ | ⟨_,h3⟩
  ·simp only [Prod.mk.injEq] at hx
   rcases hkn with ⟨l2,s2,q2,o2,t2,h3⟩ | h3
   ·exact .inl ⟨l2,s2,q2,o2,t2,by rw [hx.1]; exact h3⟩
   ·exact .inr (by omega)
  ·exact .inl ⟨l,s,p,o,t,h3⟩
 ·rcases Gh.key_cases hx with ⟨q1,_⟩ | ⟨_,h3⟩
  ·omega
  ·exact ⟨p,x,h3⟩
 ·intro s p x hx
  rcases Gh.key_cases hx with ⟨_,rfl,_⟩ | ⟨_,h3⟩
  ·exact hdst
  ·exact hfree s (h.nm _ _ _ h3)
 ·intro s x hx
  exact hfree s (h.nmL _ _ hx)
theorem Inv.newVar0 (h : Inv d nt m0 g0 w0 g om szm st a w) {dst : Nat} (hn : isFree st dst = true) {cs : List PV} {C : Array Value} {E : TypeId} (hl : cs.length = C.size)
  (hc : ∀ j c,cs[j]? = some c → c.isCell = true ∧ c.untag1 = c ∧ V g c (C.getD j undef)) :
  ∃ g',g.le g' ∧ Inv d nt m0 g0 w0 g' om szm { st with own := (dst,cs) :: st.own } a (w.alloc (.cells C E (0,0))) ∧ g'.blk d dst [] = some (w.heap.size,0,C.size) :=
 h.addRoot hn (b1 := w.heap.size) (o1 := 0) (by rw [heap_alloc_at,if_pos rfl]) (by omega) (fun j c hj => by rw [Nat.zero_add]; exact hc j c hj) (by simp) (fun k hk _ => heap_alloc_old _ _ hk) rfl rfl rfl
  (fun q => by cases hg : g.G w.heap.size q with
   | none => rfl
   | some v => have := h.rel.G_lt hg; omega)
  (fun l s q o' t' zs hb => absurd hb (h.freeNew.1 _ _ _ _ _)) (fun l s r zs hb => absurd hb (h.freeNew.2 _ _ _)) (.inr (Nat.le_refl _))
structure Upd (w w' : World) (b : Nat) (C : Array Value) (E : TypeId) : Prop where
 at_ : w'.heap[b]? = some (.cells C E (0,0))
 off : ∀ k,k ≠ b → w'.heap[k]? = w.heap[k]?
 size : w'.heap.size = w.heap.size
 os : w'.os = w.os
 tape : w'.tape = w.tape
 output : w'.output = w.output
theorem Upd.row {b : Nat} {C C' : Array Value} {E : TypeId} (h : w.heap[b]? = some (.cells C E (0,0))) : Upd w (w.setRow b C') b C' E :=
 ⟨setRow_heap w b C C' E _ h,fun k hk => setRow_other w b k _ hk,by simp,rfl,rfl,rfl⟩
theorem Upd.same {b : Nat} {C : Array Value} {E : TypeId} (h : w.heap[b]? = some (.cells C E (0,0))) : Upd w w b C E := ⟨h,fun _ _ => rfl,rfl,rfl,rfl,rfl⟩
theorem Upd.trans {w' w'' : World} {b : Nat} {C C' : Array Value} {E : TypeId} (h : Upd w w' b C E) (k : Upd w' w'' b C' E) : Upd w w'' b C' E :=
 ⟨k.at_,fun i hi => (k.off i hi).trans (h.off i hi),k.size.trans h.size,k.os.trans h.os,k.tape.trans h.tape,k.output.trans h.output⟩
theorem mget_callers {own' : Lvl} {m' : Mem} {l s : Nat} {p : Path} (hl : l < m'.length) : mget (own' :: m') l s p = mget m' l s p := by rw [mget_cons,if_neg (by omega)]
theorem Inv.setPlain (h : Inv d nt m0 g0 w0 g om szm st a w) {lv sl b o t : Nat} {p : Path} (hb : g.blk lv sl p = some (b,o,t)) {cs x : List PV} (hcs : mget (st.own :: st.m) lv sl p = some cs) {own' : Lvl} {m' : Mem}
  (hw : mset (st.own :: st.m) lv sl p x = some (own' :: m')) (hlx : x.length = cs.length) {C C' : Array Value} {E : TypeId} {w' : World} (hh : w.heap[b]? = some (.cells C E (0,0))) (hu : Upd w w' b C' E) (hC : C'.size = C.size)
  (hx : ∀ j c,x[j]? = some c → (cs[j]? = some c ∧ C'.getD (o + j) undef = C.getD (o + j) undef) ∨ (c.isCell = true ∧ c.untag1 = c ∧ c.dep (lv + 1) = true ∧ V g c (C'.getD (o + j) undef) ∧ ∃ old,cs[j]? = some old ∧ isPlace old = false)) :
  Inv d nt m0 g0 w0 g om szm { st with own := own',m := m' } a w' := by
 obtain ⟨y,W⟩ := mset_wrote hw
 have hy : y = cs := by have := W.old; rw [hcs] at this; exact (Option.some.inj this).symm
 subst hy
 have hlen : m'.length = d := by have := W.len; simp only [List.length_cons] at this; rw [← h.lv]; omega
 have hcase : ∀ l s q zs',mget (own' :: m') l s q = some zs' → (l = lv ∧ s = sl ∧ q = p ∧ zs' = x) ∨ (¬ (l = lv ∧ s = sl ∧ q = p) ∧ ∃ zs,mget (st.own :: st.m) l s q = some zs ∧ SimL zs zs') := by
  intro l s q zs' hq
  rcases W.all hlx l s q zs' hq with ⟨rfl,rfl,r,rfl,hr⟩ | ⟨hn,zs,hz,hs⟩
  ·cases r with
   | nil => simp only [tget,Option.some.injEq] at hr; exact .inl ⟨rfl,rfl,by simp,hr.symm⟩
   | cons e r =>
    refine .inr ⟨fun hh => by have := hh.2.2; simp at this,zs',?_,SimL.refl _⟩
    rw [mget_append,hcs]
    simp only [Option.bind_some,tget] at hr ⊢
    split at hr
    ·rename_i v' n sz ys hxe
     rcases hx _ _ hxe with ⟨h1,_⟩ | ⟨h1,_⟩
     ·rw [h1]; exact hr
     ·simp [PV.isCell] at h1
    ·cases hr
  ·exact .inr ⟨fun hh => hn ⟨hh.1,hh.2.1,[],by simp [hh.2.2]⟩,zs,hz,hs⟩
 have hlive : ∀ l s q zs',mget (own' :: m') l s q = some zs' → ∃ zs,mget (st.own :: st.m) l s q = some zs := by
  intro l s q zs' hq
  rcases hcase l s q zs' hq with ⟨rfl,rfl,rfl,_⟩ | ⟨_,zs,hz,_⟩
  ·exact ⟨_,hcs⟩
  ·exact ⟨zs,hz⟩
 obtain ⟨C0,E0,hh0,hsz0,hle0,h40,h50⟩ := h.rel.hM _ _ _ _ _ _ hb _ hcs
 rw [hh] at hh0; cases hh0
 have hrel : Rel g (own' :: m') w' := by
  refine ⟨fun b' o' v hb' => ?_,fun l s q b' o' t' hb' zs' hz' => ?_,fun l s l0 r hb' zs' hz' => ?_,fun l s q l' s' q' b' o' t' o2 t2 zs zs' h1 h2 hz hz' => ?_,fun l s l' s' b' r r' zs zs' h1 h2 hz hz' => ?_,fun l s q j v y h1 zs' hz' => ?_,fun l s q y hy => ?_,fun l s y hy => ?_,fun l s q b' o' t' hy => by rw [hu.size]; exact h.rel.bd _ _ _ _ _ _ hy,fun l s b' r hy => by rw [hu.size]; exact h.rel.bdL _ _ _ _ hy,h.rel.pre⟩
  ·obtain ⟨q1,q2⟩ := h.rel.hG b' o' v hb'
   have hn : b' ≠ b := fun he => by rw [he,h50 o'] at hb'; cases hb'
   refine ⟨?_,q2⟩
   simp only [World.cell?,hu.off b' hn]
   simpa [World.cell?] using q1
  ·rcases hcase _ _ _ _ hz' with ⟨rfl,rfl,rfl,rfl⟩ | ⟨hne,zs,hz,hs⟩
   ·rw [hb] at hb'
    simp only [Option.some.injEq,Prod.mk.injEq] at hb'
    obtain ⟨rfl,rfl,rfl⟩ := hb'
    refine ⟨C',E,hu.at_,by omega,by omega,fun j c hj => ?_,h50⟩
    rcases hx j c hj with ⟨q1,q2⟩ | ⟨q1,q2,q3,q4,_⟩
    ·rw [q2]; exact h40 j c q1
    ·exact (MC.plain q1).2 ⟨q2,q3,q4⟩
   ·have hnb : b' ≠ b := fun he => hne (h.rel.inj _ _ _ _ _ _ _ _ _ _ _ _ _ (he ▸ hb') hb hz hcs)
    obtain ⟨C2,E2,a1,a2,a3,a4,a5⟩ := h.rel.hM _ _ _ _ _ _ hb' _ hz
    refine ⟨C2,E2,by rw [hu.off b' hnb]; exact a1,a2,by rw [← hs.1]; exact a3,fun j c hj => ?_,a5⟩
    obtain ⟨c0,q1,q2⟩ := hs.2 j c hj
    exact (a4 j c0 q1).sim q2
  ·rcases hcase _ _ _ _ hz' with ⟨rfl,rfl,rfl,rfl⟩ | ⟨hne,zs,hz,hs⟩
   ·obtain ⟨s0,q1,_⟩ := h.rel.hL _ _ _ _ hb' _ hcs
    exfalso
    have hl1 : y.length = 1 := by rw [q1]; rfl
    have hm := h40 0 (.lrec s0) (by rw [q1]; rfl)
    exact hm
   ·obtain ⟨s0,q1,pn,q2⟩ := h.rel.hL _ _ _ _ hb' _ hz
    have hz1 : zs' = [.lrec s0] := by
     subst q1
     obtain ⟨r1,r2⟩ := hs
     match zs',r1 with
     | [c],_ =>
      obtain ⟨c0,q3,q4⟩ := r2 0 c rfl
      simp only [List.getElem?_cons_zero,Option.some.injEq] at q3
      subst q3
      cases q4; rfl
    have hnb : l0 ≠ b := fun he => by rw [he,hh] at q2; cases q2
    exact ⟨s0,hz1,pn,by rw [hu.off _ hnb]; exact q2⟩
  ·obtain ⟨z1,hz1⟩ := hlive _ _ _ _ hz
   obtain ⟨z2,hz2⟩ := hlive _ _ _ _ hz'
   exact h.rel.inj _ _ _ _ _ _ _ _ _ _ _ _ _ h1 h2 hz1 hz2
  ·obtain ⟨z1,hz1⟩ := hlive _ _ _ _ hz
   obtain ⟨z2,hz2⟩ := hlive _ _ _ _ hz'
   exact h.rel.injL _ _ _ _ _ _ _ _ _ h1 h2 hz1 hz2
  ·rcases hcase _ _ _ _ hz' with ⟨rfl,rfl,rfl,rfl⟩ | ⟨hne,zs,hz,hs⟩
   ·obtain ⟨c0,q1,q2⟩ := h.rel.ver _ _ _ _ _ _ h1 _ hcs
    have hlt : j < zs'.length := by rw [hlx]; exact (List.getElem?_eq_some_iff.1 q1).1
    refine ⟨zs'[j],List.getElem?_eq_getElem hlt,?_⟩
    rcases hx j _ (List.getElem?_eq_getElem hlt) with ⟨q3,_⟩ | ⟨_,_,_,_,old,q3,q4⟩
    ·rw [q1] at q3; cases q3; exact q2
    ·rw [q1] at q3; cases q3
     cases c0 <;> simp [isPlace] at q4 <;> simp [nextVer] at q2
   ·obtain ⟨c0,q1,q2⟩ := h.rel.ver _ _ _ _ _ _ h1 _ hz
    have hlt : j < zs'.length := by rw [← hs.1]; exact (List.getElem?_eq_some_iff.1 q1).1
    obtain ⟨c1,q3,q4⟩ := hs.2 j _ (List.getElem?_eq_getElem hlt)
    rw [q1] at q3; cases q3
    exact ⟨_,List.getElem?_eq_getElem hlt,by rw [← q4.nextVer]; exact q2⟩
  ·have := h.rel.lv _ _ _ _ hy; rw [← W.len] at this; exact this
  ·have := h.rel.lpv _ _ _ hy; rw [← W.len] at this; exact this
 have hroot := W.live hlx
 have hfree : ∀ s,isFree { st with own := own',m := m' } s = isFree st s := fun s => by
  refine isFree_eq (st := st) (st' := { st with own := own',m := m' }) rfl ?_
  have := hroot d s
  rw [mget_cons,mget_cons,hlen,h.lv,if_pos rfl,if_pos rfl,lget_nil,lget_nil] at this
  exact this
 refine h.turn (own' := own') (dead' := st.dead) (m' := m') (Gh.le.refl g) hrel hlen ⟨by rw [hu.size]; exact Nat.le_refl _,fun k hk hf => ⟨hu.off k fun he => hf.1 _ _ _ _ _ (he ▸ hb),fun _ => rfl⟩,fun _ _ _ x => x,fun _ _ _ _ _ x => x,fun _ _ _ => rfl,fun l s q b' o' t' x => .inl ⟨l,s,q,o',t',x⟩,fun l s b' r x => .inl ⟨l,s,r,x⟩,fun l s q x _ y => ⟨q,x,y⟩,hu.os,hu.tape,hu.output,rfl⟩ ?_ ?_ ?_
 ·intro s q y hy; rw [hfree]; exact h.nm _ _ _ hy
 ·intro s y hy; rw [hfree]; exact h.nmL _ _ hy
 ·intro l s hl
  have := hroot l s
  rwa [mget_callers (by rw [hlen]; exact hl),mget_callers (by rw [h.lv]; exact hl)] at this
end
end Go.Proofs.Ytmffcpiffkclgaa.ZJM
set_option linter.unusedSimpArgs false
set_option linter.unusedVariables false
namespace Go.Proofs.Ytmffcpiffkclgaa.ZJM
open Go.RowKit
section
variable {P : Program} {d nt : Nat} {m0 : Mem} {g0 : Gh} {w0 : World} {g : Gh} {om : Nat → Value} {szm : Nat → Nat} {st : St} {a : Act} {w : World}
theorem append_snoc_ne (p : Path) (x : Nat × Nat) : p ++ [x] ≠ p := fun h => by simp at h
theorem Inv.setPlace (h : Inv d nt m0 g0 w0 g om szm st a w) {lv sl b o t : Nat} {p : Path} (hb : g.blk lv sl p = some (b,o,t)) {cs : List PV} (hcs : mget (st.own :: st.m) lv sl p = some cs) {j : Nat} {old c' : PV} (hj : cs[j]? = some old) {own' : Lvl} {m' : Mem}
  (hw : mset (st.own :: st.m) lv sl p (cs.set j c') = some (own' :: m')) {C C' : Array Value} {E : TypeId} {w' : World} (hh : w.heap[b]? = some (.cells C E (0,0))) (hu : Upd w w' b C' E) (hC : C'.size = C.size) (hCo : ∀ i,i ≠ o + j → C'.getD i undef = C.getD i undef)
  {g' : Gh} (hle : g.le g') (hlp : g'.lp = g.lp) (hG : g'.G = g.G) (hpl : isPlace c' = true) (hver : nextVer old ≤ nextVer c') (hvec : ∀ v n sz ys,c' = .vec v n sz ys → ∀ c ∈ ys,c.isCell = true) (hvn : ∀ v n sz ys,c' = .vec v n sz ys → nextVer old ≤ v)
  (hgb : ∀ l s q y,g'.blk l s q = some y → g.blk l s q = some y ∨ (l = lv ∧ s = sl ∧ ∃ v,q = p ++ [(j,v)] ∧ nextVer old ≤ v ∧ (∃ n sz ys,c' = .vec v n sz ys) ∧ ∃ l' s' p' o' t',g.blk l' s' p' = some (y.1,o',t')))
  (hMC : MC g' lv sl p j c' (C'.getD (o + j) undef))
  (hnew : ∀ v n sz ys,c' = .vec v n sz ys → ∀ b1 o1 t1,g'.blk lv sl (p ++ [(j,v)]) = some (b1,o1,t1) → ∃ C1 E1,w'.heap[b1]? = some (.cells C1 E1 (0,0)) ∧ C1.size = t1 ∧ o1 + ys.length ≤ t1 ∧
   (∀ i c,ys[i]? = some c → c.untag1 = c ∧ c.dep (lv + 1) = true ∧ V g' c (C1.getD (o1 + i) undef)) ∧ (∀ q,g.G b1 q = none) ∧
   (∀ l s q o' t' zs,g.blk l s q = some (b1,o',t') → mget (st.own :: st.m) l s q = some zs → l = lv ∧ s = sl ∧ ∃ v' r,q = p ++ (j,v') :: r)) :
  Inv d nt m0 g0 w0 g' om szm { st with own := own',m := m' } a w' := by
 obtain ⟨y,W⟩ := mset_wrote hw
 have hy : y = cs := by have := W.old; rw [hcs] at this; exact (Option.some.inj this).symm
 subst hy
 have hjlt : j < y.length := (List.getElem?_eq_some_iff.1 hj).1
 have hlen : m'.length = d := by have := W.len; simp only [List.length_cons] at this; rw [← h.lv]; omega
 have hlx : (y.set j c').length = y.length := by simp
 have hcase : ∀ l s q zs',mget (own' :: m') l s q = some zs' → (l = lv ∧ s = sl ∧ q = p ∧ zs' = y.set j c') ∨ (∃ v n sz ys,l = lv ∧ s = sl ∧ q = p ++ [(j,v)] ∧ c' = .vec v n sz ys ∧ zs' = ys) ∨
   (¬ (l = lv ∧ s = sl ∧ q = p) ∧ (¬ ∃ v r,l = lv ∧ s = sl ∧ q = p ++ (j,v) :: r) ∧ ∃ zs,mget (st.own :: st.m) l s q = some zs ∧ SimL zs zs') := by
  intro l s q zs' hq
  rcases W.cases hjlt l s q zs' hq with h1 | ⟨v,n,sz,ys,r,rfl,rfl,rfl,hc,hr⟩ | h1
  ·exact .inl h1
  ·obtain ⟨rfl,rfl⟩ := tget_cells (hvec _ _ _ _ hc) hr
   exact .inr (.inl ⟨v,n,sz,zs',rfl,rfl,rfl,hc,rfl⟩)
  ·exact .inr (.inr h1)
 obtain ⟨C0,E0,hh0,hsz0,hle0,h40,h50⟩ := h.rel.hM _ _ _ _ _ _ hb _ hcs
 rw [hh] at hh0; cases hh0
 have hgk : g'.blk lv sl p = some (b,o,t) := hle.blk _ _ _ _ hb
 have hold : ∀ l s q zs x,mget (st.own :: st.m) l s q = some zs → (¬ ∃ v r,l = lv ∧ s = sl ∧ q = p ++ (j,v) :: r) → g'.blk l s q = some x → g.blk l s q = some x := by
  intro l s q zs x hz hn hx
  rcases hgb _ _ _ _ hx with h1 | ⟨rfl,rfl,v,rfl,_⟩
  ·exact h1
  ·exact absurd ⟨v,[],rfl,rfl,rfl⟩ hn
 have hrel : Rel g' (own' :: m') w' := by
  refine ⟨fun b' o' v hb' => ?_,fun l s q b' o' t' hb' zs' hz' => ?_,fun l s l0 r hb' zs' hz' => ?_,fun l s q l' s' q' b' o' t' o2 t2 zs zs' h1 h2 hz hz' => ?_,fun l s l' s' b' r r' zs zs' h1 h2 hz hz' => ?_,fun l s q j2 v y2 h1 zs' hz' => ?_,fun l s q y hy => ?_,fun l s y hy => ?_,fun l s q b' o' t' hy => ?_,fun l s b' r hy => by rw [hu.size]; rw [hlp] at hy; exact h.rel.bdL _ _ _ _ hy,fun l s q x y h1 => ?_⟩
  ·rw [hG] at hb'
   obtain ⟨q1,q2⟩ := h.rel.hG b' o' v hb'
   have hn : b' ≠ b := fun he => by rw [he,h50 o'] at hb'; cases hb'
   refine ⟨?_,q2⟩
   simp only [World.cell?,hu.off b' hn]
   simpa [World.cell?] using q1
  ·rcases hcase _ _ _ _ hz' with ⟨rfl,rfl,rfl,rfl⟩ | ⟨v,n,sz,ys,rfl,rfl,rfl,hc,rfl⟩ | ⟨hne,hnj,zs,hz,hs⟩
   ·rw [hgk] at hb'
    simp only [Option.some.injEq,Prod.mk.injEq] at hb'
    obtain ⟨rfl,rfl,rfl⟩ := hb'
    refine ⟨C',E,hu.at_,by omega,by simpa using hle0,fun i c hi => ?_,fun q => by rw [hG]; exact h50 q⟩
    by_cases hij : i = j
    ·subst hij
     rw [List.getElem?_set_self hjlt] at hi
     cases hi
     exact hMC
    ·rw [List.getElem?_set_ne (Ne.symm hij)] at hi
     rw [hCo _ (by omega)]
     exact (h40 i c hi).mono hle
   ·obtain ⟨C1,E1,a1,a2,a3,a4,a5,_⟩ := hnew _ _ _ _ hc _ _ _ hb'
    exact ⟨C1,E1,a1,a2,a3,fun i c hi => (MC.plain (hvec _ _ _ _ hc c (getElem?_mem' hi))).2 (a4 i c hi),fun q => by rw [hG]; exact a5 q⟩
   ·have hb2 := hold _ _ _ _ _ hz hnj hb'
    have hnb : b' ≠ b := fun he => hne (h.rel.inj _ _ _ _ _ _ _ _ _ _ _ _ _ (he ▸ hb2) hb hz hcs)
    obtain ⟨C2,E2,a1,a2,a3,a4,a5⟩ := h.rel.hM _ _ _ _ _ _ hb2 _ hz
    refine ⟨C2,E2,by rw [hu.off b' hnb]; exact a1,a2,by rw [← hs.1]; exact a3,fun i c hi => ?_,fun q => by rw [hG]; exact a5 q⟩
    obtain ⟨c0,q1,q2⟩ := hs.2 i c hi
    exact ((a4 i c0 q1).mono hle).sim q2
  ·rw [hlp] at hb'
   rcases hcase _ _ _ _ hz' with ⟨rfl,rfl,rfl,rfl⟩ | ⟨v,n,sz,ys,rfl,rfl,hq,hc,rfl⟩ | ⟨hne,hnj,zs,hz,hs⟩
   ·obtain ⟨s0,q1,_⟩ := h.rel.hL _ _ _ _ hb' _ hcs
    exact (h40 0 (.lrec s0) (by rw [q1]; rfl)).elim
   ·simp at hq
   ·obtain ⟨s0,q1,pn,q2⟩ := h.rel.hL _ _ _ _ hb' _ hz
    have hz1 : zs' = [.lrec s0] := by
     subst q1
     obtain ⟨r1,r2⟩ := hs
     match zs',r1 with
     | [c],_ =>
      obtain ⟨c0,q3,q4⟩ := r2 0 c rfl
      simp only [List.getElem?_cons_zero,Option.some.injEq] at q3
      subst q3
      cases q4; rfl
    have hnb : l0 ≠ b := fun he => by rw [he,hh] at q2; cases q2
    exact ⟨s0,hz1,pn,by rw [hu.off _ hnb]; exact q2⟩
  ·rcases hcase _ _ _ _ hz with ⟨rfl,rfl,rfl,rfl⟩ | ⟨v,n,sz,ys,rfl,rfl,rfl,hc,rfl⟩ | ⟨hne,hnj,z1,hz1,_⟩
   ·rw [hgk] at h1
    simp only [Option.some.injEq,Prod.mk.injEq] at h1
    obtain ⟨rfl,rfl,rfl⟩ := h1
    rcases hcase _ _ _ _ hz' with ⟨rfl,rfl,rfl,rfl⟩ | ⟨v,n,sz,ys,rfl,rfl,rfl,hc,rfl⟩ | ⟨hne',hnj',z2,hz2,_⟩
    ·exact ⟨rfl,rfl,rfl⟩
    ·obtain ⟨_,_,_,_,_,_,_,a6⟩ := hnew _ _ _ _ hc _ _ _ h2
     obtain ⟨_,_,v',r,hq⟩ := a6 _ _ _ _ _ _ hb hcs
     have := congrArg List.length hq
     simp at this
    ·exact absurd (h.rel.inj _ _ _ _ _ _ _ _ _ _ _ _ _ (hold _ _ _ _ _ hz2 hnj' h2) hb hz2 hcs) hne'
   ·rcases hcase _ _ _ _ hz' with ⟨rfl,rfl,rfl,rfl⟩ | ⟨v2,n2,sz2,ys2,rfl,rfl,rfl,hc2,rfl⟩ | ⟨hne',hnj',z2,hz2,_⟩
    ·obtain ⟨_,_,_,_,_,_,_,a6⟩ := hnew _ _ _ _ hc _ _ _ h1
     rw [hgk] at h2
     simp only [Option.some.injEq,Prod.mk.injEq] at h2
     obtain ⟨rfl,rfl,rfl⟩ := h2
     obtain ⟨_,_,v',r,hq⟩ := a6 _ _ _ _ _ _ hb hcs
     have := congrArg List.length hq
     simp at this
    ·rw [hc] at hc2; cases hc2; exact ⟨rfl,rfl,rfl⟩
    ·obtain ⟨_,_,_,_,_,_,_,a6⟩ := hnew _ _ _ _ hc _ _ _ h1
     obtain ⟨q1,q2,v',r,q3⟩ := a6 _ _ _ _ _ _ (hold _ _ _ _ _ hz2 hnj' h2) hz2
     exact absurd ⟨v',r,q1,q2,q3⟩ hnj'
   ·rcases hcase _ _ _ _ hz' with ⟨rfl,rfl,rfl,rfl⟩ | ⟨v2,n2,sz2,ys2,rfl,rfl,rfl,hc2,rfl⟩ | ⟨hne',hnj',z2,hz2,_⟩
    ·rw [hgk] at h2
     simp only [Option.some.injEq,Prod.mk.injEq] at h2
     obtain ⟨rfl,rfl,rfl⟩ := h2
     exact absurd (h.rel.inj _ _ _ _ _ _ _ _ _ _ _ _ _ (hold _ _ _ _ _ hz1 hnj h1) hb hz1 hcs) hne
    ·obtain ⟨_,_,_,_,_,_,_,a6⟩ := hnew _ _ _ _ hc2 _ _ _ h2
     obtain ⟨q1,q2,v',r,q3⟩ := a6 _ _ _ _ _ _ (hold _ _ _ _ _ hz1 hnj h1) hz1
     exact absurd ⟨v',r,q1,q2,q3⟩ hnj
    ·exact h.rel.inj _ _ _ _ _ _ _ _ _ _ _ _ _ (hold _ _ _ _ _ hz1 hnj h1) (hold _ _ _ _ _ hz2 hnj' h2) hz1 hz2
  ·rw [hlp] at h1 h2
   have hl : ∀ l s zs,mget (own' :: m') l s [] = some zs → ∃ z,mget (st.own :: st.m) l s [] = some z := fun l s zs hz => by
    have := W.live hlx l s
    rw [hz] at this
    exact Option.isSome_iff_exists.1 this.symm
   obtain ⟨z1,hz1⟩ := hl _ _ _ hz
   obtain ⟨z2,hz2⟩ := hl _ _ _ hz'
   exact h.rel.injL _ _ _ _ _ _ _ _ _ h1 h2 hz1 hz2
  ·rcases hcase _ _ _ _ hz' with ⟨rfl,rfl,rfl,rfl⟩ | ⟨v2,n,sz,ys,rfl,rfl,rfl,hc,rfl⟩ | ⟨hne,hnj,zs,hz,hs⟩
   ·rcases hgb _ _ _ _ h1 with h3 | ⟨_,_,v3,h3,_,⟨n,sz,ys,hc⟩,_⟩
    ·obtain ⟨c0,q1,q2⟩ := h.rel.ver _ _ _ _ _ _ h3 _ hcs
     by_cases hij : j2 = j
     ·subst hij
      rw [hj] at q1; cases q1
      exact ⟨c',by rw [List.getElem?_set_self hjlt],by omega⟩
     ·exact ⟨c0,by rw [List.getElem?_set_ne (Ne.symm hij)]; exact q1,q2⟩
    ·have h4 := List.append_cancel_left h3
     simp only [List.cons.injEq,Prod.mk.injEq,and_true] at h4
     obtain ⟨rfl,rfl⟩ := h4
     exact ⟨c',by rw [List.getElem?_set_self hjlt],by rw [hc]; simp [nextVer]⟩
   ·rcases hgb _ _ _ _ h1 with h3 | ⟨_,_,v3,h3,_⟩
    ·exfalso
     obtain ⟨z,hz⟩ := h.rel.pre _ _ _ _ _ h3
     obtain ⟨c0,q1,q2⟩ := h.rel.ver _ _ _ _ _ _ hz _ hcs
     rw [hj] at q1; cases q1
     have := hvn _ _ _ _ hc
     omega
    ·have := congrArg List.length h3
     simp at this
   ·rcases hgb _ _ _ _ h1 with h3 | ⟨rfl,rfl,v3,h3,_⟩
    ·obtain ⟨c0,q1,q2⟩ := h.rel.ver _ _ _ _ _ _ h3 _ hz
     have hlt : j2 < zs'.length := by rw [← hs.1]; exact (List.getElem?_eq_some_iff.1 q1).1
     obtain ⟨c1,q3,q4⟩ := hs.2 j2 _ (List.getElem?_eq_getElem hlt)
     rw [q1] at q3; cases q3
     exact ⟨_,List.getElem?_eq_getElem hlt,by rw [← q4.nextVer]; exact q2⟩
    ·obtain ⟨h4,_⟩ := List.append_inj' h3 rfl
     exact absurd ⟨rfl,rfl,h4⟩ hne
  ·rcases hgb _ _ _ _ hy with h3 | ⟨rfl,rfl,_⟩
   ·have := h.rel.lv _ _ _ _ h3; rw [← W.len] at this; exact this
   ·have := h.rel.lv _ _ _ _ hb; rw [← W.len] at this; exact this
  ·rw [hlp] at hy
   have := h.rel.lpv _ _ _ hy; rw [← W.len] at this; exact this
  ·rw [hu.size]
   rcases hgb _ _ _ _ hy with h3 | ⟨_,_,_,_,_,_,l',s',p',o2,t2,h3⟩
   ·exact h.rel.bd _ _ _ _ _ _ h3
   ·exact h.rel.bd _ _ _ _ _ _ h3
  ·rcases hgb _ _ _ _ h1 with h3 | ⟨rfl,rfl,v3,h3,_⟩
   ·obtain ⟨z,hz⟩ := h.rel.pre _ _ _ _ _ h3
    exact ⟨z,hle.blk _ _ _ _ hz⟩
   ·obtain ⟨rfl,_⟩ := List.append_inj' h3 rfl
    exact ⟨_,hgk⟩
 have hroot := W.live hlx
 have hfree : ∀ s,isFree { st with own := own',m := m' } s = isFree st s := fun s => by
  refine isFree_eq (st := st) (st' := { st with own := own',m := m' }) rfl ?_
  have := hroot d s
  rw [mget_cons,mget_cons,hlen,h.lv,if_pos rfl,if_pos rfl,lget_nil,lget_nil] at this
  exact this
 refine h.turn (own' := own') (dead' := st.dead) (m' := m') hle hrel hlen ⟨by rw [hu.size]; exact Nat.le_refl _,fun k hk hf => ⟨hu.off k fun he => hf.1 _ _ _ _ _ (he ▸ hb),fun q => by rw [hG]⟩,fun _ _ _ x => by rw [hG]; exact x,fun l s q x _ y => hle.blk _ _ _ _ y,fun l s _ => by rw [hlp],fun l s q b' o' t' x => ?_,fun l s b' r x => .inl ⟨l,s,r,by rw [hlp] at x; exact x⟩,fun l s q x _ y => ?_,hu.os,hu.tape,hu.output,hle.ok⟩ ?_ ?_ ?_
 ·rcases hgb _ _ _ _ x with h3 | ⟨_,_,_,_,_,_,h3⟩
  ·exact .inl ⟨l,s,q,o',t',h3⟩
  ·exact .inl h3
 ·rcases hgb _ _ _ _ y with h3 | ⟨rfl,rfl,_⟩
  ·exact ⟨q,x,h3⟩
  ·exact ⟨p,_,hb⟩
 ·intro s q y hy
  rw [hfree]
  rcases hgb _ _ _ _ hy with h3 | ⟨rfl,rfl,_⟩
  ·exact h.nm _ _ _ h3
  ·exact h.nm _ _ _ hb
 ·intro s y hy
  rw [hlp] at hy
  rw [hfree]; exact h.nmL _ _ hy
 ·intro l s hl
  have := hroot l s
  rwa [mget_callers (by rw [hlen]; exact hl),mget_callers (by rw [h.lv]; exact hl)] at this
end
end Go.Proofs.Ytmffcpiffkclgaa.ZJM
