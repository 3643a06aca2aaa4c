/- Operations with an effect: cells of a row are written; a row is made. -/
import Derived.Test.YtmffcpiffkclgaaZJ10A
import Derived.Lib.BufferWrite
import Derived.Laws.IdiomStrings
import Derived.Deep.AppendSrc
set_option linter.unusedSimpArgs false
set_option linter.unusedVariables false
namespace Go.Proofs.Ytmffcpiffkclgaa.ZJM
open Go.RowKit
section
variable {P : Program} {d nt : Nat} {m0 : Mem} {g0 : Gh} {w0 : World} {g : Gh} {om : Nat → Value} {szm : Nat → Nat} {st : St} {a : Act} {w : World}
theorem rep_get {α : Type} {z : List α} (hz : 0 < z.length) : ∀ {n j : Nat},j < n * z.length → (rep z n)[j]? = z[j % z.length]?
 | 0,j,h => by omega
 | n + 1,j,h => by
  simp only [rep]
  by_cases hj : j < z.length
  ·rw [List.getElem?_append_left hj,Nat.mod_eq_of_lt hj]
  ·rw [List.getElem?_append_right (by omega),rep_get hz (n := n) (by rw [Nat.add_mul] at h; omega),← Nat.mod_eq_sub_mod (by omega)]
theorem rep_len {α : Type} (z : List α) : ∀ n,(rep z n).length = n * z.length
 | 0 => by simp [rep]
 | n + 1 => by simp [rep,rep_len z n,Nat.add_mul]; omega
theorem run_zero {t : TypeId} {v : Value} (h : ((P.info? t).bind (·.zero)) = some v) (w : World) : (zeroValue t).run P w = .ok v w := by
 obtain ⟨i,hi,hz⟩ := Option.bind_eq_some_iff.1 h
 simp [zeroValue,typeInfo,hi,hz]
theorem Inv.write (h : Inv d nt m0 g0 w0 g om szm st a w) {lv sl b o t off : Nat} {p : Path} (hb : g.blk lv sl p = some (b,o,t)) {cs : List PV} (hcs : mget (st.own :: st.m) lv sl p = some cs) {new : List PV} {vs : List Value} (hlen : new.length = vs.length) (hle : off + new.length ≤ cs.length)
  (hold : ((cs.drop off).take new.length).all (fun c => !isPlace c) = true) {C : Array Value} {E : TypeId} (hh : w.heap[b]? = some (.cells C E (0,0)))
  (hnew : ∀ j c,new[j]? = some c → c.isCell = true ∧ c.untag1 = c ∧ c.dep (lv + 1) = true ∧ V g c (vs.getD j undef)) {st' : St} (hs : writeSt st lv sl p (splice cs new off) = some st') :
  Inv d nt m0 g0 w0 g om szm st' a (w.setRow b (splice C.toList vs (o + off)).toArray) ∧ st'.f = st.f ∧ st'.tops = st.tops := by
 obtain ⟨C0,E0,hh0,hsz,hle0,h4,h5⟩ := h.rel.hM _ _ _ _ _ _ hb _ hcs
 rw [hh] at hh0; cases hh0
 unfold writeSt St.mem at hs
 split at hs
 ·rename_i own' m' hm
  cases hs
  refine ⟨h.setPlain hb hcs hm (splice_length hle) hh (Upd.row hh) (by simp [splice_length (cs := C.toList) (new := vs) (off := o + off) (by simp; omega)]) fun j c hj => ?_,rfl,rfl⟩
  rw [splice_get hle] at hj
  have hC : (splice C.toList vs (o + off)).toArray.getD (o + j) undef = if off ≤ j ∧ j < off + new.length then vs.getD (j - off) undef else C.getD (o + j) undef := by
   rw [Array.getD_eq_getD_getElem?,List.getElem?_toArray,splice_get (by simp; omega),← hlen]
   by_cases hr : off ≤ j ∧ j < off + new.length
   ·rw [if_pos hr,if_pos (by omega),List.getD_eq_getElem?_getD,show o + j - (o + off) = j - off by omega]
   ·rw [if_neg hr,if_neg (by omega)]
    simp [Array.getD_eq_getD_getElem?]
  rw [hC]
  by_cases hr : off ≤ j ∧ j < off + new.length
  ·rw [if_pos hr] at hj ⊢
   obtain ⟨q1,q2,q3,q4⟩ := hnew _ c hj
   have hjc : j < cs.length := by omega
   refine .inr ⟨q1,q2,q3,q4,cs[j],List.getElem?_eq_getElem hjc,?_⟩
   have := List.all_eq_true.1 hold cs[j] (List.mem_of_getElem? (i := j - off) (by
    rw [List.getElem?_take_of_lt (by omega),List.getElem?_drop,show off + (j - off) = j by omega]
    exact List.getElem?_eq_getElem hjc))
   simpa using this
  ·rw [if_neg hr] at hj ⊢
   exact .inl ⟨hj,rfl⟩
 ·cases hs
theorem clr_ok (h : Inv d nt m0 g0 w0 g om szm st a w) {t e ty : TypeId} {sz : Nat} (ht : P.underlying t = some (.slice e)) {zv : Value} (hz1 : ((P.info? e).bind (·.zero)) = some zv) {z : List PV} (hz2 : z.length = zv.cells.size)
  (hz3 : ∀ c ∈ z,c.isCell = true ∧ c.untag1 = c) (hz4 : ∀ (g : Gh) j c,z[j]? = some c → V g c (zv.cells.getD j undef)) (hsz : 0 < sz) {dst : Option Nat} (hd : ∀ t,dst = some t → t < nt) {x : PV} {rx : Value} (hx : V g x rx) {st' : St} (he : clrEv st dst sz z x = some st') :
  ∃ w',(Builtin.clear_ #[t] ty #[rx]).run P w = .ok (.tuple #[]) w' ∧ Inv d nt m0 g0 w0 g om szm st' (a.put dst (.tuple #[])) w' := by
 have hput : ∀ st1 w',Inv d nt m0 g0 w0 g om szm st1 a w' → Inv d nt m0 g0 w0 g om szm (st1.put dst (.tup [])) (a.put dst (.tuple #[])) w' := fun st1 w' hi =>
  hi.put hd (.tup [] #[] rfl (fun j c hj => by simp at hj)) (Tg_no (fun c hc => by cases hc))
 cases hx with
 | slr lv sl p off n sz' b o tt off' c hb ho hc =>
  simp only [clrEv] at he
  split at he
  ·rename_i hcond
   simp only [Bool.and_eq_true,beq_iff_eq] at hcond
   obtain ⟨⟨rfl,hzl⟩,hdep⟩ := hcond
   split at he
   ·rename_i cs hcs
    split at he
    ·rename_i hcond2
     simp only [Bool.and_eq_true,decide_eq_true_eq] at hcond2
     obtain ⟨hle,hold⟩ := hcond2
     split at he
     ·rename_i st1 hw
      cases he
      obtain ⟨C,E,hh,hszC,hleC,_,_⟩ := h.rel.hM _ _ _ _ _ _ hb _ hcs
      have hzp : 0 < z.length := by omega
      have hrep := fun j (hj : j < n * z.length) => rep_get hzp (n := n) (j := j) hj
      have hrl := rep_len z n
      let vs : List Value := (Builtin.zeroCells zv.cells n).toList
      have hvl : vs.length = n * z.length := by simp [vs,Builtin.zeroCells,hz2]
      have hvget : ∀ j,j < n * z.length → vs.getD j undef = zv.cells.getD (j % z.length) undef := by
       intro j hj
       have h6 : j % zv.cells.size < zv.cells.size := Nat.mod_lt _ (by omega)
       have hj2 : j < n * zv.cells.size := by rw [← hz2]; exact hj
       rw [hz2]
       simp [vs,Builtin.zeroCells,List.getD_eq_getElem?_getD,hj2,h6]
      have hnew : ∀ j c,(rep z n)[j]? = some c → c.isCell = true ∧ c.untag1 = c ∧ c.dep (lv + 1) = true ∧ V g c (vs.getD j undef) := by
       intro j c hj
       have hlt : j < n * z.length := by rw [← hrl]; exact (List.getElem?_eq_some_iff.1 hj).1
       rw [hrep j hlt] at hj
       have hmem := getElem?_mem' hj
       rw [hvget j hlt]
       exact ⟨(hz3 c hmem).1,(hz3 c hmem).2,dep_mono (Nat.zero_le _) c (deps_mem hdep c hmem),hz4 g _ c hj⟩
      obtain ⟨hinv,_,_⟩ := h.write (vs := vs) hb hcs (by rw [hrl,hvl]) (by rw [hrl,hzl]; exact hle) (by rw [hrl,hzl]; exact hold) hh hnew hw
      by_cases hn : n = 0
      ·subst hn
       have hvs : vs = [] := List.eq_nil_of_length_eq_zero (by rw [hvl]; simp)
       rw [hvs] at hinv
       have hself : w.setRow b (splice C.toList [] (o + off)).toArray = w := by
        have : splice C.toList ([] : List Value) (o + off) = C.toList := by simp [splice]
        rw [this,Array.toArray_toList]
        exact setRow_self w b C E (0,0) hh
       rw [hself] at hinv
       refine ⟨w,?_,hput _ _ hinv⟩
       simp [Builtin.clear_,run_und ht]
      ·obtain ⟨rfl,hct⟩ := ho (by omega)
       refine ⟨_,?_,hput _ _ hinv⟩
       have hone : ∀ v ∈ vs,v.oneCell' = true := by
        intro v hv
        obtain ⟨j,hj⟩ := List.getElem?_of_mem hv
        have hlt : j < n * z.length := by rw [← hvl]; exact (List.getElem?_eq_some_iff.1 hj).1
        have hlt2 : j < (rep z n).length := by rw [hrl]; exact hlt
        obtain ⟨q1,_,_,q3⟩ := hnew j _ (List.getElem?_eq_getElem hlt2)
        rw [List.getD_eq_getElem?_getD,hj] at q3
        exact vcell_one (q3.vcell q1)
       have hst := run_storeCells_at (P := P) b (o + off) E vs 0 C w hh (by rw [hvl,hzl]; omega) hone
       have hzv : ∀ w,(zeroValue e).run P w = .ok zv w := fun w => run_zero hz1 w
       obtain ⟨n',rfl⟩ : ∃ n',n = n' + 1 := ⟨n - 1,by omega⟩
       simp only [Builtin.clear_]
       simp [run_und ht,hzv]
       simp only [Nat.add_zero] at hst
       simp only [vs] at hst ⊢
       rw [hst]
       simp [splice]
     ·cases he
    ·cases he
   ·cases he
  ·cases he
 | nil oo sz' =>
  simp only [clrEv] at he
  split at he
  ·cases he
   exact ⟨w,by simp [Builtin.clear_,run_und ht],hput _ _ h⟩
  ·cases he
 | _ => simp [clrEv] at he
theorem Inv.newRow (h : Inv d nt m0 g0 w0 g om szm st a w) {dst : Nat} (hd : dst < nt) (hn : isFree st dst = true) {cs : List PV} {C : Array Value} {E : TypeId} (hl : cs.length = C.size)
  (hc : ∀ j c,cs[j]? = some c → c.isCell = true ∧ c.untag1 = c ∧ V g c (C.getD j undef)) (n sz : Nat) (hn63 : n ≤ 9223372036854775807) (hsz : n * sz ≤ C.size) :
  ∃ g',Inv d nt m0 g0 w0 g' om szm { st with own := (dst,cs) :: st.own,f := (dst,.slr st.m.length dst [] 0 n sz) :: st.f } (a.put (some dst) (.slice (some ⟨w.heap.size,0,none⟩) n n)) (w.alloc (.cells C E (0,0))) := by
 obtain ⟨g1,hle,hi,hb⟩ := h.newVar0 (E := E) hn hl hc
 refine ⟨g1,hi.put (dst := some dst) (fun t ht => by cases ht; exact hd) (v := .slr st.m.length dst [] 0 n sz) ?_ (by simp only [Tg]; trivial)⟩
 exact .slr _ _ [] 0 n sz w.heap.size 0 C.size 0 n (by rw [h.lv]; exact hb) (fun _ => ⟨rfl,by omega⟩) ⟨Nat.le_refl _,hn63⟩
theorem mks_ok (h : Inv d nt m0 g0 w0 g om szm st a w) {t e : TypeId} {sz bytes : Nat} (ht : P.underlying t = some (.slice e)) {i : TypeInfo} (hi : P.info? e = some i) (hsz : i.size = sz) (hb : i.bytes = bytes) (hsz0 : 0 < sz) (hb0 : 0 < bytes) {zv : Value} (hz1 : ((P.info? e).bind (·.zero)) = some zv) {z : List PV} (hz2 : z.length = zv.cells.size)
  (hz3 : ∀ c ∈ z,c.isCell = true ∧ c.untag1 = c) (hz4 : ∀ (g : Gh) j c,z[j]? = some c → V g c (zv.cells.getD j undef)) (hzl : z.length = sz) {dst : Option Nat} (hd : ∀ t,dst = some t → t < nt) {x y : PV} {rx ry : Value} (hx : V g x rx) (hy : V g y ry) {st' : St} (he : makeEv st dst sz bytes z x y = some st') :
  ∃ r w' g',(Instr.makeSlice t rx ry).run P w = .ok r w' ∧ Inv d nt m0 g0 w0 g' om szm st' (a.put dst r) w' := by
 cases hx <;> cases hy <;> simp only [makeEv] at he <;> try (cases he; done)
 rename_i k n k' c
 split at he
 ·rename_i hc
  simp only [Bool.and_eq_true,beq_iff_eq,decide_eq_true_eq] at hc
  obtain ⟨⟨rfl,hn0⟩,hby⟩ := hc
  split at he
  ·rename_i dd
   split at he
   ·rename_i hnone
    cases he
    have hzi : i.zero = some zv := by simpa [hi] using hz1
    have hzp : 0 < z.length := by omega
    have hrep := fun j (hj : j < n.toNat * z.length) => rep_get hzp (n := n.toNat) (j := j) hj
    have hzsz : zv.cells.size = i.size := by rw [← hz2,hzl,hsz]
    have hcell : ∀ j c,(rep z n.toNat)[j]? = some c → z[j % z.length]? = some c ∧ j < n.toNat * z.length := by
     intro j c hj
     have hlt : j < n.toNat * z.length := by rw [← rep_len]; exact (List.getElem?_eq_some_iff.1 hj).1
     exact ⟨by rw [← hrep j hlt]; exact hj,hlt⟩
    have hmade : ∀ j,j < n.toNat * z.length → (madeCells zv.cells (n.toNat * i.size)).getD j undef = zv.cells.getD (j % z.length) undef := by
     intro j hj
     have h3 : j < n.toNat * i.size := by rw [hsz,← hzl]; exact hj
     have h4 : j % zv.cells.size < zv.cells.size := Nat.mod_lt _ (by omega)
     have h5 : z.length = zv.cells.size := hz2
     rw [h5]
     simp [madeCells,h3,h4]
    obtain ⟨g',h4⟩ := h.newRow (dst := dd) (E := e) (hd dd rfl) hnone (cs := rep z n.toNat) (C := madeCells zv.cells (n.toNat * i.size)) (by rw [rep_len,size_madeCells,hzl,hsz]) (fun j c hj => by
     obtain ⟨h3,h5⟩ := hcell j c hj
     rw [hmade j h5]
     exact ⟨(hz3 c (getElem?_mem' h3)).1,(hz3 c (getElem?_mem' h3)).2,hz4 g _ c h3⟩) n.toNat sz (by
     have h6 : n.toNat * 1 ≤ n.toNat * bytes := Nat.mul_le_mul_left _ hb0
     unfold maxBytes at hby
     omega) (by rw [size_madeCells,hsz]; exact Nat.le_refl _)
    refine ⟨_,_,g',?_,h4⟩
    have hmx : (n.toNat * i.bytes : Int) ≤ 140737488355328 := by rw [hb]; have h7 : ((n.toNat * bytes : Nat) : Int) ≤ ((maxBytes : Nat) : Int) := Int.ofNat_le.2 hby; rw [Int.natCast_mul] at h7; unfold maxBytes at h7; exact h7
    have hn1 : (n.toNat : Int) = n := Int.toNat_of_nonneg hn0
    rw [run_make w t e i zv ht hi hzi k k' n n hn0 (Int.le_refl _) (by rw [← hn1,Int.mul_comm]; omega) (by
     have : (1 : Int) ≤ i.bytes := by omega
     have h6 : n * 1 ≤ n * i.bytes := Int.mul_le_mul_of_nonneg_left this hn0
     rw [hn1] at hmx
     omega)]
   ·cases he
  ·cases he
 ·cases he
end
end Go.Proofs.Ytmffcpiffkclgaa.ZJM
set_option linter.unusedSimpArgs false
set_option linter.unusedVariables false
namespace Go.Proofs.Ytmffcpiffkclgaa.ZJM
open Go.RowKit
section
variable {P : Program} {d nt : Nat} {m0 : Mem} {g0 : Gh} {w0 : World} {g : Gh} {om : Nat → Value} {szm : Nat → Nat} {st : St} {a : Act} {w : World}
theorem cells_untagged {v : PV} (hv : v.isVal = true) (hu : v.untag = v) : ∀ c ∈ v.cells,c.untag1 = c := by
 have := noTag_untag hv hu
 cases v with
 | agg cs => exact this
 | tup => simp [PV.isVal,PV.isCell] at hv
 | _ => intro c hc; simp only [PV.cells,List.mem_singleton] at hc; subst hc; exact this
theorem run_copy_to {dT sT ty e : TypeId} {size : Nat} (hu : P.underlying dT = some (.slice e)) (hs : tySz P e = some size) {b o dLen dCap sLen : Nat} {src : Value} {cs : List Value} (hl : (Builtin.lenOf src : Sem Nat).run P w = .ok sLen w)
  (hf : (Builtin.firstCells size (Nat.min sLen dLen) src).run P w = .ok cs.toArray w) {C : Array Value} {E : TypeId} (hg : w.heap[b]? = some (.cells C E (0,0))) (hfit : cs = [] ∨ o + cs.length ≤ C.size) (h1 : ∀ v ∈ cs,v.oneCell' = true) :
  (Builtin.copy_ #[dT,sT] ty #[.slice (some ⟨b,o,none⟩) dLen dCap,src]).run P w = .ok (goInt (Nat.min sLen dLen)) (w.setRow b (splice C.toList cs o).toArray) := by
 have hst : (storeCells ⟨b,o,none⟩ cs).run P w = .ok () (w.setRow b (splice C.toList cs o).toArray) := by
  rcases hfit with rfl | hfit
  ·have hself : w.setRow b (splice C.toList [] o).toArray = w := by
    have : splice C.toList ([] : List Value) o = C.toList := by simp [splice]
    rw [this,Array.toArray_toList]
    exact setRow_self w b C E (0,0) hg
   rw [hself]
   simp [storeCells]
  ·have := run_storeCells_at P b o E cs 0 C w hg (by simpa using hfit) h1
   simpa [splice] using this
 simp [Builtin.copy_,run_und hu,run_sizeOf hs,hl,hf,hst]
def Cps (P : Program) (g : Gh) (w : World) (sz : Nat) (xs : List PV) (rs : Value) : Prop :=
 (Builtin.lenOf rs : Sem Nat).run P w = .ok xs.length w ∧ ∀ k,k ≤ xs.length → ∃ cs : List Value,(Builtin.firstCells sz k rs).run P w = .ok cs.toArray w ∧ cs.length = ((xs.take k).flatMap PV.cells).length ∧ ∀ j c,((xs.take k).flatMap PV.cells)[j]? = some c → V g c (cs.getD j undef)
theorem cpyTo_ok (h : Inv d nt m0 g0 w0 g om szm st a w) {dT sT e ty : TypeId} {sz : Nat} (hu : P.underlying dT = some (.slice e)) (hs : tySz P e = some sz) {dst : Option Nat} (hd : ∀ t,dst = some t → t < nt) {x : PV} {rx rs : Value} (hx : V g x rx)
  {xs : List PV} (hsrc : Cps P g w sz xs rs) (hxu : ∀ x ∈ xs,x.untag = x) {st' : St} (he : cpyTo st dst sz xs x = some st') :
  ∃ r w',(Builtin.copy_ #[dT,sT] ty #[rx,rs]).run P w = .ok r w' ∧ Inv d nt m0 g0 w0 g om szm st' (a.put dst r) w' := by
 obtain ⟨hl,hf⟩ := hsrc
 cases hx with
 | slr lv sl p off n sz' b o tt off' c hb ho hc =>
  simp only [cpyTo] at he
  split at he
  ·rename_i hszz
   have := beq_iff_eq.1 hszz
   subst this
   split at he
   ·rename_i cs hcs
    split at he
    ·rename_i hcond
     simp only [Bool.and_eq_true,decide_eq_true_eq] at hcond
     obtain ⟨⟨⟨⟨hle,hold⟩,hsized⟩,hdep⟩,hnp⟩ := hcond
     split at he
     ·rename_i st1 hw
      cases he
      obtain ⟨C,E,hh,hszC,hleC,_,_⟩ := h.rel.hM _ _ _ _ _ _ hb _ hcs
      obtain ⟨vs,hf1,hf2,hf3⟩ := hf (min n xs.length) (Nat.min_le_right _ _)
      have hsp : ∀ x ∈ xs,x.isVal = true ∧ x.cells.length = sz := fun x hx => by
       have := List.all_eq_true.1 hsized x hx
       simpa using this
      have hfl : ((xs.take (min n xs.length)).flatMap PV.cells).length = min n xs.length * sz := by
       rw [flat_len (sz := sz) fun x hx => hsp x (List.mem_of_mem_take hx)]
       simp
      have hmul : min n xs.length * sz ≤ n * sz := Nat.mul_le_mul_right _ (Nat.min_le_left _ _)
      have hnew : ∀ j c,((xs.take (min n xs.length)).flatMap PV.cells)[j]? = some c → c.isCell = true ∧ c.untag1 = c ∧ c.dep (lv + 1) = true ∧ V g c (vs.getD j undef) := by
       intro j c hj
       have hm := getElem?_mem' hj
       obtain ⟨y,hy,hyc⟩ := List.mem_flatMap.1 hm
       have hy' := List.mem_of_mem_take hy
       exact ⟨isVal_cells (hsp y hy').1 c hyc,cells_untagged (hsp y hy').1 (hxu y hy') c hyc,deps_mem hdep c hm,hf3 j c hj⟩
      obtain ⟨hinv,_,_⟩ := h.write (vs := vs) hb hcs hf2.symm (by rw [hfl]; omega) (by rw [hfl]; exact hold) hh hnew hw
      have hone : ∀ v ∈ vs,v.oneCell' = true := by
       intro v hv
       obtain ⟨j,hj⟩ := List.getElem?_of_mem hv
       have hlt : j < ((xs.take (min n xs.length)).flatMap PV.cells).length := by rw [← hf2]; exact (List.getElem?_eq_some_iff.1 hj).1
       obtain ⟨q1,_,_,q3⟩ := hnew j _ (List.getElem?_eq_getElem hlt)
       rw [List.getD_eq_getElem?_getD,hj] at q3
       exact vcell_one (q3.vcell q1)
      have hmin : Nat.min xs.length n = min n xs.length := Nat.min_comm _ _
      have hput : ∀ w',Inv d nt m0 g0 w0 g om szm st1 a w' → Inv d nt m0 g0 w0 g om szm (st1.put dst (.int .i64 (min n xs.length : Nat))) (a.put dst (goInt (Nat.min xs.length n))) w' := fun w' hi => by
       rw [hmin]
       exact hi.put hd (.int _ _) (by simp only [Tg]; trivial)
      by_cases hk : min n xs.length = 0
      ·have hvs : vs = [] := List.eq_nil_of_length_eq_zero (by rw [hf2,hfl,hk]; simp)
       subst hvs
       have hself : ∀ o',w.setRow b (splice C.toList [] o').toArray = w := fun o' => by
        have : splice C.toList ([] : List Value) o' = C.toList := by simp [splice]
        rw [this,Array.toArray_toList]
        exact setRow_self w b C E (0,0) hh
       rw [hself] at hinv
       refine ⟨_,_,run_copy_to hu hs hl (by rw [hmin]; exact hf1) hh (.inl rfl) hone,?_⟩
       rw [hself]
       exact hput _ hinv
      ·obtain ⟨rfl,hct⟩ := ho (by omega)
       exact ⟨_,_,run_copy_to hu hs hl (by rw [hmin]; exact hf1) hh (.inr (by rw [hf2,hfl]; omega)) hone,hput _ hinv⟩
     ·cases he
    ·cases he
   ·cases he
  ·cases he
 | nil oo sz' =>
  simp only [cpyTo,Option.some.injEq] at he
  subst he
  obtain ⟨vs,hf1,hf2,_⟩ := hf 0 (Nat.zero_le _)
  have hvs : vs = [] := List.eq_nil_of_length_eq_zero (by rw [hf2]; simp)
  subst hvs
  have hmin : Nat.min xs.length 0 = 0 := Nat.min_zero _
  refine ⟨goInt 0,w,?_,h.put hd (.int _ _) (by simp only [Tg]; trivial)⟩
  simp [Builtin.copy_,run_und hu,run_sizeOf hs,hl,hmin,hf1]
 | _ => simp [cpyTo] at he
theorem cpy_ok (h : Inv d nt m0 g0 w0 g om szm st a w) {dT sT e ty : TypeId} {sz : Nat} (hu : P.underlying dT = some (.slice e)) (hs : tySz P e = some sz) {dst : Option Nat} (hd : ∀ t,dst = some t → t < nt) {x y : PV} {rx ry : Value} (hx : V g x rx) (hy : V g y ry)
  {st' : St} (he : cpyEv st dst sz x y = some st') : ∃ r w',(Builtin.copy_ #[dT,sT] ty #[rx,ry]).run P w = .ok r w' ∧ Inv d nt m0 g0 w0 g om szm st' (a.put dst r) w' := by
 unfold cpyEv at he
 split at he
 ·rename_i oo nl sz' ys hder
  split at he
  ·rename_i hcond
   obtain ⟨h0,h1⟩ := deref_src h hy hder _ _ _ _ rfl
   by_cases hys : ys = []
   ·subst hys
    refine cpyTo_ok h hu hs hd hx ?_ (fun x hx => by cases hx) he
    rcases h0 rfl with rfl | ⟨b,c,rfl⟩
    ·exact ⟨by simp [Builtin.lenOf],fun k hk => ⟨[],by simp [Builtin.firstCells],by simp,fun j c hj => by simp at hj⟩⟩
    ·refine ⟨by simp [Builtin.lenOf],fun k hk => ⟨[],?_,by simp,fun j c hj => by simp at hj⟩⟩
     have hk0 : k = 0 := by simpa using hk
     subst hk0
     exact run_firstCells_some (P := P) w sz 0 b 0 c [] (by simp) (fun j v hj => by simp at hj)
   ·obtain ⟨ad,c,news,rfl,hnl,hnc,hnv,⟨hnx,hnu⟩,hnV⟩ := h1 hys
    have hsz : sz' = sz := by
     have hn : ys.isEmpty = false := by cases ys <;> simp_all
     rw [hn,Bool.or_false] at hcond
     exact (beq_iff_eq.1 hcond).symm
    subst hsz
    refine cpyTo_ok h hu hs hd hx ⟨by simp [Builtin.lenOf],fun k hk => ?_⟩ hnu he
    have hfl := flat_len hnx
    have hflk : ((ys.take k).flatMap PV.cells).length = k * sz' := by
     rw [flat_len (sz := sz') fun x hx => hnx x (List.mem_of_mem_take hx)]
     simp [Nat.min_eq_left hk]
    have hk2 : k * sz' ≤ news.length := by rw [hnl]; exact Nat.mul_le_mul_right _ hk
    refine ⟨news.take (k * sz'),run_firstCells_some (P := P) w sz' k ad _ c _ (by simp; omega) (fun j v hj => ?_),by rw [hflk]; simp; omega,fun j e hj => ?_⟩
    ·rw [List.getElem?_take] at hj
     split at hj
     ·exact hnc j v hj
     ·cases hj
    ·have hlt : j < k * sz' := by rw [← hflk]; exact (List.getElem?_eq_some_iff.1 hj).1
     have h2 : (ys.flatMap PV.cells)[j]? = some e := by
      rw [← List.take_append_drop k ys,List.flatMap_append,List.getElem?_append_left (by rw [hflk]; exact hlt)]
      exact hj
     have := hnV j e h2
     rw [List.getD_eq_getElem?_getD,List.getElem?_take_of_lt hlt,← List.getD_eq_getElem?_getD]
     exact this
  ·cases he
 ·cases he
theorem strBytes_flat (l : List UInt8) : (l.map fun b => PV.int .u8 b.toNat).flatMap PV.cells = l.map fun b => PV.int .u8 b.toNat := by
 induction l with
 | nil => rfl
 | cons b l ih => simpa [PV.cells] using ih
theorem cpys_ok (h : Inv d nt m0 g0 w0 g om szm st a w) {dT sT e ty : TypeId} (hu : P.underlying dT = some (.slice e)) (hs : tySz P e = some 1) {dst : Option Nat} (hd : ∀ t,dst = some t → t < nt) {x y : PV} {rx ry : Value} (hx : V g x rx) (hy : V g y ry)
  {st' : St} (he : cpysEv st dst x y = some st') : ∃ r w',(Builtin.copy_ #[dT,sT] ty #[rx,ry]).run P w = .ok r w' ∧ Inv d nt m0 g0 w0 g om szm st' (a.put dst r) w' := by
 cases hy <;> simp only [cpysEv] at he <;> try (cases he; done)
 rename_i s
 have hsl : s.toList = s.data.toList := ByteArray.toList_eq s
 rw [hsl] at he
 refine cpyTo_ok h hu hs hd hx ⟨?_,fun k hk => ?_⟩ (fun x hx => ?_) he
 ·simp [Builtin.lenOf]
 ·refine ⟨(s.data.toList.take k).map fun b => Value.int .u8 (b.toNat : Int),?_,?_,fun j c hj => ?_⟩
  ·simp [Builtin.firstCells]
   apply Array.ext'
   simp
  ·rw [← List.map_take,strBytes_flat]; simp
  ·rw [← List.map_take,strBytes_flat] at hj
   rw [List.getElem?_map] at hj
   obtain ⟨u,hu',rfl⟩ := Option.map_eq_some_iff.1 hj
   rw [List.getD_eq_getElem?_getD,List.getElem?_map,hu']
   exact .int _ _
 ·obtain ⟨b,_,rfl⟩ := List.mem_map.1 hx
  rfl
theorem Inv.rowF (h : Inv d nt m0 g0 w0 g om szm st a w) {C : Array Value} {E : TypeId} {fz : Nat × Nat} {n : Nat} (hC : ∀ j v,C[j]? = some v → j < n → vcell v = true) {w' : World} (hnew : w'.heap[w.heap.size]? = some (.cells C E fz)) (hold : ∀ b,b < w.heap.size → w'.heap[b]? = w.heap[b]?) (hos : w'.os = w.os) (htp : w'.tape = w.tape) (hout : w'.output = w.output) :
  Inv d nt m0 g0 w0 (g.row w.heap.size C n) om szm st a w' := by
 have hle := Gh.row_le h.rel C n
 have hsz : w.heap.size ≤ w'.heap.size := Nat.le_of_lt (Array.getElem?_eq_some_iff.1 hnew).1
 have hGo : ∀ b,b < w.heap.size → ∀ q,(g.row w.heap.size C n).G b q = g.G b q := fun b hb q => by simp only [Gh.row]; rw [if_neg (by omega)]
 exact h.turn (g' := g.row w.heap.size C n) (w' := w') (own' := st.own) (dead' := st.dead) (m' := st.m) hle
  (h.rel.world hsz (fun b o v hb => by
   simp only [Gh.row] at hb
   by_cases he : b = w.heap.size
   ·rw [if_pos he] at hb
    split at hb
    ·rename_i hlt
     refine ⟨?_,hC o v hb hlt⟩
     subst he
     simp only [World.cell?,hnew]
     simpa using hb
    ·cases hb
   ·rw [if_neg he] at hb
    obtain ⟨h1,h2⟩ := h.rel.hG b o v hb
    refine ⟨?_,h2⟩
    have hlt := h.rel.G_lt hb
    simp only [World.cell?,hold _ hlt]
    simpa [World.cell?] using h1) hle.G rfl rfl rfl
   (fun b C' E' hb _ => by
    have hlt := (Array.getElem?_eq_some_iff.1 hb).1
    exact ⟨by rw [hold _ hlt]; exact hb,hGo b hlt⟩)
   (fun b r hb => by
    have hlt := (Array.getElem?_eq_some_iff.1 hb).1
    rw [hold _ hlt]; exact hb)) h.lv
  ⟨hsz,fun b hb _ => ⟨hold _ hb,hGo b hb⟩,hle.G,fun _ _ _ _ _ x => x,fun _ _ _ => rfl,fun l s p b o t x => .inl ⟨l,s,p,o,t,x⟩,fun l s b r x => .inl ⟨l,s,r,x⟩,fun l s p x _ y => ⟨p,x,y⟩,hos,htp,hout,rfl⟩
  h.nm h.nmL (fun _ _ _ => rfl)
theorem s2b_ok (h : Inv d nt m0 g0 w0 g om szm st a w) {src dT e : TypeId} (hs : P.underlying src = some .string) (hd' : P.underlying dT = some (.slice e)) (he' : P.underlying e = some (.int .u8)) {dst : Option Nat} (hd : ∀ t,dst = some t → t < nt) {x : PV} {rx : Value} (hx : V g x rx) {e0 : Nat}
  {st' : St} (he : s2bEv st false dst e0 x = some st') : ∃ r w' g',(convert src dT rx).run P w = .ok r w' ∧ Inv d nt m0 g0 w0 g' om szm st' (a.put dst r) w' := by
 cases hx <;> simp only [s2bEv] at he <;> try (cases he; done)
 rename_i s
 split at he
 ·cases dst with
  | none => simp [newList] at he
  | some dd =>
   simp only [newList,Option.some.injEq] at he
   subst he
   have hrun := run_bytes_of_string (P := P) w src dT e s hs hd' he'
   have hbl : s.size = s.data.toList.length := by rw [Array.length_toList]; rfl
   have hcell : ∀ j v,(bytesRow s (grownCap w s.size 0 e))[j]? = some v → j < s.size → vcell v = true ∧ ∃ b,s.data.toList[j]? = some b ∧ v = .int .u8 (b.toNat : Int) := by
    intro j v hj hlt
    have hlt' : j < s.data.size := hlt
    unfold bytesRow at hj
    rw [Array.getElem?_append_left (by simpa using hlt'),Array.getElem?_map] at hj
    obtain ⟨b,hb,rfl⟩ := Option.map_eq_some_iff.1 hj
    exact ⟨rfl,b,by simpa using hb,rfl⟩
   have h1 := h.rowF (w' := w.drew.alloc (.cells (bytesRow s (grownCap w s.size 0 e)) e ((bytesRow s (grownCap w s.size 0 e)).size,(bytesRow s (grownCap w s.size 0 e)).size + 1))) (n := s.size) (fun j v hj hlt => (hcell j v hj hlt).1) (by rw [show w.heap.size = w.drew.heap.size from rfl,heap_alloc_at,if_pos rfl]) (fun b hb => heap_alloc_old w.drew _ hb) rfl rfl rfl
   have hsl : strBytes s = s.data.toList.map fun b => PV.int .u8 b.toNat := by unfold strBytes; rw [ByteArray.toList_eq s]
   have hlen : (strBytes s).length = s.size := by rw [hsl,List.length_map,hbl]
   have hfl : (strBytes s).flatMap PV.cells = strBytes s := by rw [hsl]; exact strBytes_flat _
   have hrow : ∀ j,j < s.size → ∃ b,s.data.toList[j]? = some b ∧ (bytesRow s (grownCap w s.size 0 e))[j]? = some (.int .u8 (b.toNat : Int)) := by
    intro j hj
    have hlt' : j < s.data.size := hj
    refine ⟨s.data.toList[j]'(by simpa using hlt'),List.getElem?_eq_getElem _,?_⟩
    unfold bytesRow
    rw [Array.getElem?_append_left (by simpa using hlt'),Array.getElem?_map,Array.getElem?_eq_getElem hlt']
    rfl
   refine ⟨_,_,_,hrun,h1.put (dst := some dd) hd (v := .lst none false 1 (strBytes s)) ?_ (by simp only [Tg]; trivial)⟩
   rw [← hlen]
   refine .lst none 1 (strBytes s) w.heap.size 0 _ (fun j => (bytesRow s (grownCap w (strBytes s).length 0 e)).getD j undef) (fun x hx => ?_) (fun x hx => ?_) (fun j hj => ?_) (fun j c hj => ?_) ?_
   ·rw [hsl] at hx; obtain ⟨b,_,rfl⟩ := List.mem_map.1 hx; exact ⟨rfl,rfl⟩
   ·rw [hsl] at hx; obtain ⟨b,_,rfl⟩ := List.mem_map.1 hx; rfl
   ·rw [hfl,hlen] at hj
    obtain ⟨b,_,hb⟩ := hrow j hj
    simp only [Gh.row,Nat.zero_add,if_true,hlen,if_pos hj]
    rw [hb]
    simp [Array.getD_eq_getD_getElem?,hb]
   ·rw [hfl] at hj
    have hlt : j < s.size := by rw [← hlen]; exact (List.getElem?_eq_some_iff.1 hj).1
    obtain ⟨b,h2,h3⟩ := hrow j hlt
    rw [hsl,List.getElem?_map,h2] at hj
    simp only [Option.map_some,Option.some.injEq] at hj
    subst hj
    rw [hlen]
    simp only [Array.getD_eq_getD_getElem?,h3,Option.getD_some]
    exact .int _ _
   ·exact grownCap_ge w _ 0 e
 ·cases he
theorem fload_ok (h : Inv d nt m0 g0 w0 g om szm st a w) {t : TypeId} {ag : Bool} {sz : Nat} (ht : tyAg P t = some ag) (hs : tySz P t = some sz) {dst : Option Nat} (hd : ∀ t,dst = some t → t < nt) {x : PV} {rx : Value} (hx : V g x rx)
  {st' : St} (he : floadEv st dst ag sz x = some st') : ∃ r g',(Instr.loadAt t rx).run P w = .ok r w ∧ Inv d nt m0 g0 w0 g' om szm st' (a.put dst r) w := by
 cases hx <;> simp only [floadEv] at he <;> try (cases he; done)
 rename_i l s p off b o tt hb
 split at he
 ·rename_i hcond
  simp only [Bool.and_eq_true,beq_iff_eq,List.isEmpty_iff] at hcond
  obtain ⟨rfl,rfl⟩ := hcond
  split at he
  ·rename_i st1 hf
   split at he
   ·rename_i v hv
    cases he
    rw [h.lv] at hb
    obtain ⟨g',hle,h1,hm⟩ := h.frzs hb hf
    simp only [loadP] at hv
    split at hv
    ·rename_i cs hcs
     rw [h.lv] at hcs hv
     obtain ⟨r,h2,h3,h4,h5⟩ := load_row h1.rel (hle.blk _ _ _ _ hb) hcs ht hs hv
     refine ⟨r,g',?_,h1.put hd h3 (Tg_no (noTag_untag h5 h4))⟩
     simp only [Instr.loadAt,Instr.sureAddr,Sem.run_bind,Sem.run_pure,Result.andThen_ok]
     exact h2
    ·cases hv
   ·cases he
  ·cases he
 ·cases he
end
end Go.Proofs.Ytmffcpiffkclgaa.ZJM
set_option linter.unusedSimpArgs false
set_option linter.unusedVariables false
namespace Go.Proofs.Ytmffcpiffkclgaa.ZJM
open Go.RowKit
section
variable {P : Program} {d nt : Nat} {m0 : Mem} {g0 : Gh} {w0 : World} {g : Gh} {om : Nat → Value} {szm : Nat → Nat} {st : St} {a : Act} {w : World}
theorem getLast_none {α : Type} {l : List α} (h : l.getLast? = none) : l = [] := by simpa using h
theorem getLast_snoc {α : Type} {l : List α} {x : α} (h : l.getLast? = some x) : l = l.dropLast ++ [x] := by
 obtain ⟨r,rfl⟩ := List.getLast?_eq_some_iff.1 h
 simp
theorem takeRow_ok (h : Inv d nt m0 g0 w0 g om szm st a w) {lv sl b o t : Nat} {p : Path} (hb : g.blk lv sl p = some (b,o,t)) {n sz : Nat} {cs : List PV} {st1 : St} (he : takeRow st lv sl p n sz = some (cs,st1)) :
  Inv d nt m0 g0 w0 g om szm st1 a w ∧ mget (st.own :: st.m) lv sl p = some cs ∧ cs.length = n * sz ∧ mget (st1.own :: st1.m) lv sl p = none ∧ st1.f = st.f ∧ st1.tops = st.tops ∧
   (∀ l s q zs,mget (st1.own :: st1.m) l s q = some zs → ∃ zs0,mget (st.own :: st.m) l s q = some zs0) := by
 unfold takeRow at he
 split at he
 ·rename_i hp
  have := getLast_none hp
  subst this
  split at he
  ·rename_i hl
   have hld : lv = d := by rw [← h.lv]; exact beq_iff_eq.1 hl
   subst hld
   split at he
   ·rename_i cs' hcs
    split at he
    ·rename_i hlen
     cases he
     refine ⟨h.kill sl,by rw [← h.lv,mget_own,lget_nil]; exact hcs,by simpa using hlen,?_,rfl,rfl,fun l s q zs hz => ?_⟩
     ·simp only [St.kill]
      rw [← h.lv,mget_own,lget_del,if_pos rfl]
     ·simp only [St.kill] at hz
      rw [mget_cons] at hz ⊢
      by_cases hl' : l = st.m.length
      ·rw [if_pos hl',lget_del] at hz
       rw [if_pos hl']
       split at hz
       ·cases hz
       ·exact ⟨zs,hz⟩
      ·rw [if_neg hl'] at hz ⊢; exact ⟨zs,hz⟩
    ·cases he
   ·cases he
  ·cases he
 ·rename_i q hq
  have hpq := getLast_snoc hq
  obtain ⟨j,v⟩ := q
  generalize p.dropLast = p' at *
  subst hpq
  obtain ⟨z,hz⟩ := h.rel.pre _ _ _ _ _ hb
  obtain ⟨b1,o1,t1⟩ := z
  split at he
  ·rename_i ps hps
   split at he
   ·rename_i ver n' sz' cs' hj
    split at he
    ·rename_i hcond
     simp only [Bool.and_eq_true,beq_iff_eq] at hcond
     obtain ⟨⟨⟨rfl,rfl⟩,rfl⟩,hlen⟩ := hcond
     split at he
     ·rename_i st1' hm
      cases he
      simp only at hj hm
      unfold St.mem at hm
      split at hm
      ·rename_i own' m' hms
       cases hm
       obtain ⟨C,E,hh,hsz,hle0,h4,h5⟩ := h.rel.hM _ _ _ _ _ _ hz _ hps
       have hjlt : j < ps.length := (List.getElem?_eq_some_iff.1 hj).1
       have hinv := h.setPlace (c' := .gone ver sz') hz hps hj hms hh (Upd.same hh) rfl (fun i _ => rfl) (Gh.le.refl g) rfl rfl rfl (by simp [nextVer]) (fun v n sz ys hc => by cases hc) (fun v n sz ys hc => by cases hc) (fun l s q y hy => .inl hy) (h4 j _ hj).vcell
        (fun v n sz ys hc => by cases hc)
       obtain ⟨y,W⟩ := mset_wrote hms
       have hy : y = ps := by have := W.old; rw [hps] at this; exact (Option.some.inj this).symm
       subst hy
       have hold : mget (st.own :: st.m) lv sl (p' ++ [(j,ver)]) = some cs := by
        rw [mget_append,hps]
        simp [tget,hj]
       refine ⟨hinv,hold,hlen,?_,rfl,rfl,fun l s q zs hq => ?_⟩
       ·rw [mget_append,W.here]
        simp [tget,hjlt]
       ·rcases W.cases hjlt l s q zs hq with ⟨rfl,rfl,rfl,_⟩ | ⟨v,n,sz,ys,r,_,_,_,hc,_⟩ | ⟨_,_,zs0,hz0,_⟩
        ·exact ⟨_,hps⟩
        ·cases hc
        ·exact ⟨zs0,hz0⟩
      ·cases hm
     ·cases he
    ·cases he
   ·cases he
  ·cases he
theorem append_at {t ty e : TypeId} {i : TypeInfo} {z : Value} {bytes : Nat} (ht : P.underlying t = some (.slice e)) (hi : P.info? e = some i) (hz : i.zero = some z) (hby : i.bytes = bytes) (hb0 : 0 < bytes)
  (hzs : z.cells.size = i.size) {b off n cap : Nat} {olds : List Value} (hlo : olds.length = n * i.size) (holds : ∀ j v,olds[j]? = some v → w.cell? ⟨b,off + j,none⟩ = some v)
  {ad : Addr} {m c : Nat} {news : List Value} (hl : news.length = m * i.size) (hnews : ∀ j u,news[j]? = some u → w.cell? (ad.add j) = some u) (h1 : ∀ u ∈ news,u.oneCell' = true)
  (hbytes : (n + m) * bytes ≤ 140737488355328) (hnc : n ≤ cap) {C : Array Value} {E : TypeId} (hh : w.heap[b]? = some (.cells C E (0,0))) (hfit : n + m ≤ cap → off + cap * i.size ≤ C.size) :
  (n + m ≤ cap ∧ (Builtin.append_ #[t,t] ty #[.slice (some ⟨b,off,none⟩) n cap,.slice (some ad) m c]).run P w = .ok (.slice (some ⟨b,off,none⟩) (n + m) cap) (w.setRow b (splice C.toList news (off + n * i.size)).toArray)) ∨
   (∃ cap' C',(n + m ≤ cap' ∧ cap' ≤ 9223372036854775807) ∧ (Builtin.append_ #[t,t] ty #[.slice (some ⟨b,off,none⟩) n cap,.slice (some ad) m c]).run P w = .ok (.slice (some ⟨w.heap.size,0,none⟩) (n + m) cap') (w.drew.alloc (.cells C' e (0,0))) ∧ C'.size = cap' * i.size ∧ ∀ j u,(olds ++ news)[j]? = some u → C'.getD j undef = u) := by
 have hlen : n + m ≤ 140737488355328 := Nat.le_trans (Nat.le_mul_of_pos_right _ hb0) hbytes
 by_cases hroom : n + m ≤ cap
 ·left
  refine ⟨hroom,?_⟩
  have hfit' := hfit hroom
  have hmul : (n + m) * i.size ≤ cap * i.size := Nat.mul_le_mul_right _ hroom
  rw [Nat.add_mul] at hmul
  have hf := run_firstCells_some (P := P) w i.size m ad m c news hl hnews
  have hst := run_storeCells_at P b (off + n * i.size) E news 0 C w hh (by rw [hl]; omega) h1
  simp only [Nat.add_zero] at hst
  simp [Builtin.append_,run_und ht,sizeOf,typeInfo,hi,Builtin.lenOf,hroom,hf,Addr.add_lit,hst,splice]
 ·right
  have hr2 := run_append_grow (P := P) w t ty e i z ht hi hz ⟨b,off,none⟩ n cap olds hlo (fun j v hj => by rw [add_at]; exact holds j v hj) ad m c news hl hnews (by omega) (by omega) (growslice_fits (by omega) (by rw [hby]; exact hbytes))
  have hge := grownCap_ge w (n + m) cap e
  have hgl := grownCap_le_maxLen w (n + m) cap e (by unfold maxLen; omega)
  unfold maxLen at hgl
  refine ⟨_,_,⟨hge,by omega⟩,hr2,?_,fun j u hj => ?_⟩
  ·simp only [Array.size_append,List.size_toArray,size_zeroCells,hzs,hlo,hl,← Nat.add_mul]
   congr 1; omega
  ·have hlt := (List.getElem?_eq_some_iff.1 hj).1
   have hj2 : (olds.toArray ++ news.toArray ++ Builtin.zeroCells z.cells (grownCap w (n + m) cap e - (n + m)))[j]? = some u := by
    rw [Array.getElem?_append_left (by simpa using hlt)]
    simpa using hj
   rw [Array.getD_eq_getD_getElem?,hj2]; rfl
theorem appr_ok (h : Inv d nt m0 g0 w0 g om szm st a w) {t ty e : TypeId} {i : TypeInfo} {z : Value} {bytes sz : Nat} (ht : P.underlying t = some (.slice e)) (hi : P.info? e = some i) (hz : i.zero = some z) (hby : i.bytes = bytes) (hb0 : 0 < bytes)
  (hzs : z.cells.size = i.size) (hsize : i.size = sz) (hsz : 0 < sz) {dst : Option Nat} (hd : ∀ t,dst = some t → t < nt) {x y : PV} {rx ry : Value} (hx : V g x rx) (hy : Src g w y ry) {st' : St}
  (he : apprEv st sz bytes dst x y = some st') :
  ∃ r w' g',(Builtin.append_ #[t,t] ty #[rx,ry]).run P w = .ok r w' ∧ Inv d nt m0 g0 w0 g' om szm st' (a.put dst r) w' := by
 subst hsize
 cases y with
 | lst o2 nl2 sz2 ys =>
  simp only [apprEv] at he
  split at he
  ·rename_i hs2
   have hs2' := beq_iff_eq.1 hs2
   subst hs2'
   cases dst with
   | none => simp at he
   | some dd =>
    have hdd := hd dd rfl
    have fin : ∀ {st1 : St} {g1 : Gh} {b1 o1 N cap : Nat} {off' : Nat} {C : Array Value} {w' : World},g1.blk d dd [] = some (b1,o1,C.size) → st1.m.length = d → Inv d nt m0 g0 w0 g1 om szm st1 a w' → (cap ≠ 0 → off' = o1 ∧ o1 + cap * i.size ≤ C.size) → (N ≤ cap ∧ cap ≤ 9223372036854775807) →
      Inv d nt m0 g0 w0 g1 om szm { st1 with f := (dd,.slr st1.m.length dd [] 0 N i.size) :: st1.f } (a.put (some dd) (.slice (some ⟨b1,off',none⟩) N cap)) w' := by
     intro st1 g1 b1 o1 N cap off' C w' hb hl h1 ho hN
     refine h1.put (dst := some dd) hd (v := .slr st1.m.length dd [] 0 N i.size) (.slr _ _ [] 0 N i.size b1 o1 C.size off' cap (by rw [hl]; exact hb) (fun hc => ?_) hN) (by simp only [Tg]; trivial)
     obtain ⟨q1,q2⟩ := ho hc
     exact ⟨by omega,by omega⟩
    have hnewc : ∀ {news : List Value},(ys.flatMap PV.cells).all PV.isCell = true → (∀ x ∈ ys,x.isVal = true ∧ x.cells.length = i.size) → (∀ x ∈ ys,x.untag = x) → (∀ j c,(ys.flatMap PV.cells)[j]? = some c → V g c (news.getD j undef)) →
      ∀ j c,(ys.flatMap PV.cells)[j]? = some c → c.isCell = true ∧ c.untag1 = c ∧ V g c (news.getD j undef) := by
     intro news hall hnx hnu hnV j c hj
     have hm := getElem?_mem' hj
     obtain ⟨y,hy,hyc⟩ := List.mem_flatMap.1 hm
     exact ⟨List.all_eq_true.1 hall c hm,cells_untagged (hnx y hy).1 (hnu y hy) c hyc,hnV j c hj⟩
    have grown : ∀ {st1 : St} {cs : List PV} {vals : List Value} {C' : Array Value} {n cap' : Nat},Inv d nt m0 g0 w0 g om szm st1 a w → isFree st1 dd = true → (∀ j c,cs[j]? = some c → c.isCell = true ∧ c.untag1 = c ∧ V g c (vals.getD j undef)) → cs.length = vals.length → vals.length ≤ C'.size →
      (∀ j u,vals[j]? = some u → C'.getD j undef = u) → (n ≤ cap' ∧ cap' ≤ 9223372036854775807) → C'.size = cap' * i.size →
      ∃ g',Inv d nt m0 g0 w0 g' om szm { st1 with own := (dd,cs) :: st1.own,f := (dd,.slr st1.m.length dd [] 0 n i.size) :: st1.f } (a.put (some dd) (.slice (some ⟨w.heap.size,0,none⟩) n cap')) (w.drew.alloc (.cells C' e (0,0))) := by
     intro st1 cs vals C' n cap' h1 hf hc hlc hlv hget hn hC
     obtain ⟨g',hle,h2,hb⟩ := h1.addRoot hf (cs := cs) (b1 := w.heap.size) (o1 := 0) (C := C') (E := e) (w' := w.drew.alloc (.cells C' e (0,0))) (by rw [show w.heap.size = w.drew.heap.size from rfl,heap_alloc_at,if_pos rfl]) (by omega) (fun j c hj => by
       obtain ⟨q1,q2,q3⟩ := hc j c hj
       have hlt : j < vals.length := by rw [← hlc]; exact (List.getElem?_eq_some_iff.1 hj).1
       rw [Nat.zero_add,hget j vals[j] (List.getElem?_eq_getElem hlt)]
       rw [List.getD_eq_getElem?_getD,List.getElem?_eq_getElem hlt] at q3
       exact ⟨q1,q2,q3⟩) (by simp) (fun k hk _ => heap_alloc_old w.drew _ hk) rfl rfl rfl
       (fun q => by cases hg : g.G w.heap.size q with
        | none => rfl
        | some v => have := h.rel.G_lt hg; omega)
       (fun l s q o' t' zs hb => absurd hb (h.freeNew.1 _ _ _ _ _)) (fun l s r zs hb => absurd hb (h.freeNew.2 _ _ _)) (.inr (Nat.le_refl _))
     exact ⟨g',fin (st1 := { st1 with own := (dd,cs) :: st1.own }) hb h1.lv h2 (fun _ => ⟨rfl,by omega⟩) hn⟩
    simp only at he
    split at he
    ·
     rename_i sz1
     split at he
     ·rename_i hcond
      simp only [Bool.and_eq_true,beq_iff_eq,decide_eq_true_eq] at hcond
      obtain ⟨⟨rfl,hbytes⟩,hall⟩ := hcond
      have hrx : rx = .slice none 0 0 := by cases hx; rfl
      subst hrx
      cases ys with
      | nil =>
       simp only [Option.some.injEq] at he
       subst he
       have hry : ry = .slice none 0 0 ∨ ∃ b c,ry = .slice (some b) 0 c := (hy _ _ _ _ rfl).1 rfl
       exact ⟨_,w,g,append_none ht hi (Nat.le_refl 0) hry,h.put (dst := some dd) hd (v := .lst none true i.size []) (.nil none _) (by simp only [Tg]; trivial)⟩
      | cons y0 yr =>
       simp only at he
       split at he
       ·rename_i hfree
        cases he
        obtain ⟨ad,c,news,rfl,hnl,hnc,hnv,⟨hnx,hnu⟩,hnV⟩ := (hy _ _ _ _ rfl).2 (by simp)
        have hm : 0 < (y0 :: yr).length := by simp
        generalize hys : y0 :: yr = ys at *
        have hb2 : ys.length * i.bytes ≤ 140737488355328 := by rw [hby]; unfold maxBytes at hbytes; exact hbytes
        have hlen : ys.length ≤ 140737488355328 := Nat.le_trans (Nat.le_mul_of_pos_right _ (by rw [hby]; exact hb0)) hb2
        have hrun := run_append_nil (P := P) w t ty e i z ht hi hz ad ys.length c news hnl hnc hm (by omega) (by omega)
        have hge := grownCap_ge w ys.length 0 e
        have hgl := grownCap_le_maxLen w ys.length 0 e (by unfold maxLen; omega)
        unfold maxLen at hgl
        obtain ⟨g',hfin⟩ := grown (st1 := st) (cs := ys.flatMap PV.cells) (vals := news) (C' := news.toArray ++ Builtin.zeroCells z.cells (grownCap w ys.length 0 e - ys.length)) (n := ys.length) (cap' := grownCap w ys.length 0 e) h hfree (hnewc hall hnx hnu hnV)
         (by rw [flat_len hnx,hnl]) (by simp) (fun j u hj => by
          have hlt := (List.getElem?_eq_some_iff.1 hj).1
          rw [Array.getD_eq_getD_getElem?,Array.getElem?_append_left (by simpa using hlt)]
          simp [hj]) ⟨hge,by omega⟩ (by
          simp only [Array.size_append,List.size_toArray,size_zeroCells,hzs,hnl,← Nat.add_mul]
          congr 1; omega)
        exact ⟨_,_,g',hrun,hfin⟩
       ·cases he
     ·cases he
    ·
     rename_i lv sl p off n sz1
     cases hx with
     | slr _ _ _ _ _ _ b o tt off' cap hb ho hcap =>
     split at he
     ·rename_i hcond
      simp only [Bool.and_eq_true,beq_iff_eq,decide_eq_true_eq] at hcond
      obtain ⟨⟨⟨rfl,rfl⟩,hbytes⟩,hall⟩ := hcond
      cases ys with
      | nil =>
       simp only [Option.some.injEq] at he
       subst he
       have hry : ry = .slice none 0 0 ∨ ∃ b c,ry = .slice (some b) 0 c := (hy _ _ _ _ rfl).1 rfl
       exact ⟨_,w,g,append_none ht hi hcap.1 hry,h.put (dst := some dd) hd (.slr lv sl p 0 n i.size b o tt off' cap hb ho hcap) (by simp only [Tg]; trivial)⟩
      | cons y0 yr =>
       simp only at he
       split at he
       ·rename_i cs st1 htake
        split at he
        ·rename_i hcells
         split at he
         ·rename_i hfree
          cases he
          obtain ⟨h1,hcs,hlen,hgone,_,_,hlive1⟩ := takeRow_ok h hb htake
          obtain ⟨ad,c,news,rfl,hnl,hnc,hnv,⟨hnx,hnu⟩,hnV⟩ := (hy _ _ _ _ rfl).2 (by simp)
          have hm : 0 < (y0 :: yr).length := by simp
          generalize hys : y0 :: yr = ys at *
          obtain ⟨C,E,hh,hszC,hle0,h4,h5⟩ := h.rel.hM _ _ _ _ _ _ hb _ hcs
          have hpl := plain_row h4 hcells
          have hfx := flat_len hnx
          have hNew := hnewc hall hnx hnu hnV
          let olds : List Value := (List.range (n * i.size)).map fun j => C.getD (o + j) undef
          have holdl : olds.length = n * i.size := by simp [olds]
          have holdg : ∀ j,j < n * i.size → olds[j]? = some (C.getD (o + j) undef) := fun j hj => by simp [olds,hj]
          have hoo : ∀ j,j < n * i.size → off' = o ∧ o + cap * i.size ≤ tt := fun j hj => by
           have hn0 : n ≠ 0 := fun h0 => by subst h0; omega
           obtain ⟨q1,q2⟩ := ho (by omega)
           exact ⟨by omega,by omega⟩
          have hrun := append_at (P := P) (ty := ty) (w := w) (c := c) ht hi hz hby hb0 hzs (b := b) (off := off') (n := n) (cap := cap) (olds := olds) holdl (fun j v hj => by
            have hlt : j < n * i.size := by rw [← holdl]; exact (List.getElem?_eq_some_iff.1 hj).1
            rw [holdg j hlt] at hj
            cases hj
            rw [(hoo j hlt).1]
            have hlt2 : o + j < C.size := by omega
            simp [World.cell?,hh,hlt2]) hnl hnc (fun u hu => vcell_one (hnv u hu)) (by unfold maxBytes at hbytes; exact hbytes) hcap.1 hh (fun hr => by
            obtain ⟨q1,q2⟩ := ho (by omega)
            omega)
          have hall2 : ∀ j c,(cs ++ ys.flatMap PV.cells)[j]? = some c → c.isCell = true ∧ c.untag1 = c ∧ V g c ((olds ++ news).getD j undef) := by
           intro j c hj
           by_cases hlt : j < cs.length
           ·rw [List.getElem?_append_left hlt] at hj
            have := hpl j c hj
            rw [List.getD_eq_getElem?_getD,List.getElem?_append_left (by rw [holdl]; omega),holdg j (by omega)]
            exact this
           ·rw [List.getElem?_append_right (by omega)] at hj
            have := hNew _ c hj
            rw [List.getD_eq_getElem?_getD,List.getElem?_append_right (by rw [holdl]; omega),holdl,← hlen,← List.getD_eq_getElem?_getD]
            exact this
          rcases hrun with ⟨hroom,hrun⟩ | ⟨cap',C',hge,hrun,hC'1,hC'2⟩
          ·
           have hc0 : cap ≠ 0 := by omega
           obtain ⟨q1,q2⟩ := ho hc0
           have hoff : off' = o := by omega
           subst hoff
           have hmul : (n + ys.length) * i.size ≤ cap * i.size := Nat.mul_le_mul_right _ hroom
           rw [Nat.add_mul] at hmul
           have hspl : (splice C.toList news (off' + n * i.size)).toArray.size = C.size := by simp [splice_length (cs := C.toList) (new := news) (off := off' + n * i.size) (by simp; omega)]
           have hCg : ∀ j,j < (n + ys.length) * i.size → (splice C.toList news (off' + n * i.size)).toArray.getD (off' + j) undef = (olds ++ news).getD j undef := by
            intro j hj
            rw [Nat.add_mul] at hj
            rw [Array.getD_eq_getD_getElem?,List.getElem?_toArray,splice_get (by simp; omega),List.getD_eq_getElem?_getD]
            by_cases hlt : j < n * i.size
            ·rw [if_neg (by omega),List.getElem?_append_left (by omega),holdg j hlt]
             simp [Array.getD_eq_getD_getElem?]
            ·rw [if_pos (by omega),List.getElem?_append_right (by omega),holdl,show off' + j - (off' + n * i.size) = j - n * i.size by omega]
           obtain ⟨g',hle,h2,hb2⟩ := h1.addRoot hfree (b1 := b) (o1 := off') (cs := cs ++ ys.flatMap PV.cells) (C := (splice C.toList news (off' + n * i.size)).toArray) (E := E) (w' := w.setRow b (splice C.toList news (off' + n * i.size)).toArray)
            (setRow_heap w b C _ E _ hh) (by rw [hspl,List.length_append,hlen,hfx]; omega) (fun j c hj => by
             have hlt : j < (n + ys.length) * i.size := by
              have := (List.getElem?_eq_some_iff.1 hj).1
              rw [List.length_append,hlen,hfx,← Nat.add_mul] at this; exact this
             rw [hCg j hlt]
             exact hall2 j c hj) (by simp) (fun k _ hk => setRow_other w b k _ hk) rfl rfl rfl h5
            (fun l s q o' t' zs hbb hz => by
             obtain ⟨zs0,hz0⟩ := hlive1 l s q zs hz
             obtain ⟨rfl,rfl,rfl⟩ := h.rel.inj _ _ _ _ _ _ _ _ _ _ _ _ _ hbb hb hz0 hcs
             rw [hgone] at hz; cases hz)
            (fun l s r zs hbb hz => by
             obtain ⟨zs0,hz0⟩ := hlive1 l s [] zs hz
             obtain ⟨_,_,pn,hlp⟩ := h.rel.hL _ _ _ _ hbb _ hz0
             rw [hh] at hlp; cases hlp) (.inl ⟨lv,sl,p,off',tt,hb⟩)
           refine ⟨_,_,g',hrun,?_⟩
           have := fin (st1 := { st1 with own := (dd,cs ++ ys.flatMap PV.cells) :: st1.own }) (N := n + ys.length) (cap := cap) (off' := off') hb2 h1.lv h2 (fun _ => ⟨rfl,by rw [hspl]; omega⟩) ⟨hroom,hcap.2⟩
           exact this
          ·
           obtain ⟨g',hfin⟩ := grown (st1 := st1) (cs := cs ++ ys.flatMap PV.cells) (vals := olds ++ news) (C' := C') (n := n + ys.length) (cap' := cap') h1 hfree hall2 (by rw [List.length_append,List.length_append,hlen,hfx,holdl,hnl]) (by
            rw [List.length_append,holdl,hnl,hC'1,← Nat.add_mul]; exact Nat.mul_le_mul_right _ hge.1) hC'2 hge hC'1
           exact ⟨_,_,g',hrun,hfin⟩
         ·cases he
        ·cases he
       ·cases he
     ·cases he
    ·cases he
  ·cases he
 | _ => simp [apprEv] at he
end
end Go.Proofs.Ytmffcpiffkclgaa.ZJM
