/- slices.Insert at elements of six cells, for the ideal machine: the row in its cell is gone; a row of the call's own is handed out. -/
import Derived.Test.YtmffcpiffkclgaaZYN1
import Derived.Test.YtmffcpiffkclgaaZJ20
set_option linter.unusedVariables false
set_option linter.unusedSimpArgs false
namespace Go.Proofs.Ytmffcpiffkclgaa.ZJM
open Go.RowKit
structure Wr (b : Nat) (w w' : World) : Prop where
 size : w'.heap.size = w.heap.size
 other : ∀ k,k ≠ b → w'.heap[k]? = w.heap[k]?
 os : w'.os = w.os
 tape : w'.tape = w.tape
 output : w'.output = w.output
theorem Wr.trans {b : Nat} {w w' w'' : World} (h : Wr b w w') (k : Wr b w' w'') : Wr b w w'' :=
 ⟨k.size.trans h.size,fun q hq => (k.other q hq).trans (h.other q hq),k.os.trans h.os,k.tape.trans h.tape,k.output.trans h.output⟩
theorem setCell_wr {b o : Nat} {v : Value} {w : World} : Wr b w (w.setCell ⟨b,o,none⟩ v) := by
 refine ⟨by simp [World.setCell],fun k hk => ?_,rfl,rfl,rfl⟩
 simp only [World.setCell,Array.getElem?_modify]
 rw [if_neg (Ne.symm hk)]
theorem setCells_wr {b : Nat} : ∀ (vs : List Value) (o : Nat) (w : World),Wr b w (w.setCells b o vs)
 | [],o,w => ⟨rfl,fun _ _ => rfl,rfl,rfl,rfl⟩
 | v :: r,o,w => by
  rw [World.setCells]
  exact setCell_wr.trans (setCells_wr r (o + 1) _)
theorem setCells_row {b : Nat} {E : TypeId} : ∀ (vs : List Value) (o : Nat) (w : World) (C : Array Value),w.heap[b]? = some (.cells C E (0,0)) → o + vs.length ≤ C.size →
  ∃ C' : Array Value,(w.setCells b o vs).heap[b]? = some (.cells C' E (0,0)) ∧ C'.size = C.size ∧ ∀ q,C'[q]? = if o ≤ q ∧ q < o + vs.length then vs[q - o]? else C[q]?
 | [],o,w,C,h,_ => ⟨C,h,rfl,fun q => by rw [if_neg (by simp only [List.length_nil]; omega)]⟩
 | v :: r,o,w,C,h,hl => by
  simp only [List.length_cons] at hl
  rw [World.setCells]
  have h1 : (w.setCell ⟨b,o,none⟩ v).heap[b]? = some (.cells (C.setIfInBounds o v) E (0,0)) := by
   simp [World.setCell,Array.getElem?_modify,h]
  obtain ⟨C',h2,h3,h4⟩ := setCells_row r (o + 1) _ _ h1 (by simp only [Array.size_setIfInBounds]; omega)
  refine ⟨C',h2,by rw [h3]; simp,fun q => ?_⟩
  rw [h4 q]
  by_cases hq : o = q
  ·subst hq
   rw [if_neg (by omega),if_pos (by simp only [List.length_cons]; omega),Array.getElem?_setIfInBounds]
   simp only [if_true,Nat.sub_self,List.getElem?_cons_zero]
   rw [if_pos (by omega)]
  ·by_cases hin : o + 1 ≤ q ∧ q < o + 1 + r.length
   ·rw [if_pos hin,if_pos (by simp only [List.length_cons]; omega),show q - o = (q - (o + 1)) + 1 by omega,List.getElem?_cons_succ]
   ·rw [if_neg hin,if_neg (by simp only [List.length_cons]; omega),Array.getElem?_setIfInBounds,if_neg hq]
def Ins (w : World) (b off CS N : Nat) (vals : List Value) (rv : Value) (w' : World) : Prop :=
 ∃ B O cap C E,rv = .slice (some ⟨B,O,none⟩) N cap ∧ w'.heap[B]? = some (.cells C E (0,0)) ∧ (N ≤ cap ∧ cap ≤ 9223372036854775807) ∧ O + cap * 6 ≤ C.size ∧ (∀ j v,vals[j]? = some v → C.getD (O + j) undef = v) ∧
  (∀ k,k < w.heap.size → k ≠ B → w'.heap[k]? = w.heap[k]?) ∧ w.heap.size ≤ w'.heap.size ∧ w'.os = w.os ∧ w'.tape = w.tape ∧ w'.output = w.output ∧ ((B = b ∧ O = off ∧ C.size = CS) ∨ B = w.heap.size)
theorem getD_of {A : Array Value} {j : Nat} {v : Value} (h : A[j]? = some v) : A.getD j undef = v := by rw [Array.getD_eq_getD_getElem?,h]; rfl
theorem heap_cell {w : World} {b o : Nat} {C : Array Value} {E : TypeId} {r : Nat × Nat} (h : w.heap[b]? = some (.cells C E r)) : w.cell? ⟨b,o,none⟩ = C[o]? := by simp [World.cell?,h]
theorem heap_frozen {w : World} {b o : Nat} {C : Array Value} {E : TypeId} (h : w.heap[b]? = some (.cells C E (0,0))) : w.frozen? ⟨b,o,none⟩ = false := by simp [World.frozen?,h]
theorem heap_shape {w : World} {b : Nat} {C : Array Value} {E : TypeId} {r : Nat × Nat} (h : w.heap[b]? = some (.cells C E r)) : w.shape? b = some (E,C.size) := by simp [World.shape?,h]
theorem mid_get {α : Type} {cs vs : List α} {i : Nat} (hi : i ≤ cs.length) (j : Nat) : (cs.take i ++ vs ++ cs.drop i)[j]? = if j < i then cs[j]? else if j < i + vs.length then vs[j - i]? else cs[j - vs.length]? := by
 by_cases h1 : j < i
 ·rw [if_pos h1,List.append_assoc,List.getElem?_append_left (by simp; omega),List.getElem?_take,if_pos h1]
 ·rw [if_neg h1]
  by_cases h2 : j < i + vs.length
  ·rw [if_pos h2,List.getElem?_append_left (by simp; omega),List.getElem?_append_right (by simp; omega)]
   congr 1; simp; omega
  ·rw [if_neg h2,List.getElem?_append_right (by simp; omega),List.getElem?_drop]
   congr 1; simp; omega
theorem ins_nil (w : World) (vb voff vc : Nat) (vs : List Value) (hvl : vs.length = 6) (hvs : ∀ j v,vs[j]? = some v → w.cell? ⟨vb,voff + j,none⟩ = some v) (h1v : ∀ v ∈ vs,v.oneCell' = true) :
  Calls Try.prog 154 #[.slice none 0 0,.int .i64 0,.slice (some ⟨vb,voff,none⟩) 1 vc] w fun e w' => ∃ rv,e = .returned rv ∧ Ins w 0 0 0 1 vs rv w' := by
 refine (ZIN.ins_end_grow ZIN.lays none 0 0 vb voff 1 vc [] vs w (by omega) (by omega) (by omega) (by omega) rfl (by omega) (fun _ => rfl) (fun a ha => by cases ha) hvs h1v).mono ?_
 rintro e w' ⟨ROW,h1,h2,rfl,rfl⟩
 have hge := grownCap_ge w (0 + 1) 0 215
 have hgl := grownCap_le_maxLen w (0 + 1) 0 215 (by unfold maxLen; omega)
 unfold maxLen at hgl
 refine ⟨_,rfl,w.heap.size,0,_,ROW,215,rfl,?_,⟨hge,by omega⟩,by omega,fun j v hj => ?_,fun k hk _ => heap_alloc_old w.drew _ hk,by simp,rfl,rfl,rfl,.inr rfl⟩
 ·rw [show w.heap.size = w.drew.heap.size from rfl,heap_alloc_at,if_pos rfl]
 ·have hlt := (List.getElem?_eq_some_iff.1 hj).1
  refine getD_of ?_
  rw [Nat.zero_add,h2 j (by omega)]
  exact hj
theorem ins_row (w : World) (b off n c i vb voff vc : Nat) (C : Array Value) (E : TypeId) (hh : w.heap[b]? = some (.cells C E (0,0))) (hn : n ≤ c) (hc63 : c ≤ 9223372036854775807) (hfit : c ≠ 0 → off + c * 6 ≤ C.size) (hi : i ≤ n) (hbig : (n + 1) * 64 ≤ 140737488355328)
  (cs vs : List Value) (hcl : cs.length = n * 6) (hvl : vs.length = 6) (hcs : ∀ j v,cs[j]? = some v → C[off + j]? = some v) (h1c : ∀ v ∈ cs,v.oneCell' = true)
  (hvs : ∀ j v,vs[j]? = some v → w.cell? ⟨vb,voff + j,none⟩ = some v) (h1v : ∀ v ∈ vs,v.oneCell' = true) (hvb : vb ≠ b) :
  Calls Try.prog 154 #[.slice (some ⟨b,off,none⟩) n c,.int .i64 i,.slice (some ⟨vb,voff,none⟩) 1 vc] w fun e w' => ∃ rv,e = .returned rv ∧ Ins w b off C.size (n + 1) (cs.take (i * 6) ++ vs ++ cs.drop (i * 6)) rv w' := by
 have hcsw : ∀ j v,cs[j]? = some v → w.cell? ⟨b,off + j,none⟩ = some v := fun j v hj => by rw [heap_cell hh]; exact hcs j v hj
 have hbw : b < w.heap.size := (Array.getElem?_eq_some_iff.1 hh).1
 have hge := grownCap_ge w (n + 1) c 215
 have hgl := grownCap_le_maxLen w (n + 1) c 215 (by unfold maxLen; omega)
 unfold maxLen at hgl
 by_cases hroom : n + 1 ≤ c
 ·have hft := hfit (by omega)
  by_cases hin : i < n
  ·
   obtain ⟨CV,EV,rV,hhv⟩ : ∃ CV EV rV,w.heap[vb]? = some (.cells CV EV rV) := by
    have h0 := hvs 0 _ (List.getElem?_eq_getElem (by omega))
    simp only [World.cell?] at h0
    split at h0
    ·rename_i q1 q2 q3 he; exact ⟨_,_,_,he⟩
    ·cases h0
   have hkv : CV.size ≠ 0 := by
    have h0 := hvs 0 _ (List.getElem?_eq_getElem (by omega))
    rw [heap_cell hhv] at h0
    have := (Array.getElem?_eq_some_iff.1 h0).1
    omega
   refine (ZIN.ins_shift ZIN.lays b off n c i vb voff 1 vc cs vs w hin (by omega) hroom hc63 hvb hcl (by omega) hcsw (fun j hj => by rw [heap_cell hh,Array.getElem?_eq_getElem (by omega)]; rfl) (fun j hj => heap_frozen hh) hvs h1c h1v EV E CV.size C.size (heap_shape hhv) (heap_shape hh) hkv (by omega) (heap_frozen hh) (heap_frozen hh)).mono ?_
   rintro e w' ⟨rfl,rfl⟩
   obtain ⟨C1,a1,a2,a3⟩ := setCells_row (cs.drop (i * 6)) (off + (i + 1) * 6) w.drew C hh (by rw [List.length_drop]; omega)
   obtain ⟨C2,b1,b2,b3⟩ := setCells_row vs (off + i * 6) _ C1 a1 (by omega)
   have hw := (setCells_wr (b := b) (cs.drop (i * 6)) (off + (i + 1) * 6) w.drew).trans (setCells_wr vs (off + i * 6) _)
   refine ⟨_,rfl,b,off,c,C2,E,rfl,b1,⟨hroom,hc63⟩,by omega,fun j v hj => getD_of ?_,fun k _ hk => hw.other k hk,Nat.le_of_eq hw.size.symm,hw.os,hw.tape,hw.output,.inl ⟨rfl,rfl,by omega⟩⟩
   rw [mid_get (by omega)] at hj
   rw [b3,a3]
   rw [List.length_drop]
   split at hj
   ·rw [if_neg (by omega),if_neg (by omega)]
    exact hcs j v hj
   ·split at hj
    ·rw [if_pos (by omega),show off + j - (off + i * 6) = j - i * 6 by omega]
     exact hj
    ·have hlt := (List.getElem?_eq_some_iff.1 hj).1
     rw [if_neg (by omega),if_pos (by omega),List.getElem?_drop,show i * 6 + (off + j - (off + (i + 1) * 6)) = j - vs.length by omega]
     exact hj
  ·
   have : i = n := by omega
   subst this
   refine (ZIN.ins_end_room ZIN.lays b off i c vb voff 1 vc vs w (by omega) hroom hc63 (by omega) (fun j hj => by rw [heap_cell hh,Array.getElem?_eq_getElem (by omega)]; rfl) (fun j hj => heap_frozen hh) hvs h1v).mono ?_
   rintro e w' ⟨rfl,rfl⟩
   obtain ⟨C1,a1,a2,a3⟩ := setCells_row vs (off + i * 6) w C hh (by omega)
   have hw := setCells_wr (b := b) vs (off + i * 6) w
   refine ⟨_,rfl,b,off,c,C1,E,rfl,a1,⟨hroom,hc63⟩,by omega,fun j v hj => getD_of ?_,fun k _ hk => hw.other k hk,Nat.le_of_eq hw.size.symm,hw.os,hw.tape,hw.output,.inl ⟨rfl,rfl,by omega⟩⟩
   rw [mid_get (by omega)] at hj
   rw [a3]
   split at hj
   ·rw [if_neg (by omega)]
    exact hcs j v hj
   ·split at hj
    ·rw [if_pos (by omega),show off + j - (off + i * 6) = j - i * 6 by omega]
     exact hj
    ·have hlt := (List.getElem?_eq_some_iff.1 hj).1
     omega
 ·by_cases hin : i < n
  ·
   refine (ZIN.ins_grow ZIN.lays b off n c i vb voff 1 vc cs vs w hin (by omega) hn (by omega) hbig hcl (by omega) hcsw hvs h1c h1v).mono ?_
   rintro e w' ⟨ROW,r1,r2,rfl,rfl⟩
   have h0 : (w.alloc (.cells ROW 215)).drew.heap[w.heap.size]? = some (.cells ROW 215 (0,0)) := by
    show (w.alloc (.cells ROW 215)).heap[w.heap.size]? = _
    rw [heap_alloc_at,if_pos rfl]
   obtain ⟨C1,a1,a2,a3⟩ := setCells_row vs (i * 6) _ ROW h0 (by omega)
   have a1' : ((w.alloc (.cells ROW 215)).drew.setCells w.heap.size (i * 6) vs).drew.heap[w.heap.size]? = some (.cells C1 215 (0,0)) := a1
   obtain ⟨C2,b1,b2,b3⟩ := setCells_row (cs.drop (i * 6)) ((i + 1) * 6) _ C1 a1' (by rw [List.length_drop]; omega)
   have hw1 := setCells_wr (b := w.heap.size) vs (i * 6) (w.alloc (.cells ROW 215)).drew
   have hw2 := setCells_wr (b := w.heap.size) (cs.drop (i * 6)) ((i + 1) * 6) ((w.alloc (.cells ROW 215)).drew.setCells w.heap.size (i * 6) vs).drew
   have hold : ∀ k,k < w.heap.size → ((w.alloc (.cells ROW 215)).drew.setCells w.heap.size (i * 6) vs).drew.heap[k]? = w.heap[k]? := fun k hk => by
    show ((w.alloc (.cells ROW 215)).drew.setCells w.heap.size (i * 6) vs).heap[k]? = _
    rw [hw1.other k (by omega)]
    exact heap_alloc_old w _ hk
   refine ⟨_,rfl,w.heap.size,0,_,C2,215,rfl,b1,⟨hge,by omega⟩,by omega,fun j v hj => getD_of ?_,fun k hk _ => by rw [hw2.other k (by omega)]; exact hold k hk,?_,hw2.os.trans hw1.os,hw2.tape.trans hw1.tape,hw2.output.trans hw1.output,.inr rfl⟩
   ·rw [mid_get (by omega)] at hj
    rw [b3,a3,List.length_drop,Nat.zero_add]
    split at hj
    ·rw [if_neg (by omega),if_neg (by omega),r2 j (by omega)]
     exact hj
    ·split at hj
     ·rw [if_neg (by omega),if_pos (by omega)]
      exact hj
     ·have hlt := (List.getElem?_eq_some_iff.1 hj).1
      rw [if_pos (by omega),List.getElem?_drop,show i * 6 + (j - (i + 1) * 6) = j - vs.length by omega]
      exact hj
   ·have e1 : ((w.alloc (.cells ROW 215)).drew.setCells w.heap.size (i * 6) vs).drew.heap.size = (w.alloc (.cells ROW 215)).heap.size := hw1.size
    rw [hw2.size,e1]
    simp
  ·have : i = n := by omega
   subst this
   refine (ZIN.ins_end_grow ZIN.lays (some ⟨b,off,none⟩) i c vb voff 1 vc cs vs w (by omega) hn (by omega) hbig hcl (by omega) (fun h => by cases h) (fun a ha j v hj => by cases ha; rw [Addr.add_lit]; exact hcsw j v hj) hvs h1v).mono ?_
   rintro e w' ⟨ROW,h1,h2,rfl,rfl⟩
   refine ⟨_,rfl,w.heap.size,0,_,ROW,215,rfl,?_,⟨hge,by omega⟩,by omega,fun j v hj => getD_of ?_,fun k hk _ => heap_alloc_old w.drew _ hk,by simp,rfl,rfl,rfl,.inr rfl⟩
   ·rw [show w.heap.size = w.drew.heap.size from rfl,heap_alloc_at,if_pos rfl]
   ·have hlt := (List.getElem?_eq_some_iff.1 hj).1
    rw [← hcl,List.take_length,List.drop_length,List.append_nil] at hj hlt
    simp only [List.length_append] at hlt
    rw [Nat.zero_add,h2 j (by omega)]
    exact hj
end Go.Proofs.Ytmffcpiffkclgaa.ZJM
set_option linter.unusedVariables false
set_option linter.unusedSimpArgs false
namespace Go.Proofs.Ytmffcpiffkclgaa.ZJM
open Go.RowKit
def insF (args : List PV) (m : Mem) : Option (PV × Bag × Mem) := match args with
 | [x,.int .i64 i,.lst none _ sz ys] => if (sz == 6 && ys.length == 1 && (ys.flatMap PV.cells).all PV.isCell) = true then
   (match x with
   | .lst none true _ [] => if i = 0 then bagOf { f := [],tops := [],own := [(0,ys.flatMap PV.cells)],dead := [],m := m } (.slr m.length 0 [] 0 1 6) [0] [] else none
   | .slr lv sl p off n sz1 => if (sz1 == 6 && off == 0 && decide (0 ≤ i) && decide (i ≤ n) && decide ((n + 1) * 64 ≤ maxBytes)) = true then
     (match takeRow { f := [],tops := [],own := [],dead := [],m := m } lv sl p n 6 with
     | some (cs,st1) => if (cs.all PV.isCell && isFree st1 0) = true then
       bagOf { st1 with own := (0,cs.take (i.toNat * 6) ++ ys.flatMap PV.cells ++ cs.drop (i.toNat * 6)) :: st1.own } (.slr st1.m.length 0 [] 0 (n + 1) 6) [0] [] else none
     | none => none) else none
   | _ => none) else none
 | _ => none
section
variable {d nt : Nat} {m0 : Mem} {g0 : Gh} {w0 : World} {g : Gh} {om : Nat → Value} {szm : Nat → Nat} {st : St} {a : Act} {w : World}
theorem ins_inv (h1 : Inv d nt m0 g0 w0 g om szm st a w) (hd : d = m0.length) (hf : isFree st 0 = true) {b off CS N : Nat} {vals : List Value} {cs : List PV} {rv : Value} {w' : World} (hi : Ins w b off CS N vals rv w') (hlen : cs.length = vals.length) (hN : cs.length = N * 6)
  (hc : ∀ j c,cs[j]? = some c → c.isCell = true ∧ c.untag1 = c ∧ V g c (vals.getD j undef))
  (hG : CS ≠ 0 → (∀ q,g.G b q = none) ∧ (∀ l s q o' t' zs,g.blk l s q = some (b,o',t') → mget (st.own :: st.m) l s q ≠ some zs) ∧ (∀ l s r zs,g.lp l s = some (b,r) → mget (st.own :: st.m) l s [] ≠ some zs) ∧ ∃ l s q o' t',g.blk l s q = some (b,o',t'))
  (hN0 : 0 < N) {v : PV} {bag : Bag} {m' : Mem} (he : bagOf { st with own := (0,cs) :: st.own } (.slr st.m.length 0 [] 0 N 6) [0] [] = some (v,bag,m')) : ∃ g',CallPost m0 g0 w0 m' bag v g' w' rv := by
 obtain ⟨B,O,cap,C,E,rfl,hh,hcap,hfit,hvals,hoth,hsz,hos,htp,hout,hB⟩ := hi
 have hlC : O + cs.length ≤ C.size := by omega
 have hcc : ∀ j c,cs[j]? = some c → c.isCell = true ∧ c.untag1 = c ∧ V g c (C.getD (O + j) undef) := fun j c hj => by
  obtain ⟨q1,q2,q3⟩ := hc j c hj
  have hlt : j < vals.length := by rw [← hlen]; exact (List.getElem?_eq_some_iff.1 hj).1
  rw [hvals j _ (List.getElem?_eq_getElem hlt)]
  rw [List.getD_eq_getElem?_getD,List.getElem?_eq_getElem hlt] at q3
  exact ⟨q1,q2,q3⟩
 have key : ∃ g',g.le g' ∧ Inv d nt m0 g0 w0 g' om szm { st with own := (0,cs) :: st.own } a w' ∧ g'.blk d 0 [] = some (B,O,C.size) := by
  rcases hB with ⟨rfl,rfl,rfl⟩ | rfl
  ·obtain ⟨k1,k2,k3,k4⟩ := hG (by omega)
   exact h1.addRoot hf hh hlC hcc hsz hoth hos htp hout k1 k2 k3 (.inl k4)
  ·exact h1.addRoot hf hh hlC hcc hsz hoth hos htp hout (fun q => by
    cases hg : g.G w.heap.size q with
    | none => rfl
    | some v => have := h1.rel.G_lt hg; omega) (fun l s q o' t' zs hb => absurd hb (h1.freeNew.1 _ _ _ _ _)) (fun l s r zs hb => absurd hb (h1.freeNew.2 _ _ _)) (.inr (Nat.le_refl _))
 obtain ⟨g',hle,h2,hbk⟩ := key
 exact post_bag h2 hd (.slr _ _ [] 0 N 6 B O C.size O cap (by show g'.blk st.m.length 0 [] = _; rw [h1.lv]; exact hbk) (fun _ => ⟨rfl,hfit⟩) hcap) (by simp only [Tg]; trivial) he
end
theorem size3 {ra : Array Value} {x y z : Value} (h : ra.size = 3) (hx : ra.getD 0 undef = x) (hy : ra.getD 1 undef = y) (hz : ra.getD 2 undef = z) : ra = #[x,y,z] := by
 apply Array.ext (by simpa using h)
 intro i hi hi'
 rcases (by omega : i = 0 ∨ i = 1 ∨ i = 2) with rfl | rfl | rfl
 ·simpa [Array.getD,hi] using hx
 ·simpa [Array.getD,hi] using hy
 ·simpa [Array.getD,hi] using hz
theorem ins_ok {args : List PV} {m m' : Mem} {v : PV} {bag : Bag} (hF : insF args m = some (v,bag,m')) {g : Gh} {w : World} {ra : Array Value} (hR : Rel g m w) (hl : args.length = ra.size)
  (ha : ∀ j c,args[j]? = some c → V g c (ra.getD j undef)) : CallsIn Fence.wide 0 Try.prog 154 ra w fun e w' => ∃ rv,e = .returned rv ∧ ∃ g',CallPost m g w m' bag v g' w' rv := by
 unfold insF at hF
 split at hF
 case h_2 => cases hF
 rename_i x i nl sz ys
 split at hF
 case isFalse => cases hF
 rename_i hcond
 simp only [Bool.and_eq_true,beq_iff_eq] at hcond
 obtain ⟨⟨rfl,hy1⟩,hall⟩ := hcond
 have h0 := ha 0 _ rfl
 have h1 := ha 1 _ rfl
 have h2 := ha 2 _ rfl
 have h1' : ra.getD 1 undef = .int .i64 i := by generalize ra.getD 1 undef = q at h1; cases h1; rfl
 generalize hq2 : ra.getD 2 undef = ry at h2
 have hI := Inv.start0 (nt := 0) (F := []) (T := #[]) hR rfl (fun t u hu => by simp [get] at hu)
 cases h2 with
 | nil => simp at hy1
 | emp => simp at hy1
 | lst _ _ _ vb voff vcap rv hs hu hG hV hvc =>
 have hfl := flat_len hs
 rw [hy1] at hfl
 let vs : List Value := (List.range 6).map rv
 have hvl : vs.length = 6 := by simp [vs]
 have hvg : ∀ j,j < 6 → vs[j]? = some (rv j) := fun j hj => by simp [vs,hj]
 have hvs : ∀ j u,vs[j]? = some u → w.cell? ⟨vb,voff + j,none⟩ = some u ∧ vcell u = true := fun j u hj => by
  have hlt : j < 6 := by rw [← hvl]; exact (List.getElem?_eq_some_iff.1 hj).1
  rw [hvg j hlt] at hj
  cases hj
  exact hR.hG _ _ _ (hG j (by omega))
 have h1v : ∀ u ∈ vs,u.oneCell' = true := fun u hm => by
  obtain ⟨j,hj⟩ := List.getElem?_of_mem hm
  exact vcell_one (hvs j u hj).2
 have hcell : ∀ j c,(ys.flatMap PV.cells)[j]? = some c → c.isCell = true ∧ c.untag1 = c ∧ V g c (vs.getD j undef) := fun j c hj => by
  have hlt : j < 6 := by have := (List.getElem?_eq_some_iff.1 hj).1; omega
  have hm := getElem?_mem' hj
  obtain ⟨y,hy,hyc⟩ := List.mem_flatMap.1 hm
  refine ⟨List.all_eq_true.1 hall c hm,cells_untagged (hs y hy).1 (hu y hy) c hyc,?_⟩
  rw [List.getD_eq_getElem?_getD,hvg j hlt]
  exact hV j c hj
 split at hF
 ·
  split at hF
  case isFalse => cases hF
  rename_i hi0
  subst hi0
  have h0' : ra.getD 0 undef = .slice none 0 0 := by generalize ra.getD 0 undef = q at h0; cases h0; rfl
  rw [size3 (by simpa using hl.symm) h0' h1' hq2,hy1]
  refine callsIn_wide.2 ((ins_nil w vb voff vcap vs hvl (fun j u hj => (hvs j u hj).1) h1v).mono ?_)
  rintro e w' ⟨r,rfl,hins⟩
  exact ⟨r,rfl,ins_inv hI rfl rfl hins (by omega) (by omega) hcell (fun h => absurd rfl h) (by omega) hF⟩
 ·
  rename_i lv sl p off n sz1
  split at hF
  case isFalse => cases hF
  rename_i hc2
  simp only [Bool.and_eq_true,beq_iff_eq,decide_eq_true_eq] at hc2
  obtain ⟨⟨⟨⟨rfl,rfl⟩,hi0⟩,hin⟩,hbig⟩ := hc2
  split at hF
  case h_2 => cases hF
  rename_i cs st1 htk
  split at hF
  case isFalse => cases hF
  rename_i hc3
  simp only [Bool.and_eq_true] at hc3
  obtain ⟨hplain,hfree⟩ := hc3
  generalize hq0 : ra.getD 0 undef = rx at h0
  cases h0 with
  | slr _ _ _ _ _ _ b o tt off' cap hb ho hcap =>
  obtain ⟨hI1,hcs,hlen,hgone,_,_,hlive1⟩ := takeRow_ok hI hb htk
  obtain ⟨C,E,hh,hszC,hle0,h4,h5⟩ := hI.rel.hM _ _ _ _ _ _ hb _ hcs
  have hpl := plain_row h4 hplain
  have hcC : ∀ j,j < n * 6 → off' = o ∧ o + j < C.size := fun j hj => by
   obtain ⟨q1,q2⟩ := ho (by omega)
   exact ⟨by omega,by omega⟩
  let olds : List Value := (List.range (n * 6)).map fun j => C.getD (o + j) undef
  have holdl : olds.length = n * 6 := by simp [olds]
  have holdg : ∀ j,j < n * 6 → olds[j]? = some (C.getD (o + j) undef) := fun j hj => by simp [olds,hj]
  have hi' : (i.toNat : Int) = i := Int.toNat_of_nonneg hi0
  have hvb : vb ≠ b := fun he => by
   have := hG 0 (by omega)
   rw [he,h5] at this
   cases this
  have hrow := ins_row w b off' n cap i.toNat vb voff vcap C E hh hcap.1 hcap.2 (fun hc => by obtain ⟨q1,q2⟩ := ho hc; omega) (by omega) (by unfold maxBytes at hbig; exact hbig) olds vs holdl hvl (fun j u hj => by
    have hlt : j < n * 6 := by rw [← holdl]; exact (List.getElem?_eq_some_iff.1 hj).1
    rw [holdg j hlt] at hj
    cases hj
    obtain ⟨q1,q2⟩ := hcC j hlt
    rw [q1]
    simp [Array.getD,q2]) (fun u hm => by
    obtain ⟨j,hj⟩ := List.getElem?_of_mem hm
    have hlt : j < n * 6 := by rw [← holdl]; exact (List.getElem?_eq_some_iff.1 hj).1
    rw [holdg j hlt] at hj
    cases hj
    have hjc : cs[j]? = some (cs[j]'(by omega)) := List.getElem?_eq_getElem (by omega)
    obtain ⟨q1,q2,q3⟩ := hpl j _ hjc
    exact vcell_one (q3.vcell q1)) (fun j u hj => (hvs j u hj).1) h1v hvb
  rw [hi'] at hrow
  rw [size3 (by simpa using hl.symm) hq0 h1' hq2,hy1]
  refine callsIn_wide.2 (hrow.mono ?_)
  rintro e w' ⟨r,rfl,hins⟩
  have hlm : (cs.take (i.toNat * 6) ++ ys.flatMap PV.cells ++ cs.drop (i.toNat * 6)).length = (olds.take (i.toNat * 6) ++ vs ++ olds.drop (i.toNat * 6)).length := by
   simp only [List.length_append,List.length_take,List.length_drop]; omega
  refine ⟨r,rfl,ins_inv hI1 rfl hfree hins hlm (by simp only [List.length_append,List.length_take,List.length_drop]; omega) (fun j c hj => ?_) (fun _ => ⟨h5,fun l s q o' t' zs hbb hz => ?_,fun l s r zs hbb hz => ?_,⟨lv,sl,p,o,tt,hb⟩⟩) (by omega) hF⟩
  ·have hi6 : i.toNat * 6 ≤ cs.length := by omega
   have hi7 : i.toNat * 6 ≤ olds.length := by omega
   rw [mid_get hi6] at hj
   rw [List.getD_eq_getElem?_getD,mid_get hi7]
   split at hj
   ·rename_i hlt
    rw [if_pos hlt,holdg j (by omega)]
    exact hpl j c hj
   ·rename_i hlt
    rw [if_neg hlt]
    split at hj
    ·rename_i hlt2
     rw [if_pos (by omega)]
     have := hcell _ c hj
     rwa [List.getD_eq_getElem?_getD] at this
    ·rename_i hlt2
     have hl3 := (List.getElem?_eq_some_iff.1 hj).1
     rw [if_neg (by omega),show vs.length = (ys.flatMap PV.cells).length by omega,holdg _ (by omega)]
     exact hpl _ c hj
  ·obtain ⟨zs0,hz0⟩ := hlive1 l s q zs hz
   obtain ⟨rfl,rfl,rfl⟩ := hI.rel.inj _ _ _ _ _ _ _ _ _ _ _ _ _ hbb hb hz0 hcs
   rw [hgone] at hz; cases hz
  ·obtain ⟨zs0,hz0⟩ := hlive1 l s [] zs hz
   obtain ⟨_,_,pn,hlp⟩ := hI.rel.hL _ _ _ _ hbb _ hz0
   rw [hh] at hlp; cases hlp
 ·cases hF
end Go.Proofs.Ytmffcpiffkclgaa.ZJM
