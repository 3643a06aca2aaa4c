/- A program's functions, known by their compact codes. -/
import Derived.Test.YtmffcpiffkclgaaZJ20
import Derived.ChangeArms
import Derived.Carry
import Derived.WideShapes
import Derived.OpenShut
import Derived.ProofKit
import Derived.SizedLaws
namespace Go.Proofs.Ytmffcpiffkclgaa.ZJM
def fnsOf (l : List (Nat × CFn)) : FuncId → Option CFn := fun f => get l f
def chkAt (P : Program) (p : Nat × CFn) : Bool :=
 match P.funcs[p.1]? with
 | some fn => chkFn P p.1 fn p.2
 | none => false
theorem knows_of {P : Program} {l : List (Nat × CFn)} (h : ∀ p ∈ l,chkAt P p = true) : Knows P (fnsOf l) := by
 have key : ∀ l : List (Nat × CFn),(∀ p ∈ l,chkAt P p = true) → ∀ f c,get l f = some c → ∃ fn,P.funcs[f]? = some fn ∧ chkFn P f fn c = true := by
  intro l
  induction l with
  | nil => intro _ f c h; cases h
  | cons p r ih =>
   intro h f c hc
   simp only [get] at hc
   split at hc
   ·rename_i he
    cases hc
    have := h p List.mem_cons_self
    have he' := beq_iff_eq.1 he
    subst he'
    simp only [chkAt] at this
    split at this
    ·rename_i fn hfn; exact ⟨fn,hfn,this⟩
    ·cases this
   ·exact ih (fun q hq => h q (List.mem_cons_of_mem _ hq)) f c hc
 exact fun f c hc => key l h f c hc
theorem ball_nil {α : Type} {p : α → Prop} : ∀ x ∈ ([] : List α),p x := fun x h => by cases h
theorem ball_cons {α : Type} {p : α → Prop} {x : α} {r : List α} (h : p x) (k : ∀ y ∈ r,p y) : ∀ y ∈ x :: r,p y := fun y hy => by
 rcases List.mem_cons.1 hy with rfl | hy
 ·exact h
 ·exact k y hy
end Go.Proofs.Ytmffcpiffkclgaa.ZJM
set_option linter.unusedSimpArgs false
set_option linter.unusedVariables false
namespace Go.Proofs.Ytmffcpiffkclgaa.ZJM
open Go.RowKit Go.ChangeShapes Go.WideShapes
inductive CT where
 | bool
 | int (k : IntKind)
 | str
 | lst (ag : Bool) (bytes : Nat) (cs : List CT)
 deriving Inhabited
mutual
def CT.has : CT → PV → Prop
 | .bool,v => ∃ b,v = .bool b
 | .int k,v => ∃ n,v = .int k n ∧ (Lit.int k n).wf = true
 | .str,v => ∃ s,v = .str s ∧ s.size ≤ maxLen
 | .lst ag bytes cs,v => ∃ nl xs,v = .lst none nl cs.length xs ∧ (xs.length ≤ maxLen ∧ xs.length * bytes ≤ reachBytes) ∧ (nl = true → xs = []) ∧ ∀ x ∈ xs,match ag with
  | true => ∃ ys,x = .agg ys ∧ CT.hass cs ys
  | false => CT.hass cs [x]
def CT.hass : List CT → List PV → Prop
 | [],vs => vs = []
 | c :: cs,vs => ∃ v r,vs = v :: r ∧ c.has v ∧ CT.hass cs r
end
def CT.val (ag : Bool) (cs : List CT) (x : PV) : Prop :=
 match ag with
 | true => ∃ ys,x = .agg ys ∧ CT.hass cs ys
 | false => CT.hass cs [x]
theorem CT.has_lst {ag : Bool} {bytes : Nat} {cs : List CT} {v : PV} : (CT.lst ag bytes cs).has v ↔ ∃ nl xs,v = .lst none nl cs.length xs ∧ (xs.length ≤ maxLen ∧ xs.length * bytes ≤ reachBytes) ∧ (nl = true → xs = []) ∧ ∀ x ∈ xs,CT.val ag cs x := by
 simp only [CT.has,CT.val]
def ctFs (P : Program) (E : TypeId → Option (Bool × List CT)) : Nat → List Field → Option (List CT)
 | _,[] => some []
 | o,f :: fs => if f.offset = o then (match E f.type with
  | some (_,l) => if l.length = P.cellsOf f.type then (ctFs P E (o + l.length) fs).map (l ++ ·) else none
  | none => none) else none
def ctOf (P : Program) : Nat → TypeId → Option (Bool × List CT)
 | 0,_ => none
 | d + 1,t => match P.underlying t with
  | some .bool => some (false,[.bool])
  | some (.int k) => some (false,[.int k])
  | some .string => some (false,[.str])
  | some (.slice e) => match ctOf P d e with
   | some (ag,l) => if l.length = P.cellsOf e ∧ l ≠ [] then some (false,[.lst ag (P.bytesOf e) l]) else none
   | none => none
  | some (.struct fs) => match ctFs P (ctOf P d) 0 fs.toList with
   | some l => if l.length = P.cellsOf t then some (true,l) else none
   | none => none
  | some (.array n e) => match ctOf P d e with
   | some (_,l) => if l.length = P.cellsOf e ∧ n * l.length = P.cellsOf t then some (true,rep l n) else none
   | none => none
  | _ => none
inductive Cs (g : Gh) : List CT → List PV → List Value → Prop
 | nil : Cs g [] [] []
 | cons {c : CT} {v : PV} {u : Value} {cs : List CT} {vs : List PV} {us : List Value} (h : c.has v) (hv : V g v u) (hu : vcell u = true) (hc : v.isCell = true) (hn : v.untag1 = v) (k : Cs g cs vs us) : Cs g (c :: cs) (v :: vs) (u :: us)
theorem Cs.append {g : Gh} {cs : List CT} {vs : List PV} {us : List Value} (h : Cs g cs vs us) {cs' : List CT} {vs' : List PV} {us' : List Value} (k : Cs g cs' vs' us') : Cs g (cs ++ cs') (vs ++ vs') (us ++ us') := by
 induction h with
 | nil => exact k
 | cons h1 h2 h3 h4 h5 _ ih => exact .cons h1 h2 h3 h4 h5 ih
theorem Cs.len {g : Gh} {cs : List CT} {vs : List PV} {us : List Value} (h : Cs g cs vs us) : cs.length = vs.length ∧ vs.length = us.length := by
 induction h with
 | nil => exact ⟨rfl,rfl⟩
 | cons _ _ _ _ _ _ ih => simp [ih.1,ih.2]
theorem Cs.has {g : Gh} {cs : List CT} {vs : List PV} {us : List Value} (h : Cs g cs vs us) : CT.hass cs vs := by
 induction h with
 | nil => simp [CT.hass]
 | cons h1 _ _ _ _ _ ih => simp only [CT.hass]; exact ⟨_,_,rfl,h1,ih⟩
theorem Cs.get {g : Gh} {cs : List CT} {vs : List PV} {us : List Value} (h : Cs g cs vs us) : ∀ (j : Nat) (v : PV),vs[j]? = some v → ∃ u,us[j]? = some u ∧ V g v u ∧ vcell u = true ∧ v.isCell = true ∧ v.untag1 = v := by
 induction h with
 | nil => intro j v hj; simp at hj
 | cons _ h2 h3 h4 h5 _ ih =>
  intro j v hj
  cases j with
  | zero => simp only [List.getElem?_cons_zero,Option.some.injEq] at hj; subst hj; exact ⟨_,rfl,h2,h3,h4,h5⟩
  | succ j => simpa using ih j v (by simpa using hj)
def mkv (ag : Bool) (vs : List PV) : PV :=
 match ag,vs with
 | true,vs => .agg vs
 | false,[v] => v
 | false,vs => .agg vs
theorem list_of {α : Type} {Q : Nat → α → Prop} : ∀ {n : Nat},(∀ i,i < n → ∃ x,Q i x) → ∃ l : List α,l.length = n ∧ ∀ i x,l[i]? = some x → Q i x
 | 0,_ => ⟨[],rfl,fun i x h => by simp at h⟩
 | n + 1,h => by
  obtain ⟨l,h1,h2⟩ := list_of (n := n) fun i hi => h i (by omega)
  obtain ⟨x,hx⟩ := h n (by omega)
  refine ⟨l ++ [x],by simp [h1],fun i y hy => ?_⟩
  by_cases hi : i < l.length
  ·rw [List.getElem?_append_left hi] at hy; exact h2 i y hy
  ·rw [List.getElem?_append_right (by omega)] at hy
   have : i = n := by
    have := (List.getElem?_eq_some_iff.1 hy).1
    simp at this; omega
   subst this
   simp [h1] at hy
   subst hy
   exact hx
def ghOf (ok : OkP) (w : World) : Gh := ⟨fun b o => (w.cell? ⟨b,o,none⟩).filter vcell,fun _ _ _ => none,fun _ _ => none,ok⟩
def tabOf (w : World) : Tab := w
theorem ghOf_rel (ok : OkP) (w : World) : Rel (ghOf ok w) [] w :=
 ⟨fun b o v h => by simp only [ghOf,Option.filter_eq_some_iff] at h; exact h,(fun l s p b o t hb => by cases hb),(fun l s b r hb => by cases hb),(fun l s p l' s' p' b o t o' t' cs cs' hb => by cases hb),(fun l s l' s' b r r' cs cs' hb => by cases hb),(fun l s p j v x hb => by cases hb),(fun l s p x hb => by cases hb),(fun l s x hb => by cases hb),(fun l s p b o t hb => by cases hb),(fun l s b r hb => by cases hb),(fun l s q x y hb => by cases hb)⟩
theorem ghOf_at {ok : OkP} {w : World} {b o : Nat} {v : Value} (h : w.cell? ⟨b,o,none⟩ = some v) (hv : vcell v = true) : (ghOf ok w).G b o = some v := by
 simp only [ghOf,h,Option.filter_some,hv,if_true]
section
variable {ok : OkP} {H : Type} {enc : TypeId × Value → H} {P : Program} {w : World}
theorem cells_spec {a : Addr} {n : Nat} {cs : List Value} (h : w.cells? 0 a n = some cs) : cs.length = n ∧ ∀ i,i < n → w.cell? (a.add i) = cs[i]? := by
 simp only [World.cells?,Nat.zero_le,if_true] at h
 exact ⟨by simpa using mapM_some_length h,fun i hi => mapM_some_get h i i (by simp [hi])⟩
theorem spot_none {a : Addr} {v : Value} (h : w.cell? a = some v) : a.spot = none := by
 unfold World.cell? at h
 split at h
 ·split at h
  ·cases h
  ·rename_i hs; simpa using hs
 ·cases h
theorem add_add (a : Addr) (h : a.spot = none) (i j : Nat) : (a.add i).add j = ⟨a.block,a.off + i + j,none⟩ := by
 obtain ⟨b,o,s⟩ := a
 simp only at h
 subst h
 unfold Addr.add
 by_cases h1 : i = 0 <;> by_cases h2 : j = 0 <;> simp [h1,h2]
theorem mkv_ok {g : Gh} {ag : Bool} {cs : List CT} {vs : List PV} {us : List Value} (h : Cs g cs vs us) (hag : ag = false → cs.length = 1) : CT.val ag cs (mkv ag vs) ∧ (mkv ag vs).isVal = true ∧ (mkv ag vs).cells = vs ∧ (mkv ag vs).untag = mkv ag vs := by
 have hl := h.len
 have hc : ∀ v ∈ vs,v.isCell = true ∧ v.untag1 = v := fun v hv => by
  obtain ⟨j,hj⟩ := List.getElem?_of_mem hv
  obtain ⟨u,_,_,_,h4,h5⟩ := h.get j v hj
  exact ⟨h4,h5⟩
 cases ag with
 | true =>
  refine ⟨⟨vs,rfl,h.has⟩,by simp only [mkv,PV.isVal,List.all_eq_true]; exact fun v hv => (hc v hv).1,rfl,?_⟩
  simp only [mkv,PV.untag,PV.agg.injEq]
  exact List.map_congr_left (fun v hv => (hc v hv).2) |>.trans (List.map_id _)
 | false =>
  have h1 := hag rfl
  match vs,hl,h with
  | [v],_,h =>
   obtain ⟨h4,h5⟩ := hc v (by simp)
   refine ⟨h.has,?_,?_,?_⟩
   ·cases v <;> first | exact h4 | simp [PV.isCell] at h4
   ·cases v <;> first | rfl | simp [PV.isCell] at h4
   ·cases v <;> first | exact h5 | simp [PV.isCell] at h4
  | [],hl,_ => simp at hl; omega
  | _ :: _ :: _,hl,_ => simp at hl; omega
theorem ct_flat {d : Nat} {t : TypeId} {ag : Bool} {l : List CT} (h : ctOf P d t = some (ag,l)) : ag = false → l.length = 1 := by
 intro hag
 subst hag
 cases d with
 | zero => simp [ctOf] at h
 | succ d =>
  simp only [ctOf] at h
  split at h
  ·cases h; rfl
  ·cases h; rfl
  ·cases h; rfl
  ·split at h
   ·split at h <;> cases h; rfl
   ·cases h
  ·split at h
   ·split at h <;> cases h
   ·cases h
  ·split at h
   ·split at h <;> cases h
   ·cases h
  ·cases h
theorem weightsAll_in {e : TypeId} : ∀ {l : List (DataW H)} {i : Nat} {d : DataW H},l[i]? = some d → ∀ n ∈ d.weights P e,n ∈ DataW.weightsAll P e l
 | [],_,_,h,_,_ => by simp at h
 | y :: r,0,d,h,n,hn => by
  simp only [List.getElem?_cons_zero,Option.some.injEq] at h; subst h
  simp only [DataW.weightsAll,List.mem_append]; exact .inl hn
 | y :: r,i + 1,d,h,n,hn => by
  simp only [DataW.weightsAll,List.mem_append]; exact .inr (weightsAll_in (i := i) (by simpa using h) n hn)
theorem trod_ct : ∀ {d : Nat} {t : TypeId} {ag : Bool} {cts : List CT} {fuel : Nat} {cs : List Value} {x : DataW H × List MemPlace},ctOf P d t = some (ag,cts) → DataW.trod enc P w 0 (fun _ => true) true fuel t cs = some x → (∀ n ∈ x.1.weights P t,n ≤ reachBytes) → ∃ pvs,Cs (ghOf ok w) cts pvs cs
 | 0,_,_,_,_,_,_,h,_,_ => by simp [ctOf] at h
 | d + 1,t,ag,cts,fuel,cs,x,h,hx,hwt => by
  simp only [ctOf] at h
  split at h
  ·rename_i hu
   cases h
   obtain ⟨b,rfl,_⟩ := DataW.trod_bool hu hx
   exact ⟨[.bool b],.cons (by simp [CT.has]) (.bool b) rfl rfl rfl .nil⟩
  ·rename_i k hu
   cases h
   obtain ⟨n,rfl,_,hw⟩ := DataW.trod_int hu hx
   exact ⟨[.int k n],.cons (by simp only [CT.has]; exact ⟨n,rfl,hw⟩) (.int k n) rfl rfl rfl .nil⟩
  ·rename_i hu
   cases h
   obtain ⟨s,rfl,_,hs⟩ := DataW.trod_string hu hx
   exact ⟨[.str s],.cons (by simp only [CT.has]; exact ⟨s,rfl,hs⟩) (.str s) rfl rfl rfl .nil⟩
  ·rename_i e hu
   split at h
   ·rename_i ag' l hl
    split at h
    ·rename_i hle
     cases h
     obtain ⟨hle,hne⟩ := hle
     have hpos : 0 < l.length := List.length_pos_iff.2 hne
     rcases DataW.trod_slice hu hx with ⟨rfl,_⟩ | ⟨a,len,cap,elems,rest,n,_,rfl,hxe,_,hlc,hcap,hlene,hel,hsp,_⟩
     ·exact ⟨[.lst none true l.length []],.cons (CT.has_lst.2 ⟨true,[],rfl,⟨Nat.zero_le _,by simp⟩,fun _ => rfl,fun x hx => by cases hx⟩) (.nil none _) rfl rfl rfl .nil⟩
     ·have hels : ∀ i,i < len → ∃ x,∃ us pvs,w.cells? 0 (a.add (i * P.cellsOf e)) (P.cellsOf e) = some us ∧ Cs (ghOf ok w) l pvs us ∧ x = mkv ag' pvs := by
       intro i hi
       have h1 := hel i hi
       rw [List.getElem?_eq_getElem (by omega)] at h1
       obtain ⟨us,h2,h3⟩ := Option.bind_eq_some_iff.1 h1
       obtain ⟨pvs,h4⟩ := trod_ct hl h3 fun n hn => hwt n (by
        rw [hxe]
        simp only [DataW.weights,hu,List.mem_cons,List.mem_append]
        exact .inr (.inl (weightsAll_in (i := i) (by rw [List.getElem?_map,List.getElem?_eq_getElem (by omega)]; rfl) n hn)))
       exact ⟨_,us,pvs,h2,h4,rfl⟩
      obtain ⟨xs,hxl,hxs⟩ := list_of hels
      have hmem : ∀ x ∈ xs,∃ pvs us,Cs (ghOf ok w) l pvs us ∧ x = mkv ag' pvs := fun x hx => by
       obtain ⟨i,hi⟩ := List.getElem?_of_mem hx
       obtain ⟨us,pvs,_,h2,h3⟩ := hxs i x hi
       exact ⟨pvs,us,h2,h3⟩
      have hok : ∀ x ∈ xs,CT.val ag' l x ∧ x.isVal = true ∧ x.cells.length = l.length ∧ x.untag = x := fun x hx => by
       obtain ⟨pvs,us,h2,rfl⟩ := hmem x hx
       obtain ⟨h3,h4,h5,h6⟩ := mkv_ok h2 (ct_flat hl)
       exact ⟨h3,h4,by rw [h5]; exact h2.len.1.symm,h6⟩
      have hhas : (CT.lst ag' (P.bytesOf e) l).has (.lst none false l.length xs) := CT.has_lst.2 ⟨false,xs,rfl,⟨by omega,by
       have h7 := hwt ((elems.length + rest.length) * P.bytesOf e) (by rw [hxe]; simp [DataW.weights,hu])
       refine Nat.le_trans (Nat.mul_le_mul_right _ ?_) h7
       omega⟩,(fun h => by cases h),fun x hx => (hok x hx).1⟩
      refine ⟨[.lst none false l.length xs],.cons hhas ?_ rfl rfl rfl .nil⟩
      have hspot : cap ≠ 0 → a.spot = none := by
       intro hc0
       by_cases h0 : len = 0
       ·obtain ⟨hrl,hr⟩ := hsp rfl
        have h1 := hr 0 (by omega)
        rw [List.getElem?_eq_getElem (by omega)] at h1
        obtain ⟨us,h2,h3⟩ := Option.bind_eq_some_iff.1 h1
        obtain ⟨h4,h5⟩ := cells_spec h2
        have h6 := h5 0 (by omega)
        rw [List.getElem?_eq_getElem (by omega)] at h6
        have := spot_none h6
        simpa [h0,Addr.add] using this
       ·obtain ⟨us,pvs,h2,_,_⟩ := hxs 0 _ (List.getElem?_eq_getElem (by omega))
        obtain ⟨h4,h5⟩ := cells_spec h2
        have h6 := h5 0 (by omega)
        rw [List.getElem?_eq_getElem (by omega)] at h6
        have := spot_none h6
        simpa [Addr.add] using this
      by_cases hc0 : cap = 0
      ·have hx0 : xs = [] := List.eq_nil_of_length_eq_zero (by omega)
       have hl0 : len = 0 := by omega
       subst hx0; subst hl0; subst hc0
       exact .emp _ a
      ·have hsn := hspot hc0
       obtain ⟨b,off,sp⟩ := a
       simp only at hsn
       subst hsn
       have hsz : ∀ x ∈ xs,x.isVal = true ∧ x.cells.length = l.length := fun x hx => ⟨(hok x hx).2.1,(hok x hx).2.2.1⟩
       have hcell : ∀ j c,(xs.flatMap PV.cells)[j]? = some c → ∃ u,w.cell? ⟨b,off + j,none⟩ = some u ∧ V (ghOf ok w) c u ∧ vcell u = true := by
        intro j c hj
        have hjl : j < xs.length * l.length := by rw [← flat_len hsz]; exact (List.getElem?_eq_some_iff.1 hj).1
        have hi : j / l.length < xs.length := Nat.div_lt_of_lt_mul (by rw [Nat.mul_comm]; exact hjl)
        have hm := Nat.mod_lt j hpos
        have hdm : j / l.length * l.length + j % l.length = j := by rw [Nat.mul_comm]; exact Nat.div_add_mod j l.length
        have h1 := flat_get hsz (j / l.length) _ (List.getElem?_eq_getElem hi) (j % l.length) hm
        rw [hdm] at h1
        obtain ⟨us,pvs,h2,h3,h4⟩ := hxs (j / l.length) _ (List.getElem?_eq_getElem hi)
        rw [h4,(mkv_ok h3 (ct_flat hl)).2.2.1] at h1
        rw [h1] at hj
        obtain ⟨u,h5,h6,h7,_⟩ := h3.get _ c hj
        obtain ⟨h8,h9⟩ := cells_spec h2
        have h10 := h9 (j % l.length) (by rw [← hle]; exact hm)
        rw [add_add _ rfl,h5,← hle] at h10
        refine ⟨u,?_,h6,h7⟩
        rw [← h10]
        congr 2
        simp only [Addr.mk.injEq,and_true,true_and]
        omega
       have key := V.lst (g := ghOf ok w) none l.length xs b off cap (fun j => (w.cell? ⟨b,off + j,none⟩).getD undef) hsz (fun x hx => (hok x hx).2.2.2)
        (fun j hj => by
         obtain ⟨u,h1,_,h3⟩ := hcell j _ (List.getElem?_eq_getElem hj)
         rw [ghOf_at h1 h3,h1]; rfl)
        (fun j c hj => by
         obtain ⟨u,h1,h2,_⟩ := hcell j c hj
         rw [h1]; exact h2) (by omega)
       rw [hxl] at key
       exact key
    ·cases h
   ·cases h
  ·rename_i fs hu
   split at h
   ·rename_i l hl
    split at h
    ·rename_i hlen
     cases h
     obtain ⟨xs,n,_,hxe,hcl,hxl,hf⟩ := DataW.trod_struct hu hx
     have key : ∀ (gs : List Field) (o i : Nat) (l : List CT),ctFs P (ctOf P d) o gs = some l → (∀ k f,gs[k]? = some f → fs[i + k]? = some f) → i + gs.length = fs.size → o + l.length = cs.length → ∃ pvs,Cs (ghOf ok w) l pvs (cs.drop o) := by
      intro gs
      induction gs with
      | nil =>
       intro o i l hl _ _ ho
       simp only [ctFs,Option.some.injEq] at hl; subst hl
       refine ⟨[],?_⟩
       rw [List.drop_eq_nil_of_le (by simpa using Nat.le_of_eq ho.symm)]
       exact .nil
      | cons f gs ih =>
       intro o i l hl hg hi ho
       simp only [ctFs] at hl
       split at hl
       ·rename_i hof
        split at hl
        ·rename_i ag1 l1 hl1
         split at hl
         ·rename_i hle
          obtain ⟨l2,h2,rfl⟩ := Option.map_eq_some_iff.1 hl
          have hfi : fs[i]? = some f := by have := hg 0 f rfl; simpa using this
          have h3 := hf i f hfi
          have hil : i < xs.length := by rw [hxl]; exact (Array.getElem?_eq_some_iff.1 hfi).1
          rw [List.getElem?_eq_getElem hil] at h3
          obtain ⟨p1,h4⟩ := trod_ct hl1 h3 fun n hn => hwt n (by
           rw [hxe]
           simp only [DataW.weights,hu]
           exact DataW.weights_mem_each (j := i) (t := f.type) (d := xs[i].1) (by rw [List.getElem?_map]; simp [hfi]) (by rw [List.getElem?_map,List.getElem?_eq_getElem hil]; rfl) n hn)
          obtain ⟨p2,h5⟩ := ih (o + l1.length) (i + 1) l2 h2 (fun k f' hk => by have := hg (k + 1) f' (by simpa using hk); rwa [show i + (k + 1) = i + 1 + k by omega] at this) (by simp only [List.length_cons] at hi; omega) (by simp only [List.length_append] at ho; omega)
          refine ⟨p1 ++ p2,?_⟩
          have := h4.append h5
          rw [hof,← hle,← List.drop_drop,List.take_append_drop] at this
          exact this
         ·cases hl
        ·cases hl
       ·cases hl
     have := key fs.toList 0 0 _ hl (fun k f hk => by simpa using hk) (by simp) (by omega)
     simpa using this
    ·cases h
   ·cases h
  ·rename_i n e hu
   split at h
   ·rename_i ag1 l hl
    split at h
    ·rename_i hlen
     cases h
     obtain ⟨hle,hn⟩ := hlen
     cases fuel with
     | zero => simp [DataW.trod] at hx
     | succ m =>
      unfold DataW.trod at hx
      rw [hu] at hx
      simp only [] at hx
      split at hx
      ·rename_i hcl
       obtain ⟨ys,hys,hxe⟩ := Option.map_eq_some_iff.1 hx
       have hy : ∀ i,i < n → DataW.trod enc P w 0 (fun _ => true) true m e ((cs.drop (i * P.cellsOf e)).take (P.cellsOf e)) = ys[i]? := fun i hi => mapM_some_get hys i i (by simp [hi])
       have hyl : ys.length = n := by simpa using mapM_some_length hys
       have key : ∀ k,k ≤ n → ∃ pvs,Cs (ghOf ok w) (rep l k) pvs (cs.drop ((n - k) * l.length)) := by
        intro k
        induction k with
        | zero =>
         intro _
         refine ⟨[],?_⟩
         rw [Nat.sub_zero,hn,List.drop_eq_nil_of_le (by omega)]
         exact .nil
        | succ k ih =>
         intro hk
         obtain ⟨p2,h2⟩ := ih (by omega)
         have h3 := hy (n - (k + 1)) (by omega)
         rw [List.getElem?_eq_getElem (by omega)] at h3
         obtain ⟨p1,h4⟩ := trod_ct hl h3 fun q hq => hwt q (by
          rw [← hxe]
          simp only [DataW.weights,hu]
          exact weightsAll_in (i := n - (k + 1)) (by rw [List.getElem?_map,List.getElem?_eq_getElem (by omega)]; rfl) q hq)
         refine ⟨p1 ++ p2,?_⟩
         have := h4.append h2
         rw [← hle] at this
         have he : (n - k) * l.length = (n - (k + 1)) * l.length + l.length := by rw [show n - k = n - (k + 1) + 1 by omega,Nat.add_mul,Nat.one_mul]
         rw [he,← List.drop_drop,List.take_append_drop] at this
         exact this
       have := key n (Nat.le_refl _)
       simpa using this
      ·cases hx
    ·cases h
   ·cases h
  ·cases h
end
end Go.Proofs.Ytmffcpiffkclgaa.ZJM
set_option linter.unusedSimpArgs false
set_option linter.unusedVariables false
namespace Go.Proofs.Ytmffcpiffkclgaa.ZJM
open Go.RowKit Go.ChangeShapes Go.WideShapes
section
variable {ok : OkP} {H : Type} {enc : TypeId × Value → H} {P : Program} {W : World}
theorem arg_ct {d : Nat} {t : TypeId} {ag : Bool} {cts : List CT} {base : Nat} {v : Value} {dd : DataW H} {p : List MemPlace} (hct : ctOf P d t = some (ag,cts)) (hval : Value.okWide P W .any base t v)
  (hT : DataW.Trod enc P W 0 (fun _ => true) true t v dd p) (hw : ∀ n ∈ dd.weights P t,n ≤ reachBytes) : ∃ x,CT.val ag cts x ∧ V (ghOf ok W) x v ∧ x.untag = x := by
 obtain ⟨fuel,hf⟩ := hT
 obtain ⟨pvs,hc⟩ := trod_ct (ok := ok) hct hf hw
 obtain ⟨h1,h2,h3,h4⟩ := mkv_ok hc (ct_flat hct)
 refine ⟨mkv ag pvs,h1,?_,h4⟩
 have hl := hc.len
 cases d with
 | zero => simp [ctOf] at hct
 | succ d =>
  have flat : ag = false → v.cells = #[v] → V (ghOf ok W) (mkv ag pvs) v := by
   intro hag hv
   subst hag
   have hl1 := ct_flat hct rfl
   rw [hv] at hc
   match pvs,hl with
   | [q],_ =>
    obtain ⟨u,hu,hV,_⟩ := hc.get 0 q rfl
    simp only [List.getElem?_cons_zero,Option.some.injEq] at hu
    subst hu
    exact hV
   | [],hl => exact absurd (hl.1.symm.trans hl1) (by simp)
   | _ :: _ :: _,hl => exact absurd (hl.1.symm.trans hl1) (by simp)
  have agg : ag = true → (∃ cs,v = .agg cs) → V (ghOf ok W) (mkv ag pvs) v := by
   rintro rfl ⟨cs,rfl⟩
   simp only [Value.cells] at hc hl
   refine .agg pvs cs (by simpa using hl.2) (fun c hc' => ?_) (fun j c hj => ?_)
   ·obtain ⟨j,hj⟩ := List.getElem?_of_mem hc'
    exact (hc.get j c hj).choose_spec.2.2.2.1
   ·obtain ⟨u,hu,hV,_⟩ := hc.get j c hj
    have : cs.getD j undef = u := by
     rw [Array.getD_eq_getD_getElem?]
     have : cs[j]? = some u := by simpa using hu
     rw [this]; rfl
    rw [this]; exact hV
  simp only [ctOf] at hct
  split at hct
  ·rename_i hu
   cases hct
   obtain ⟨b,rfl⟩ := okWide_bool hu hval
   exact flat rfl rfl
  ·rename_i k hu
   cases hct
   obtain ⟨n,rfl⟩ := okWide_int hu hval
   exact flat rfl rfl
  ·rename_i hu
   cases hct
   obtain ⟨n,rfl⟩ := okWide_string hu hval
   exact flat rfl rfl
  ·rename_i e hu
   split at hct
   ·split at hct
    ·cases hct
     obtain ⟨a,l,c,rfl⟩ := okWide_slice hu hval
     exact flat rfl rfl
    ·cases hct
   ·cases hct
  ·rename_i fs hu
   split at hct
   ·split at hct
    ·cases hct
     simp only [Value.okWide,hu] at hval
     obtain ⟨cs,rfl,_⟩ := hval
     exact agg rfl ⟨_,rfl⟩
    ·cases hct
   ·cases hct
  ·rename_i n e hu
   split at hct
   ·split at hct
    ·cases hct
     simp only [Value.okWide,hu] at hval
     obtain ⟨cs,rfl,_⟩ := hval
     exact agg rfl ⟨_,rfl⟩
    ·cases hct
   ·cases hct
  ·cases hct
def Args (ok : OkP) (W : World) (pvs : List PV) (vs : List Value) : Prop := pvs.length = vs.length ∧ ∀ (j : Nat) (c : PV),pvs[j]? = some c → V (ghOf ok W) c (vs.getD j undef) ∧ c.untag = c
theorem Args.nil : Args ok W [] [] := ⟨rfl,fun j c h => by simp at h⟩
theorem Args.cons {x : PV} {v : Value} {pvs : List PV} {vs : List Value} (hv : V (ghOf ok W) x v) (hu : x.untag = x) (h : Args ok W pvs vs) : Args ok W (x :: pvs) (v :: vs) := by
 refine ⟨by simp [h.1],fun j c hj => ?_⟩
 cases j with
 | zero => simp only [List.getElem?_cons_zero,Option.some.injEq] at hj; subst hj; exact ⟨hv,hu⟩
 | succ j => exact h.2 j c (by simpa using hj)
theorem law_calls (hm : P.follows .mixedOrders = true) {E : Env} (hF : Knows P E.fns) (hP : Prims P (RoOk P E.fns,tabOf W) E.prim) {f : FuncId} {k : Nat} {args : Array Value} {pvs : List PV} {r : PV} {bag : Bag} {rr : Value} (hA : Args (RoOk P E.fns) W pvs args.toList) (hr : ∀ g v,V g r v → v = rr)
  {pr : Bool} (hlaw : apply E k pr (.fn f []) pvs [] = some (r,bag,[])) : Calls P f args W fun e W' => e = .returned rr ∧ Below W.heap.size W W' := by
 rcases apply_snd hm hF hP k _ _ _ _ _ _ _ hlaw (ghOf (RoOk P E.fns) W) W (.func (.func f) #[] #[]) args ⟨rfl,Nat.le_refl _,fun b hb => ⟨⟨(fun _ _ _ _ _ hh => by cases hh),(fun _ _ _ hh => by cases hh)⟩,rfl⟩⟩ (ghOf_rel _ W) (.fn f [] #[] rfl (fun j c hj => by simp at hj)) (by simpa using hA.1)
  (fun j c hj => by have := (hA.2 j c hj).1; simpa [List.getD_eq_getElem?_getD] using this) (fun c hc => by obtain ⟨j,hj⟩ := List.getElem?_of_mem hc; exact (hA.2 j c hj).2) with ⟨f',first,caps,fn,h1,h2,h3,h4,h5⟩ | ⟨l,r,h1,_⟩
 ·injection h1 with h1 h1'' h1'
  injection h1 with h1
  subst h1; subst h1'; subst h1''
  rw [Array.append_empty,Array.empty_append] at h5
  refine (callsIn_wide.1 h5).mono ?_
  rintro e W' ⟨rv,rfl,g',hp⟩
  have hk : Kp 0 (ghOf (RoOk P E.fns) W) W g' W' := hp.kp
  exact ⟨by rw [hr _ _ hp.val],⟨hk.os,hk.tape,hk.output,hk.size,fun b hb => (hk.keep b hb ⟨(fun _ _ _ _ _ hh => by cases hh),(fun _ _ _ hh => by cases hh)⟩).1⟩⟩
 ·injection h1 with h1; cases h1
theorem is_true {g : Gh} {v : Value} (h : V g (.bool true) v) : v = .bool true := by cases h; rfl
end
end Go.Proofs.Ytmffcpiffkclgaa.ZJM
