/- Effects change the frame by their results alone. -/
import Derived.Test.YtmffcpiffkclgaaZJ16
import Derived.Test.YtmffcpiffkclgaaZJ1B
set_option linter.unusedSimpArgs false
set_option linter.unusedVariables false
namespace Go.Proofs.Ytmffcpiffkclgaa.ZJM
open Go.RowKit
def Push (dst : Option Nat) (F : St → Option St) : Prop := ∀ st st',F st = some st' → ∃ add : List (Nat × PV),(∀ p ∈ add,dst = some p.1) ∧ st'.f = add ++ st.f ∧ ∀ B,F { st with f := B } = some { st' with f := add ++ B }
theorem push_newVar (dst : Option Nat) (z : List PV) : Push dst fun st => newVar st dst z := by
 intro st st' h
 cases dst with
 | none => simp [newVar] at h
 | some d =>
  simp only [newVar] at h
  split at h
  case isFalse => cases h
  rename_i h1
  have h1' : ∀ B,(isFree { st with f := B } d && z.all PV.isCell) = true := fun B => h1
  split at h
  ·rename_i h2
   cases h
   exact ⟨[(d,.ptr st.m.length d [] 0)],(fun p hp => by rw [List.mem_singleton.1 hp]),rfl,fun B => by simp only [newVar,h1' B,if_true,h2]; rfl⟩
  ·rename_i h2
   refine ⟨[(d,.ptr st.m.length d [] 0)],(fun p hp => by rw [List.mem_singleton.1 hp]),putCs_g h,fun B => ?_⟩
   simp only [newVar,h1' B,if_true,h2,Bool.false_eq_true,if_false]
   have := putCs_f (z.map PV.untag1) { st with own := (d,z.map PV.untag1) :: st.own,f := (d,.ptr st.m.length d [] 0) :: st.f } st.m.length d [] 0 ((d,.ptr st.m.length d [] 0) :: B)
   rw [h] at this
   exact this
theorem push_newList (dst : Option Nat) (tag nl : Bool) (sz e : Nat) (xs : List PV) : Push dst fun st => newList st tag dst nl sz e xs := by
 intro st st' h
 cases dst with
 | none => simp [newList] at h
 | some d =>
  simp only [newList] at h
  cases tag with
  | true =>
   simp only at h
   split at h
   ·rename_i h1
    cases h
    exact ⟨[(d,_)],(fun p hp => by rw [List.mem_singleton.1 hp]),rfl,fun B => by simp only [newList,h1]; rfl⟩
   ·cases h
  | false =>
   simp only [Option.some.injEq] at h
   subst h
   exact ⟨[(d,_)],(fun p hp => by rw [List.mem_singleton.1 hp]),rfl,fun B => rfl⟩
theorem push_make (dst : Option Nat) (sz bytes : Nat) (z : List PV) (x y : PV) : Push dst fun st => makeEv st dst sz bytes z x y := by
 intro st st' h
 cases x <;> try (simp [makeEv] at h; done)
 cases y <;> try (simp [makeEv] at h; done)
 simp only [makeEv] at h
 split at h
 case isFalse => cases h
 rename_i h1
 cases dst with
 | none => cases h
 | some d =>
  simp only at h
  split at h
  ·rename_i h2
   cases h
   have h2' : ∀ B,isFree { st with f := B } d = true := fun B => h2
   exact ⟨[(d,_)],(fun p hp => by rw [List.mem_singleton.1 hp]),rfl,fun B => by simp only [makeEv,h1,if_true,h2' B]; rfl⟩
  ·cases h
theorem put_push (st : St) (dst : Option Nat) (v : PV) : ∃ add : List (Nat × PV),(∀ p ∈ add,dst = some p.1) ∧ (st.put dst v).f = add ++ st.f ∧ ∀ B,({ st with f := B } : St).put dst v = { st.put dst v with f := add ++ B } := by
 cases dst with
 | none => exact ⟨[],(fun p hp => by cases hp),rfl,fun B => rfl⟩
 | some d => exact ⟨[(d,v)],(fun p hp => by rw [List.mem_singleton.1 hp]),rfl,fun B => rfl⟩
theorem write_put {st st1 : St} {lv sl : Nat} {p : Path} {cs : List PV} (h : writeSt st lv sl p cs = some st1) (dst : Option Nat) (v : PV) : ∃ add : List (Nat × PV),(∀ q ∈ add,dst = some q.1) ∧ (st1.put dst v).f = add ++ st.f ∧
  ∀ B,∃ st2,writeSt { st with f := B } lv sl p cs = some st2 ∧ st2.put dst v = { st1.put dst v with f := add ++ B } := by
 obtain ⟨add,h1,h2,h3⟩ := put_push st1 dst v
 unfold writeSt at h
 refine ⟨add,h1,by rw [h2,mem_g h],fun B => ⟨{ st1 with f := B },?_,h3 B⟩⟩
 have := mem_f st (mset (st.own :: st.m) lv sl p cs) B
 rw [h] at this
 exact this
theorem push_clr (dst : Option Nat) (sz : Nat) (z : List PV) (x : PV) : Push dst fun st => clrEv st dst sz z x := by
 intro st st' h
 cases x <;> try (simp [clrEv] at h; done)
 case slr lv sl p off n sz' =>
  simp only [clrEv] at h
  split at h
  case isFalse => cases h
  rename_i h1
  split at h
  case h_2 => cases h
  rename_i cs hcs
  split at h
  case isFalse => cases h
  rename_i h2
  split at h
  case h_2 => cases h
  rename_i st1 hw
  cases h
  obtain ⟨add,a1,a2,a3⟩ := write_put hw dst (.tup [])
  refine ⟨add,a1,a2,fun B => ?_⟩
  obtain ⟨st2,b1,b2⟩ := a3 B
  simp only [clrEv,h1,if_true,hcs,h2,b1,b2]
 case lst o nl sz' xs =>
  unfold clrEv at h
  split at h
  ·rename_i heq; cases heq
  ·rename_i o' sz2 heq
   cases heq
   split at h
   ·rename_i h1
    cases h
    obtain ⟨add,a1,a2,a3⟩ := put_push st dst (.tup [])
    exact ⟨add,a1,a2,fun B => by simp only [clrEv,h1,if_true,a3 B]⟩
   ·cases h
  ·cases h
theorem push_cpyTo (dst : Option Nat) (sz : Nat) (xs : List PV) (x : PV) : Push dst fun st => cpyTo st dst sz xs x := by
 intro st st' h
 cases x <;> try (simp [cpyTo] at h; done)
 case slr lv sl p off n sz' =>
  simp only [cpyTo] at h
  split at h
  case isFalse => cases h
  rename_i h1
  split at h
  case h_2 => cases h
  rename_i cs hcs
  split at h
  case isFalse => cases h
  rename_i h2
  split at h
  case h_2 => cases h
  rename_i st1 hw
  cases h
  obtain ⟨add,a1,a2,a3⟩ := write_put hw dst (.int .i64 (min n xs.length : Nat))
  refine ⟨add,a1,a2,fun B => ?_⟩
  obtain ⟨st2,b1,b2⟩ := a3 B
  simp only [cpyTo,h1,if_true,hcs,h2,b1,b2]
 case lst o nl sz' ys =>
  unfold cpyTo at h
  split at h
  ·rename_i heq; cases heq
  ·rename_i heq
   cases heq
   cases h
   obtain ⟨add,a1,a2,a3⟩ := put_push st dst (.int .i64 0)
   exact ⟨add,a1,a2,fun B => by simp only [cpyTo,a3 B]⟩
  ·cases h
theorem push_cpy (dst : Option Nat) (sz : Nat) (x y : PV) : Push dst fun st => cpyEv st dst sz x y := by
 intro st st' h
 simp only [cpyEv] at h
 split at h
 ·rename_i o nl sz' ys hd
  split at h
  ·rename_i h1
   obtain ⟨add,a1,a2,a3⟩ := push_cpyTo dst sz ys x st st' h
   exact ⟨add,a1,a2,fun B => by simp only [cpyEv,hd,h1,if_true]; exact a3 B⟩
  ·cases h
 ·cases h
theorem push_cpys (dst : Option Nat) (x y : PV) : Push dst fun st => cpysEv st dst x y := by
 intro st st' h
 cases y <;> simp only [cpysEv] at h <;> try (cases h; done)
 exact push_cpyTo dst 1 _ x st st' h
theorem push_s2b (dst : Option Nat) (tag : Bool) (e : Nat) (x : PV) : Push dst fun st => s2bEv st tag dst e x := by
 intro st st' h
 cases x <;> simp only [s2bEv] at h <;> try (cases h; done)
 split at h
 ·rename_i h1
  obtain ⟨add,a1,a2,a3⟩ := push_newList dst tag false 1 e _ st st' h
  exact ⟨add,a1,a2,fun B => by simp only [s2bEv,h1,if_true]; exact a3 B⟩
 ·cases h
theorem frz1_f (st : St) (s j : Nat) (B : List (Nat × PV)) : frz1 { st with f := B } s j = (frz1 st s j).map fun s => { s with f := B } := by
 simp only [frz1]
 generalize get st.own s = q
 cases q with
 | none => rfl
 | some cs =>
  simp only
  split
  ·split
   ·generalize upd st.own s _ = q2
    cases q2 <;> rfl
   ·rfl
  ·rfl
  ·rfl
theorem frz1_g {st st' : St} {s j : Nat} (h : frz1 st s j = some st') : st'.f = st.f := by
 simp only [frz1] at h
 split at h
 ·split at h
  ·split at h
   ·split at h
    ·cases h; rfl
    ·cases h
   ·cases h
  ·cases h; rfl
  ·cases h
 ·cases h
theorem frzs_f (s : Nat) : ∀ (n j : Nat) (st : St) (B : List (Nat × PV)),frzs s n j { st with f := B } = (frzs s n j st).map fun s => { s with f := B }
 | 0,j,st,B => rfl
 | n + 1,j,st,B => by
  simp only [frzs,frz1_f]
  cases frz1 st s j with
  | none => rfl
  | some st1 => exact frzs_f s n (j + 1) st1 B
theorem frzs_g (s : Nat) : ∀ {n j : Nat} {st st' : St},frzs s n j st = some st' → st'.f = st.f
 | 0,j,st,st',h => by simp only [frzs,Option.some.injEq] at h; subst h; rfl
 | n + 1,j,st,st',h => by
  simp only [frzs] at h
  split at h
  ·rename_i st1 h1
   exact (frzs_g s h).trans (frz1_g h1)
  ·cases h
theorem push_fload (dst : Option Nat) (ag : Bool) (sz : Nat) (x : PV) : Push dst fun st => floadEv st dst ag sz x := by
 intro st st' h
 cases x <;> simp only [floadEv] at h <;> try (cases h; done)
 rename_i l s p off
 split at h
 case isFalse => cases h
 rename_i h1
 split at h
 case h_2 => cases h
 rename_i st1 hf
 split at h
 case h_2 => cases h
 rename_i v hv
 cases h
 obtain ⟨add,a1,a2,a3⟩ := put_push st1 dst v
 refine ⟨add,a1,by rw [a2,frzs_g s hf],fun B => ?_⟩
 have := frzs_f s sz off st B
 rw [hf] at this
 simp only [floadEv,h1,if_true,this,Option.map_some,hv,a3 B]
theorem push_first (dst : Option Nat) (tag : Bool) (sz e : Nat) (xs : List PV) : Push dst fun st => firstList st tag dst sz e xs := by
 intro st st' h
 cases dst with
 | none => simp [firstList] at h
 | some d =>
  simp only [firstList] at h
  split at h
  ·cases h
   exact ⟨[(d,_)],(fun p hp => by rw [List.mem_singleton.1 hp]),rfl,fun B => rfl⟩
  ·rename_i x r
   split at h
   ·split at h
    ·rename_i h1
     cases h
     exact ⟨[(d,_)],(fun p hp => by rw [List.mem_singleton.1 hp]),rfl,fun B => by simp only [firstList,h1]; rfl⟩
    ·rename_i q h1
     split at h
     ·rename_i h2
      cases h
      exact ⟨[(d,_)],(fun p hp => by rw [List.mem_singleton.1 hp]),rfl,fun B => by simp only [firstList,h1,h2,if_true]; rfl⟩
     ·cases h
   ·cases h
    exact ⟨[(d,_)],(fun p hp => by rw [List.mem_singleton.1 hp]),rfl,fun B => rfl⟩
theorem push_app (dst : Option Nat) (tag : Bool) (sz bytes e : Nat) (x y : PV) : Push dst fun st => appEv st tag sz bytes e dst x y := by
 intro st st' h
 cases x <;> try (simp [appEv] at h; done)
 cases y <;> try (simp [appEv] at h; done)
 rename_i o nl sz1 xs o2 nl2 sz2 ys
 simp only [appEv] at h
 split at h
 case isFalse => cases h
 rename_i h1
 split at h
 case isFalse => cases h
 rename_i h2
 split at h
 ·rename_i t
  split at h
  ·rename_i q hq
   split at h
   ·rename_i h3
    split at h
    ·rename_i d tops' hu
     cases h
     exact ⟨[(d,_)],(fun p hp => by rw [List.mem_singleton.1 hp]),rfl,fun B => by simp only [appEv,h1,if_true,h2,hq,h3,hu]; rfl⟩
    ·cases h
   ·cases h
  ·cases h
 ·split at h
  ·rename_i h3
   obtain ⟨add,a1,a2,a3⟩ := push_first dst tag sz e ys st st' h
   exact ⟨add,a1,a2,fun B => by simp only [appEv,h1,if_true,h2,h3]; exact a3 B⟩
  ·cases h
theorem takeRow_f (st : St) (lv sl : Nat) (p : Path) (n sz : Nat) (B : List (Nat × PV)) : takeRow { st with f := B } lv sl p n sz = (takeRow st lv sl p n sz).map fun q => (q.1,{ q.2 with f := B }) := by
 simp only [takeRow]
 cases p.getLast? with
 | none =>
  simp only
  split
  ·generalize get st.own sl = q
   cases q with
   | none => rfl
   | some cs =>
    simp only
    split <;> rfl
  ·rfl
 | some q =>
  simp only
  generalize mget (st.own :: st.m) lv sl p.dropLast = q1
  cases q1 with
  | none => rfl
  | some ps =>
   simp only
   split
   ·split
    ·rw [mem_f]
     generalize st.mem _ = q2
     cases q2 <;> rfl
    ·rfl
   ·rfl
theorem takeRow_g {st : St} {lv sl : Nat} {p : Path} {n sz : Nat} {q : List PV × St} (h : takeRow st lv sl p n sz = some q) : q.2.f = st.f := by
 simp only [takeRow] at h
 split at h
 ·split at h
  ·split at h
   ·split at h
    ·cases h; rfl
    ·cases h
   ·cases h
  ·cases h
 ·split at h
  ·split at h
   ·split at h
    ·split at h
     ·rename_i st1 h1
      cases h
      exact mem_g h1
     ·cases h
    ·cases h
   ·cases h
  ·cases h
theorem push_appr (dst : Option Nat) (sz bytes : Nat) (x y : PV) : Push dst fun st => apprEv st sz bytes dst x y := by
 intro st st' h
 cases y <;> try (simp [apprEv] at h; done)
 rename_i o2 nl2 sz2 ys
 simp only [apprEv] at h
 split at h
 case isFalse => cases h
 rename_i h1
 cases dst with
 | none => cases h
 | some d =>
  simp only at h
  split at h
  ·
   rename_i sz1
   split at h
   case isFalse => cases h
   rename_i h2
   split at h
   ·cases h
    exact ⟨[(d,_)],(fun p hp => by rw [List.mem_singleton.1 hp]),rfl,fun B => by simp only [apprEv,h1,if_true,h2]; rfl⟩
   ·rename_i z zs
    split at h
    ·rename_i h3
     cases h
     have h3' : ∀ B,isFree { st with f := B } d = true := fun B => h3
     exact ⟨[(d,_)],(fun p hp => by rw [List.mem_singleton.1 hp]),rfl,fun B => by simp only [apprEv,h1,if_true,h2,h3' B]; rfl⟩
    ·cases h
  ·
   rename_i lv sl p off n sz1
   split at h
   case isFalse => cases h
   rename_i h2
   split at h
   ·cases h
    exact ⟨[(d,_)],(fun p hp => by rw [List.mem_singleton.1 hp]),rfl,fun B => by simp only [apprEv,h1,if_true,h2]; rfl⟩
   ·rename_i z zs
    split at h
    case h_2 => cases h
    rename_i cs st1 htk
    split at h
    case isFalse => cases h
    rename_i h3
    split at h
    ·rename_i h4
     cases h
     have h4' : ∀ B,isFree { st1 with f := B } d = true := fun B => h4
     refine ⟨[(d,_)],(fun p hp => by rw [List.mem_singleton.1 hp]),by have := takeRow_g htk; simp only at this; rw [this]; rfl,fun B => ?_⟩
     have := takeRow_f st lv sl p n sz B
     rw [htk] at this
     simp only [apprEv,h1,if_true,h2,this,Option.map_some,h3,h4' B]; rfl
    ·cases h
  ·cases h
theorem push_unpack (dst : Option Nat) (v : PV) (b : Bag) : Push dst fun st => unpack st dst v b := by
 intro st st' h
 unfold unpack at h
 split at h
 ·rename_i h1 h2
  cases h
  obtain ⟨add,a1,a2,a3⟩ := put_push st dst v
  exact ⟨add,a1,a2,fun B => by simp only [unpack,h1,h2,a3 B]⟩
 ·rename_i hno
  cases dst with
  | none => cases h
  | some d =>
   simp only at h
   split at h
   ·rename_i h3
    cases h
    refine ⟨[(d,_)],(fun p hp => by rw [List.mem_singleton.1 hp]),rfl,fun B => ?_⟩
    have h3' : (b.obs.all (fun p => isFree { st with f := B } (bagName d p.1)) && b.tops.all (fun p => (get st.tops (bagName d p.1)).isNone)) = true := h3
    unfold unpack
    split
    ·rename_i e1 e2; exact (hno e1 e2).elim
    ·simp only [h3',if_true]; rfl
   ·cases h
theorem push_call {K : Callee} (pr : Bool) (dst : Option Nat) (fv : PV) (vs : List PV) : Push dst fun st => callEv K pr st dst fv vs := by
 intro st st' h
 simp only [callEv] at h
 split at h
 ·rename_i v b own' m' hk
  obtain ⟨add,a1,a2,a3⟩ := push_unpack dst v b _ _ h
  exact ⟨add,a1,a2,fun B => by simp only [callEv,hk]; exact a3 B⟩
 ·cases h
theorem push_putO (dst : Option Nat) (o : Option PV) : Push dst fun st => putO st dst o := by
 intro st st' h
 cases o with
 | none => simp [putO] at h
 | some v =>
  simp only [putO,Option.some.injEq] at h
  subst h
  obtain ⟨add,a1,a2,a3⟩ := put_push st dst v
  exact ⟨add,a1,a2,fun B => by simp only [putO,a3 B]⟩
theorem push_op {K : Callee} (dst : Option Nat) (op : OpC) (vs : List PV) : Push dst fun st => opEv K dst op vs st := by
 have dflt : ∀ op : OpC,(∀ s : St,opEv K dst op vs s = match op.ev s.own s.m vs with | some v => some (s.put dst v) | none => none) → Push dst fun st => opEv K dst op vs st := by
  intro op e st st' h
  simp only [e] at h
  split at h
  ·rename_i v hv
   cases h
   obtain ⟨add,a1,a2,a3⟩ := put_push st dst v
   exact ⟨add,a1,a2,fun B => by simp only [e,hv,a3 B]⟩
  ·cases h
 cases op
 case store sz =>
  intro st st' h
  simp only [opEv,on2] at h
  split at h
  ·rename_i x y
   obtain ⟨h1,h2⟩ := storeEv_f h
   exact ⟨[],(fun p hp => by cases hp),h1,fun B => by simp only [opEv,on2]; exact h2 B⟩
  ·cases h
 case alloc z => exact push_newVar dst z
 case box =>
  intro st st' h
  simp only [opEv,on1] at h
  split at h
  ·rename_i x
   obtain ⟨add,a1,a2,a3⟩ := push_newVar dst x.cells st st' h
   exact ⟨add,a1,a2,fun B => by simp only [opEv,on1]; exact a3 B⟩
  ·cases h
 case boxc =>
  intro st st' h
  simp only [opEv,on1] at h
  split at h
  ·rename_i x
   split at h
   ·rename_i hx
    cases h
    obtain ⟨add,a1,a2,a3⟩ := put_push st dst (.elp x.untag 0)
    exact ⟨add,a1,a2,fun B => by simp only [opEv,on1,if_pos hx,a3 B]⟩
   ·cases h
  ·cases h
 case nil tag sz e => exact push_newList dst tag true sz e []
 case mks sz bytes z =>
  intro st st' h
  simp only [opEv,on2] at h
  split at h
  ·rename_i x y
   obtain ⟨add,a1,a2,a3⟩ := push_make dst sz bytes z x y st st' h
   exact ⟨add,a1,a2,fun B => by simp only [opEv,on2]; exact a3 B⟩
  ·cases h
 case clr sz z =>
  intro st st' h
  simp only [opEv,on1] at h
  split at h
  ·rename_i x
   obtain ⟨add,a1,a2,a3⟩ := push_clr dst sz z x st st' h
   exact ⟨add,a1,a2,fun B => by simp only [opEv,on1]; exact a3 B⟩
  ·cases h
 case cpy sz =>
  intro st st' h
  simp only [opEv,on2] at h
  split at h
  ·rename_i x y
   obtain ⟨add,a1,a2,a3⟩ := push_cpy dst sz x y st st' h
   exact ⟨add,a1,a2,fun B => by simp only [opEv,on2]; exact a3 B⟩
  ·cases h
 case cpys =>
  intro st st' h
  simp only [opEv,on2] at h
  split at h
  ·rename_i x y
   obtain ⟨add,a1,a2,a3⟩ := push_cpys dst x y st st' h
   exact ⟨add,a1,a2,fun B => by simp only [opEv,on2]; exact a3 B⟩
  ·cases h
 case s2b tag e =>
  intro st st' h
  simp only [opEv,on1] at h
  split at h
  ·rename_i x
   obtain ⟨add,a1,a2,a3⟩ := push_s2b dst tag e x st st' h
   exact ⟨add,a1,a2,fun B => by simp only [opEv,on1]; exact a3 B⟩
  ·cases h
 case fload ag sz =>
  intro st st' h
  simp only [opEv,on1] at h
  split at h
  ·rename_i x
   obtain ⟨add,a1,a2,a3⟩ := push_fload dst ag sz x st st' h
   exact ⟨add,a1,a2,fun B => by simp only [opEv,on1]; exact a3 B⟩
  ·cases h
 case bsl tag sz e =>
  intro st st' h
  simp only [opEv] at h
  split at h
  ·rename_i hm
   split at h
   ·cases dst with
    | none => simp [rowLit] at h
    | some d =>
     simp only [rowLit] at h
     split at h
     ·rename_i hf
      cases h
      have hf' : ∀ B,isFree { st with f := B } d = true := fun B => hf
      exact ⟨[(d,_)],(fun p hp => by rw [List.mem_singleton.1 hp]),rfl,fun B => by simp only [opEv,hm,if_true,rowLit,hf' B]; rfl⟩
     ·cases h
   ·cases h
  ·rename_i hm
   split at h
   ·rename_i h1
    obtain ⟨add,a1,a2,a3⟩ := push_newList dst tag false sz e _ st st' h
    exact ⟨add,a1,a2,fun B => by simp only [opEv,hm,if_false,h1,if_true]; exact a3 B⟩
   ·cases h
 case app tag sz bytes e =>
  intro st st' h
  simp only [opEv,on2] at h
  split at h
  ·rename_i x y
   split at h
   ·rename_i y' hy
    obtain ⟨add,a1,a2,a3⟩ := push_app dst tag sz bytes e x y' st st' h
    exact ⟨add,a1,a2,fun B => by simp only [opEv,on2,hy]; exact a3 B⟩
   ·cases h
  ·cases h
 case appr sz bytes e =>
  intro st st' h
  simp only [opEv,on2] at h
  split at h
  ·rename_i x y
   split at h
   ·rename_i y' hy
    obtain ⟨add,a1,a2,a3⟩ := push_appr dst sz bytes x y' st st' h
    exact ⟨add,a1,a2,fun B => by simp only [opEv,on2,hy]; exact a3 B⟩
   ·cases h
  ·cases h
 case call f pr => exact push_call pr dst (.fn f []) vs
 case callv =>
  intro st st' h
  cases vs with
  | nil => simp [opEv] at h
  | cons fv r => exact push_call false dst fv r st st' h
 case callh f => exact push_putO dst _
 case callvh => exact push_putO dst _
 all_goals exact dflt _ fun s => rfl
theorem cop_push {K : Callee} {c : COp} {st st' : St} (h : c.ev K st = some st') : ∃ add : List (Nat × PV),(∀ p ∈ add,c.dst = some p.1) ∧ st'.f = add ++ st.f ∧
  ∀ B,(∀ s ∈ slotsOf c,get B s = get st.f s) → c.ev K { st with f := B } = some { st' with f := add ++ B } := by
 have hevs : ∀ {vs B},evs st.f c.args = some vs → (∀ s ∈ slotsOf c,get B s = get st.f s) → evs B c.args = some vs := by
  intro vs B hvs hB
  rw [← hvs]
  exact evs_congr fun s hs => hB s (by simp only [slotsOf,List.mem_append]; exact .inr hs)
 simp only [COp.ev] at h
 split at h
 ·rename_i hg
  split at h
  ·rename_i vs hvs
   obtain ⟨add,a1,a2,a3⟩ := push_op c.dst c.op vs st st' h
   exact ⟨add,a1,a2,fun B hB => by simp only [COp.ev,hg,hevs hvs hB]; exact a3 B⟩
  ·cases h
 ·rename_i g want hg
  have hgs : ∀ {B},(∀ s ∈ slotsOf c,get B s = get st.f s) → get B g = get st.f g := fun hB => hB g (by simp [slotsOf,hg])
  split at h
  ·rename_i b hgb
   split at h
   ·rename_i hb
    split at h
    ·rename_i vs hvs
     obtain ⟨add,a1,a2,a3⟩ := push_op c.dst c.op vs st st' h
     exact ⟨add,a1,a2,fun B hB => by simp only [COp.ev,hg,hgs hB,hgb,hb,if_true,hevs hvs hB]; exact a3 B⟩
    ·cases h
   ·rename_i hb
    cases h
    obtain ⟨add,a1,a2,a3⟩ := put_push st c.dst .und
    exact ⟨add,a1,a2,fun B hB => by simp only [COp.ev,hg,hgs hB,hgb,hb,if_false,Bool.false_eq_true,a3 B]⟩
  ·rename_i hgb
   cases h
   obtain ⟨add,a1,a2,a3⟩ := put_push st c.dst .und
   exact ⟨add,a1,a2,fun B hB => by simp only [COp.ev,hg,hgs hB,hgb,a3 B]⟩
  ·cases h
end Go.Proofs.Ytmffcpiffkclgaa.ZJM
set_option linter.unusedSimpArgs false
set_option linter.unusedVariables false
namespace Go.Proofs.Ytmffcpiffkclgaa.ZJM
open Go.RowKit
def chainOk (rows : List Nat) (cs : List COp) : Bool := (List.range cs.length).all fun i => (List.range i).all fun j => match cs[i]?,cs[j]? with
 | some ci,some cj => readOp ci.op || readOp cj.op || (rows.getD i 0).testBit j
 | _,_ => false
def drawxOk (ops : Array Oper) (cs : List COp) (rows : List Nat) : Bool :=
 (cs.all fun c => !readOp c.op || bslOk c) && rowsOk rows 0 ops.toList && pairsOk rows cs cs.length && chainOk rows cs
section
variable {K : Callee} {rows : List Nat}
theorem evH_at {c : COp} {s s' : St} (hf : ∀ x ∈ slotsOf c,get s.f x = get s'.f x) (ho : s.own = s'.own) (hm : s.m = s'.m) : c.evH K s = c.evH K s' := by
 have h1 : evs s.f c.args = evs s'.f c.args := evs_congr fun x hx => hf x (by simp only [slotsOf,List.mem_append]; exact .inr hx)
 have h2 : ∀ vs,opH K c.op vs s = opH K c.op vs s' := by intro vs; cases c.op <;> simp only [opH,ho,hm]
 simp only [COp.evH,h1,h2]
 split
 ·rfl
 ·rename_i g b hg
  have : get s.f g = get s'.f g := hf g (by simp [slotsOf,hg])
  simp only [this]
theorem beq_some {o : Option PV} {v : PV} (h : (match o with | some v' => v'.beq v | none => false) = true) : o = some v := by
 split at h
 ·rename_i v' ; rw [PV.beq_eq h]
 ·cases h
theorem xPast_get {row : Nat} {c : COp} {st : St} {v : PV} : ∀ {l : List XR},xPast K row c st v l = true → ∀ e own m,XR.eff e own m ∈ l → row.testBit e = true ∨ c.evH K { st with own := own,m := m } = some v
 | [],_,e,own,m,hm => by cases hm
 | .eff e' own' m' :: r,h,e,own,m,hm => by
  simp only [xPast,Bool.and_eq_true,Bool.or_eq_true] at h
  rcases List.mem_cons.1 hm with hm | hm
  ·cases hm; exact h.1.imp id beq_some
  ·exact xPast_get h.2 e own m hm
 | .rd _ _ _ _ :: r,h,e,own,m,hm => by
  simp only [xPast] at h
  rcases List.mem_cons.1 hm with hm | hm
  ·cases hm
  ·exact xPast_get h e own m hm
theorem xLate_get {row : Nat} {st : St} : ∀ {l : List XR},xLate K row st l = true → ∀ j cj F v,XR.rd j cj F v ∈ l → row.testBit j = true ∨ calmOp cj.op = true ∨ cj.evH K { st with f := F } = some v
 | [],_,j,cj,F,v,hm => by cases hm
 | .rd j' cj' F' v' :: r,h,j,cj,F,v,hm => by
  simp only [xLate,Bool.and_eq_true,Bool.or_eq_true] at h
  rcases List.mem_cons.1 hm with hm | hm
  ·cases hm
   rcases h.1 with (h1 | h1) | h1
   ·exact .inl h1
   ·exact .inr (.inl h1)
   ·exact .inr (.inr (beq_some h1))
  ·exact xLate_get h.2 j cj F v hm
 | .eff _ _ _ :: r,h,j,cj,F,v,hm => by
  simp only [xLate] at h
  rcases List.mem_cons.1 hm with hm | hm
  ·cases hm
  ·exact xLate_get h j cj F v hm
structure XSpec (K : Callee) (rows : List Nat) (i : Nat) (done : List XR) (r : List COp) (S : Nat → St) : Prop where
 rd : ∀ t c,r[t]? = some c → readOp c.op = true → ∃ v,c.evH K (S (i + t)) = some v ∧ S (i + t + 1) = (S (i + t)).put c.dst v
 eff : ∀ t c,r[t]? = some c → readOp c.op = false → c.ev K (S (i + t)) = some (S (i + t + 1))
 past : ∀ t c v,r[t]? = some c → readOp c.op = true → c.evH K (S (i + t)) = some v → ∀ e own m,(XR.eff e own m ∈ done ∨ (∃ u ce,e = i + u ∧ u < t ∧ r[u]? = some ce ∧ readOp ce.op = false ∧ own = (S e).own ∧ m = (S e).m)) →
  (rows.getD (i + t) 0).testBit e = true ∨ calmOp c.op = true ∨ c.evH K { S (i + t) with own := own,m := m } = some v
 late : ∀ t c,r[t]? = some c → readOp c.op = false → ∀ j cj F v,(XR.rd j cj F v ∈ done ∨ (∃ u,j = i + u ∧ u < t ∧ r[u]? = some cj ∧ readOp cj.op = true ∧ F = (S j).f ∧ cj.evH K (S j) = some v)) →
  (rows.getD (i + t) 0).testBit j = true ∨ calmOp cj.op = true ∨ cj.evH K { S (i + t + 1) with f := F } = some v
theorem xEv_spec : ∀ {r : List COp} {i : Nat} {done : List XR} {s st' : St},xEv K rows i done r s = some st' → ∃ S : Nat → St,S i = s ∧ S (i + r.length) = st' ∧ XSpec K rows i done r S
 | [],i,done,s,st',h => by
  simp only [xEv,Option.some.injEq] at h
  subst h
  exact ⟨fun _ => s,rfl,rfl,⟨fun t c h => by simp at h,fun t c h => by simp at h,fun t c v h => by simp at h,fun t c h => by simp at h⟩⟩
 | c :: r,i,done,s,st',h => by
  simp only [xEv] at h
  have glue : ∀ (x : XR) (s1 : St) (S' : Nat → St),S' (i + 1) = s1 → S' (i + 1 + r.length) = st' → XSpec K rows (i + 1) (x :: done) r S' →
    (readOp c.op = true → (∃ v,c.evH K s = some v ∧ s1 = s.put c.dst v ∧ x = .rd i c s.f v) ∧ ∀ v,c.evH K s = some v → ∀ e own m,XR.eff e own m ∈ done → (rows.getD i 0).testBit e = true ∨ calmOp c.op = true ∨ c.evH K { s with own := own,m := m } = some v) →
    (readOp c.op = false → c.ev K s = some s1 ∧ x = .eff i s.own s.m ∧ ∀ j cj F v,XR.rd j cj F v ∈ done → (rows.getD i 0).testBit j = true ∨ calmOp cj.op = true ∨ cj.evH K { s1 with f := F } = some v) →
    ∃ S : Nat → St,S i = s ∧ S (i + (c :: r).length) = st' ∧ XSpec K rows i done (c :: r) S := by
   intro x s1 S' e1 e2 hS hrd heff
   let S : Nat → St := fun n => if n = i then s else S' n
   have S0 : S i = s := if_pos rfl
   have S1 : ∀ n,n ≠ i → S n = S' n := fun n hn => if_neg hn
   have St : ∀ t,S (i + (t + 1)) = S' (i + 1 + t) := fun t => by rw [S1 _ (by omega)]; congr 1; omega
   refine ⟨S,S0,by rw [List.length_cons,St]; exact e2,⟨fun t c' ht hr => ?_,fun t c' ht hr => ?_,fun t c' v ht hr hv e own m he => ?_,fun t c' ht hr j cj F v hj => ?_⟩⟩
   ·cases t with
    | zero =>
     simp only [List.getElem?_cons_zero,Option.some.injEq] at ht
     subst ht
     obtain ⟨⟨v,h1,h2,_⟩,_⟩ := hrd hr
     refine ⟨v,by rw [Nat.add_zero,S0]; exact h1,?_⟩
     simp only [Nat.add_zero]
     rw [S0,S1 _ (by omega),e1,h2]
    | succ t =>
     obtain ⟨v,h1,h2⟩ := hS.rd t c' (by simpa using ht) hr
     exact ⟨v,by rw [St]; exact h1,by rw [show i + (t + 1) + 1 = i + (t + 1 + 1) by omega,St,St]; exact h2⟩
   ·cases t with
    | zero =>
     simp only [List.getElem?_cons_zero,Option.some.injEq] at ht
     subst ht
     simp only [Nat.add_zero]
     rw [S0,S1 _ (by omega),e1]
     exact (heff hr).1
    | succ t =>
     have h1 := hS.eff t c' (by simpa using ht) hr
     rw [show i + (t + 1) + 1 = i + (t + 1 + 1) by omega,St,St]; exact h1
   ·cases t with
    | zero =>
     simp only [List.getElem?_cons_zero,Option.some.injEq] at ht
     subst ht
     simp only [Nat.add_zero] at hv ⊢
     rw [S0] at hv ⊢
     rcases he with he | ⟨u,ce,_,hu,_⟩
     ·exact (hrd hr).2 v hv e own m he
     ·omega
    | succ t =>
     rw [St] at hv ⊢
     have := hS.past t c' v (by simpa using ht) hr hv e own m (by
      rcases he with he | ⟨u,ce,rfl,hu,hcu,hre,rfl,rfl⟩
      ·exact .inl (List.mem_cons_of_mem _ he)
      ·cases u with
       | zero =>
        simp only [List.getElem?_cons_zero,Option.some.injEq] at hcu
        subst hcu
        obtain ⟨_,hx,_⟩ := heff hre
        simp only [Nat.add_zero]
        rw [S0]
        exact .inl (by rw [hx]; exact List.mem_cons_self)
       | succ u =>
        refine .inr ⟨u,ce,by omega,by omega,by simpa using hcu,hre,?_,?_⟩ <;> rw [S1 _ (by omega)])
     rwa [show i + (t + 1) = i + 1 + t by omega]
   ·cases t with
    | zero =>
     simp only [List.getElem?_cons_zero,Option.some.injEq] at ht
     subst ht
     simp only [Nat.add_zero]
     rw [S1 _ (by omega),e1]
     rcases hj with hj | ⟨u,_,hu,_⟩
     ·exact (heff hr).2.2 j cj F v hj
     ·omega
    | succ t =>
     have := hS.late t c' (by simpa using ht) hr j cj F v (by
      rcases hj with hj | ⟨u,rfl,hu,hcu,hre,rfl,hv⟩
      ·exact .inl (List.mem_cons_of_mem _ hj)
      ·cases u with
       | zero =>
        simp only [List.getElem?_cons_zero,Option.some.injEq] at hcu
        subst hcu
        obtain ⟨⟨v',h1,_,hx⟩,_⟩ := hrd hre
        simp only [Nat.add_zero] at hv ⊢
        rw [S0] at hv ⊢
        rw [hv] at h1
        cases h1
        exact .inl (by rw [hx]; exact List.mem_cons_self)
       | succ u =>
        refine .inr ⟨u,by omega,by omega,by simpa using hcu,hre,?_,?_⟩
        ·rw [S1 _ (by omega)]
        ·rw [S1 _ (by omega)] at hv; exact hv)
     rw [show i + (t + 1) + 1 = i + (t + 1 + 1) by omega,St]
     rwa [show i + (t + 1) = i + 1 + t by omega]
  split at h
  ·rename_i hro
   split at h
   ·rename_i v hv
    split at h
    ·rename_i hp
     obtain ⟨S',e1,e2,hS⟩ := xEv_spec h
     refine glue _ _ S' e1 e2 hS (fun _ => ⟨⟨v,hv,rfl,rfl⟩,fun v' hv' e own m he => ?_⟩) (fun hro' => by rw [hro] at hro'; cases hro')
     rw [hv] at hv'; cases hv'
     simp only [Bool.or_eq_true] at hp
     rcases hp with hp | hp
     ·exact .inr (.inl hp)
     ·exact (xPast_get hp e own m he).imp id .inr
    ·cases h
   ·cases h
  ·rename_i hro
   split at h
   ·rename_i s1 hs1
    split at h
    ·rename_i hp
     obtain ⟨S',e1,e2,hS⟩ := xEv_spec h
     exact glue _ _ S' e1 e2 hS (fun hro' => by rw [hro] at hro'; cases hro') (fun _ => ⟨hs1,rfl,fun j cj F v hj => xLate_get hp j cj F v hj⟩)
    ·cases h
   ·cases h
end
def pushL (d : Option Nat) (v : PV) : List (Nat × PV) :=
 match d with
 | some d => [(d,v)]
 | none => []
theorem put_pushL (s : St) (d : Option Nat) (v : PV) : s.put d v = { s with f := pushL d v ++ s.f } := by cases d <;> rfl
def GL (A : Nat → List (Nat × PV)) (f0 : List (Nat × PV)) (p : Nat → Bool) : Nat → List (Nat × PV)
 | 0 => f0
 | n + 1 => (if p n = true then A n else []) ++ GL A f0 p n
theorem GL_congr {A : Nat → List (Nat × PV)} {f0 : List (Nat × PV)} {p q : Nat → Bool} {t : Nat} : ∀ {n : Nat},(∀ m,m < n → get (A m) t ≠ none → p m = q m) → get (GL A f0 p n) t = get (GL A f0 q n) t
 | 0,_ => rfl
 | n + 1,h => by
  simp only [GL]
  rw [get_app,get_app,GL_congr fun m hm => h m (by omega)]
  by_cases hn : get (A n) t = none
  ·have e : ∀ b : Bool,get (if b = true then A n else []) t = none := by
    intro b; cases b
    ·rfl
    ·exact hn
   rw [e,e]
  ·rw [h n (by omega) hn]
theorem GL_lt {A : Nat → List (Nat × PV)} {f0 : List (Nat × PV)} {j : Nat} : ∀ {n : Nat},j ≤ n → GL A f0 (fun m => decide (m < j)) n = GL A f0 (fun _ => true) j
 | 0,h => by
  have : j = 0 := by omega
  subst this; rfl
 | n + 1,h => by
  by_cases hj : j = n + 1
  ·subst hj
   have key : ∀ m,m ≤ n + 1 → GL A f0 (fun m => decide (m < n + 1)) m = GL A f0 (fun _ => true) m := by
    intro m
    induction m with
    | zero => intro _; rfl
    | succ m ih =>
     intro hm
     simp only [GL]
     rw [ih (by omega),if_pos (by simp; omega)]
     simp
   exact key (n + 1) (Nat.le_refl _)
  ·simp only [GL]
   rw [if_neg (by simp; omega),List.nil_append]
   exact GL_lt (by omega)
theorem GL_last {A : Nat → List (Nat × PV)} {f0 : List (Nat × PV)} {p : Nat → Bool} {t j : Nat} : ∀ {n : Nat},j < n → p j = true → get (A j) t ≠ none → (∀ m,j < m → m < n → get (A m) t ≠ none → p m = false) → get (GL A f0 p n) t = get (A j) t
 | 0,h,_,_,_ => by omega
 | n + 1,h,hp,ht,hl => by
  simp only [GL]
  rw [get_app]
  by_cases hj : j = n
  ·subst hj
   rw [if_pos hp]
   cases hg : get (A j) t with
   | none => exact (ht hg).elim
   | some v => rfl
  ·have e : get (if p n = true then A n else []) t = none := by
    by_cases hn : get (A n) t = none
    ·cases p n
     ·rfl
     ·exact hn
    ·rw [hl n (by omega) (by omega) hn]; rfl
   rw [e]
   exact GL_last (by omega) hp ht fun m h1 h2 => hl m h1 (by omega)
theorem get_keys {D : List (Nat × PV)} {t : Nat} (h : get D t ≠ none) : ∃ p ∈ D,p.1 = t := by
 refine Classical.byContradiction fun hno => h (get_notin fun p hp he => hno ⟨p,hp,he⟩)
section
variable {P : Program} {okP : OkP × Tab} {d nt : Nat} {m0 : Mem} {g0 : Gh} {w0 : World}
theorem drawx_ok {ro : Option Nat} (hm : P.follows .mixedOrders = true) {K : Callee} (hK : Snd P okP K) (hok : OkG okP g0 w0) {ops : Array Oper} {cs : List COp} {rows : List Nat} {Q : Exit → Act → World → Prop} {st st' : St} {a : Act} {w : World} {id : Nat}
  (hk : chkOps P nt ops ops.toList cs = true) (hdr : drawxOk ops cs rows = true) (h : InvE d nt m0 g0 w0 st a w) (h1 : xEv K rows 0 [] cs st = some st')
  (hq : ∀ a' w',InvE d nt m0 g0 w0 st' a' w' → Q .normal a' w') : (Code.region id ops true).wpIn (Fw ro) 0 P Q a w := by
 refine wpIn_region_any hm ?_
 obtain ⟨S,hS0,hSn,hS⟩ := xEv_spec h1
 rw [Nat.zero_add] at hSn
 simp only [drawxOk,Bool.and_eq_true] at hdr
 obtain ⟨⟨⟨hbs,hrows⟩,hpairs⟩,hchain⟩ := hdr
 have hlen := chkOps_len hk
 have hn : ops.size = cs.length := by simpa using hlen
 have hrd : ∀ j c,cs[j]? = some c → readOp c.op = true → ∃ v,c.evH K (S j) = some v ∧ S (j + 1) = (S j).put c.dst v := fun j c hc hr => by simpa only [Nat.zero_add] using hS.rd j c hc hr
 have heff : ∀ j c,cs[j]? = some c → readOp c.op = false → c.ev K (S j) = some (S (j + 1)) := fun j c hc hr => by simpa only [Nat.zero_add] using hS.eff j c hc hr
 have hpast : ∀ e j ce cj v,cs[e]? = some ce → readOp ce.op = false → e < j → cs[j]? = some cj → readOp cj.op = true → cj.evH K (S j) = some v → (rows.getD j 0).testBit e = true ∨ calmOp cj.op = true ∨ cj.evH K { S j with own := (S e).own,m := (S e).m } = some v := by
  intro e j ce cj v he hre hej hj hrj hv
  have := hS.past j cj v hj hrj (by rw [Nat.zero_add]; exact hv) e _ _ (.inr ⟨e,ce,(Nat.zero_add e).symm,hej,he,hre,rfl,rfl⟩)
  simpa only [Nat.zero_add] using this
 have hlate : ∀ j e cj ce v,cs[e]? = some ce → readOp ce.op = false → j < e → cs[j]? = some cj → readOp cj.op = true → cj.evH K (S j) = some v → (rows.getD e 0).testBit j = true ∨ calmOp cj.op = true ∨ cj.evH K { S (e + 1) with f := (S j).f } = some v := by
  intro j e cj ce v he hre hje hj hrj hv
  have := hS.late e ce he hre j cj _ v (.inr ⟨j,(Nat.zero_add j).symm,hje,hj,hrj,rfl,hv⟩)
  simpa only [Nat.zero_add] using this
 obtain ⟨A,hA⟩ : ∃ A : Nat → List (Nat × PV),∀ j c,cs[j]? = some c → (∀ p ∈ A j,c.dst = some p.1) ∧ (S (j + 1)).f = A j ++ (S j).f ∧
   (readOp c.op = true → ∀ v,c.evH K (S j) = some v → A j = pushL c.dst v) ∧
   (readOp c.op = false → ∀ B,(∀ s ∈ slotsOf c,get B s = get (S j).f s) → c.ev K { S j with f := B } = some { S (j + 1) with f := A j ++ B }) := by
  have : ∀ j,∃ add : List (Nat × PV),∀ c,cs[j]? = some c → (∀ p ∈ add,c.dst = some p.1) ∧ (S (j + 1)).f = add ++ (S j).f ∧
    (readOp c.op = true → ∀ v,c.evH K (S j) = some v → add = pushL c.dst v) ∧
    (readOp c.op = false → ∀ B,(∀ s ∈ slotsOf c,get B s = get (S j).f s) → c.ev K { S j with f := B } = some { S (j + 1) with f := add ++ B }) := by
   intro j
   cases hc : cs[j]? with
   | none => exact ⟨[],fun c h => by cases h⟩
   | some c =>
    cases hr : readOp c.op with
    | true =>
     obtain ⟨v,hv,hs⟩ := hrd j c hc hr
     refine ⟨pushL c.dst v,fun c' h => ?_⟩
     cases h
     refine ⟨fun p hp => ?_,(by rw [hs,put_pushL]),(fun _ v' hv' => by rw [hv] at hv'; cases hv'; rfl),(fun hf => by rw [hr] at hf; cases hf)⟩
     unfold pushL at hp
     split at hp
     ·rename_i dd hd
      rw [List.mem_singleton.1 hp]; exact hd
     ·cases hp
    | false =>
     obtain ⟨add,b1,b2,b3⟩ := cop_push (heff j c hc hr)
     refine ⟨add,fun c' h => ?_⟩
     cases h
     exact ⟨b1,b2,(fun hf => by rw [hr] at hf; cases hf),fun _ => b3⟩
  exact ⟨fun j => Classical.choose (this j),fun j => Classical.choose_spec (this j)⟩
 have hSf : ∀ j,j ≤ cs.length → (S j).f = GL A st.f (fun _ => true) j := by
  intro j
  induction j with
  | zero => intro _; rw [hS0]; rfl
  | succ j ih =>
   intro hj
   have hc : cs[j]? = some cs[j] := by simp
   rw [(hA j _ hc).2.1,ih (by omega)]
   simp only [GL,if_true]
 have hAd : ∀ {m t c},cs[m]? = some c → get (A m) t ≠ none → c.dst = some t := by
  intro m t c hc hg
  obtain ⟨p,hp,rfl⟩ := get_keys hg
  exact (hA m c hc).1 p hp
 have hmem : ∀ Y X,X ≤ Y → Y ≤ cs.length → (∀ e c,X ≤ e → e < Y → cs[e]? = some c → readOp c.op = true) → ∀ F,({ S Y with f := F } : St) = { S X with f := F } := by
  intro Y
  induction Y with
  | zero =>
   intro X hX _ _ F
   have : X = 0 := by omega
   subst this; rfl
  | succ Y ih =>
   intro X hX hY hr F
   by_cases hXY : X = Y + 1
   ·subst hXY; rfl
   ·have hc : cs[Y]? = some cs[Y] := by simp
    obtain ⟨v,_,hs⟩ := hrd Y _ hc (hr Y _ (by omega) (by omega) hc)
    rw [hs,put_pushL]
    exact ih X (by omega) (by omega) (fun e c h1 h2 h3 => hr e c h1 (by omega) h3) F
 have hpair : ∀ {i j ci cj},j < i → cs[i]? = some ci → cs[j]? = some cj → (touches cj.dst ci || touches ci.dst cj) = true → (rows.getD i 0).testBit j = true := by
  intro i j ci cj hji hi hj ht
  have hil : i < cs.length := (List.getElem?_eq_some_iff.1 hi).1
  simp only [pairsOk,List.all_eq_true,List.mem_range] at hpairs
  have := hpairs i hil j hji
  rw [hi,hj] at this
  simp only [ht,Bool.not_true,Bool.false_or] at this
  exact this
 have hbitE : ∀ {i j ci cj},j < i → cs[i]? = some ci → cs[j]? = some cj → readOp ci.op = false → readOp cj.op = false → (rows.getD i 0).testBit j = true := by
  intro i j ci cj hji hi hj hri hrj
  have hil : i < cs.length := (List.getElem?_eq_some_iff.1 hi).1
  simp only [chainOk,List.all_eq_true,List.mem_range] at hchain
  have := hchain i hil j hji
  rw [hi,hj] at this
  simpa only [hri,hrj,Bool.false_or] using this
 have main : ∀ (fuel : Nat) (listed : Array Bool) (a : Act) (w : World),missing listed ≤ fuel → listed.size = ops.size →
   (∀ j,LB listed j = true → ∀ i,(rows.getD j 0).testBit i = true → LB listed i = true) →
   (∃ X,X ≤ cs.length ∧ (∀ e c,cs[e]? = some c → readOp c.op = false → LB listed e = decide (e < X)) ∧ InvE d nt m0 g0 w0 { S X with f := GL A st.f (LB listed) cs.length } a w) →
   wpAnyIn (Fw ro) 0 P .any ops Q fuel listed a w := by
  intro fuel
  have hrow : ∀ {j : Nat} {o : Oper},ops[j]? = some o → rowOk rows j o = true := by
   intro j o ho
   have := rowsOk_get hrows (i := j) (o := o) (by simpa using ho)
   simpa using this
  have hdone : ∀ {listed : Array Bool},listed.size = ops.size → Region.ready .any ops listed = [] → ∀ j,j < ops.size → LB listed j = true := by
   intro listed hsz hr j
   induction j using Nat.strongRecOn with
   | _ j ih =>
    intro hj
    cases hb : LB listed j with
    | true => rfl
    | false =>
     have hmem : j ∈ Region.ready .any ops listed := by
      rw [mem_ready]
      refine ⟨?_,ops[j],by simp [hj],fun e he hbind => ?_⟩
      ·have hb' := hb
       simp only [LB,Array.getD_eq_getD_getElem?] at hb'
       simp only [Array.getD_eq_getD_getElem?]
       rw [Array.getElem?_eq_getElem (by omega)] at hb' ⊢
       exact hb'
      ·have hro := hrow (j := j) (o := ops[j]) (by simp [hj])
       simp only [rowOk,Bool.and_eq_true,Array.all_eq_true_iff_forall_mem,Bool.or_eq_true,Bool.not_eq_true',decide_eq_true_eq] at hro
       have hlt : e.on < j := (hro.2 e he).resolve_left (by simp [hbind])
       exact ih e.on hlt (by omega)
     rw [hr] at hmem
     cases hmem
  have hend : ∀ {listed : Array Bool} {a : Act} {w : World},listed.size = ops.size →
    (∃ X,X ≤ cs.length ∧ (∀ e c,cs[e]? = some c → readOp c.op = false → LB listed e = decide (e < X)) ∧ InvE d nt m0 g0 w0 { S X with f := GL A st.f (LB listed) cs.length } a w) →
    Region.ready .any ops listed = [] → Q .normal a w := by
   rintro listed a w hsz ⟨X,hX,hLX,hi⟩ hr
   have hall := hdone hsz hr
   have hS' := hmem cs.length X hX (Nat.le_refl _) (fun e c h2 h3 hc => by
    cases hro : readOp c.op with
    | true => rfl
    | false =>
     have := hLX e c hc hro
     rw [hall e (by omega)] at this
     simp at this; omega) (GL A st.f (LB listed) cs.length)
   rw [← hS'] at hi
   rw [← hSn] at hq
   refine hq a w (hi.congr (f' := (S cs.length).f) fun t => ?_)
   show get (S cs.length).f t = get (GL A st.f (LB listed) cs.length) t
   rw [hSf _ (Nat.le_refl _)]
   exact GL_congr fun m hm _ => (hall m (by omega)).symm
  induction fuel with
  | zero =>
   intro listed a w hmis hsz hcl hinv
   have hr : Region.ready .any ops listed = [] := by
    cases hr : Region.ready .any ops listed with
    | nil => rfl
    | cons j r =>
     have hmem : j ∈ Region.ready .any ops listed := by rw [hr]; exact List.mem_cons_self
     rw [mem_ready] at hmem
     obtain ⟨h2,o,ho,_⟩ := hmem
     have hj : j < ops.size := (Array.getElem?_eq_some_iff.1 ho).1
     have hb : LB listed j = false := by
      simp only [LB,Array.getD_eq_getD_getElem?] at h2 ⊢
      rw [Array.getElem?_eq_getElem (by omega)] at h2 ⊢
      exact h2
     have := missing_set (i := j) (by omega : j < listed.size) hb
     omega
   exact ⟨hr,hend hsz hinv hr⟩
  | succ fuel ih =>
   intro listed a w hmis hsz hcl hinv
   refine ⟨hend hsz hinv,fun j hmem' => ?_⟩
   rw [mem_ready] at hmem'
   obtain ⟨h2,o,ho,hedges⟩ := hmem'
   have hj : j < ops.size := (Array.getElem?_eq_some_iff.1 ho).1
   have hb : LB listed j = false := by
    simp only [LB,Array.getD_eq_getD_getElem?] at h2 ⊢
    rw [Array.getElem?_eq_getElem (by omega)] at h2 ⊢
    exact h2
   have hjs : j < listed.size := by omega
   have hjc : j < cs.length := by omega
   obtain ⟨c,hc,hck⟩ := chkOps_get hk (j := j) (o := o) (by simpa using ho)
   have hmis' := missing_set hjs hb
   have hset := LB_set hjs
   have hrl : ∀ i,(rows.getD j 0).testBit i = true → LB listed i = true := fun i hi => row_ready (hrow ho) hcl hedges hi
   have hcl' : ∀ j',LB (listed.setIfInBounds j true) j' = true → ∀ i,(rows.getD j' 0).testBit i = true → LB (listed.setIfInBounds j true) i = true := by
    intro j' hj' i hi
    rw [hset] at hj' ⊢
    simp only [Bool.or_eq_true,decide_eq_true_eq] at hj' ⊢
    rcases hj' with rfl | hj'
    ·exact .inr (hrl i hi)
    ·exact .inr (hcl j' hj' i hi)
   obtain ⟨X,hX,hLX,hi⟩ := hinv
   have hside : ∀ m cm,cs[m]? = some cm → (touches cm.dst c || touches c.dst cm) = true → LB listed m = decide (m < j) := by
    intro m cm hcm ht
    rcases Nat.lt_trichotomy m j with hmj | rfl | hmj
    ·rw [hrl m (hpair hmj hc hcm ht)]; simp [hmj]
    ·rw [hb]; simp
    ·have : LB listed m = false := by
      cases hbm : LB listed m with
      | false => rfl
      | true =>
       have := hcl m hbm j (hpair hmj hcm hc (by rw [Bool.or_comm]; exact ht))
       rw [hb] at this; cases this
     rw [this]; simp; omega
   have hslots : ∀ s ∈ slotsOf c,get (GL A st.f (LB listed) cs.length) s = get (S j).f s := by
    intro s hs
    rw [hSf j (by omega),← GL_lt (n := cs.length) (by omega : j ≤ cs.length)]
    refine GL_congr fun m hm' hg => ?_
    have hcm : cs[m]? = some cs[m] := by simp
    have hd := hAd hcm hg
    exact hside m _ hcm (by simp [touches,hd,hs])
   have hframe : ∀ t,get (GL A st.f (LB (listed.setIfInBounds j true)) cs.length) t = get (A j ++ GL A st.f (LB listed) cs.length) t := by
    intro t
    rw [get_app]
    by_cases hg : get (A j) t = none
    ·rw [hg]
     show _ = get (GL A st.f (LB listed) cs.length) t
     refine GL_congr fun m hm' hgm => ?_
     rw [hset]
     have : ¬ m = j := by rintro rfl; exact hgm hg
     simp [this]
    ·rw [GL_last hjc (by rw [hset]; simp) hg fun m hjm hm' hgm => ?_]
     ·cases hgg : get (A j) t with
      | none => exact (hg hgg).elim
      | some v => rfl
     ·have hcm : cs[m]? = some cs[m] := by simp
      have hd1 := hAd hc hg
      have hd2 := hAd hcm hgm
      have := hside m _ hcm (by simp [touches,hd1,hd2])
      rw [hset,this]
      simp; omega
   cases hro : readOp c.op with
   | true =>
    obtain ⟨v,hv,_⟩ := hrd j c hc hro
    have hval : c.evH K { S X with f := GL A st.f (LB listed) cs.length } = some v := by
     have e1 : c.evH K { S X with f := GL A st.f (LB listed) cs.length } = c.evH K { S X with f := (S j).f } := evH_at hslots rfl rfl
     rw [e1]
     rcases Nat.lt_or_ge j X with hjX | hXj
     ·
      by_cases hex : ∃ e ce,j < e ∧ e < X ∧ cs[e]? = some ce ∧ readOp ce.op = false
      ·
       obtain ⟨e1',he1⟩ : ∃ e,(∃ ce,j < e ∧ e < X ∧ cs[e]? = some ce ∧ readOp ce.op = false) ∧ ∀ e2 ce2,e < e2 → e2 < X → cs[e2]? = some ce2 → readOp ce2.op = true := by
        obtain ⟨e,ce,h3,h4,h5,h6⟩ := hex
        have key : ∀ (k e : Nat),X - e ≤ k → (∃ ce,j < e ∧ e < X ∧ cs[e]? = some ce ∧ readOp ce.op = false) → ∃ e,(∃ ce,j < e ∧ e < X ∧ cs[e]? = some ce ∧ readOp ce.op = false) ∧ ∀ e2 ce2,e < e2 → e2 < X → cs[e2]? = some ce2 → readOp ce2.op = true := by
         intro k
         induction k with
         | zero => intro e hk ⟨ce,h3,h4,_⟩; omega
         | succ k ih2 =>
          intro e hk he
          by_cases hmore : ∃ e2 ce2,e < e2 ∧ e2 < X ∧ cs[e2]? = some ce2 ∧ readOp ce2.op = false
          ·obtain ⟨e2,ce2,h7,h8,h9,h10⟩ := hmore
           obtain ⟨ce,h3,_⟩ := he
           exact ih2 e2 (by omega) ⟨ce2,by omega,h8,h9,h10⟩
          ·refine ⟨e,he,fun e2 ce2 h7 h8 h9 => ?_⟩
           cases hrr : readOp ce2.op with
           | true => rfl
           | false => exact (hmore ⟨e2,ce2,h7,h8,h9,hrr⟩).elim
        exact key (X - e) e (Nat.le_refl _) ⟨ce,h3,h4,h5,h6⟩
       obtain ⟨⟨ce,h3,h4,h5,h6⟩,hlast⟩ := he1
       rw [hmem X (e1' + 1) (by omega) hX (fun e2 c2 h7 h8 h9 => hlast e2 c2 (by omega) h8 h9)]
       rcases hlate j e1' c ce v h5 h6 h3 hc hro hv with h7 | h7 | h7
       ·have hl : LB listed e1' = true := by rw [hLX e1' ce h5 h6]; simp [h4]
        have := hcl e1' hl j h7
        rw [hb] at this; cases this
       ·rw [evH_calm h7 (S (e1' + 1)) (S j) (S j).f]; exact hv
       ·exact h7
      ·rw [hmem X j (by omega) hX (fun e2 c2 h7 h8 h9 => by
        cases hrr : readOp c2.op with
        | true => rfl
        | false =>
         by_cases hej : e2 = j
         ·subst hej; rw [hc] at h9; cases h9; rw [hro] at hrr; cases hrr
         ·exact (hex ⟨e2,c2,by omega,h8,h9,hrr⟩).elim)]
       exact hv
     ·
      by_cases hex : ∃ e ce,X ≤ e ∧ e < j ∧ cs[e]? = some ce ∧ readOp ce.op = false
      ·
       obtain ⟨e0,he0⟩ : ∃ e,(∃ ce,X ≤ e ∧ e < j ∧ cs[e]? = some ce ∧ readOp ce.op = false) ∧ ∀ e2 ce2,X ≤ e2 → e2 < e → cs[e2]? = some ce2 → readOp ce2.op = true := by
        obtain ⟨e,ce,h3,h4,h5,h6⟩ := hex
        have key : ∀ (k e : Nat),e ≤ k → (∃ ce,X ≤ e ∧ e < j ∧ cs[e]? = some ce ∧ readOp ce.op = false) → ∃ e,(∃ ce,X ≤ e ∧ e < j ∧ cs[e]? = some ce ∧ readOp ce.op = false) ∧ ∀ e2 ce2,X ≤ e2 → e2 < e → cs[e2]? = some ce2 → readOp ce2.op = true := by
         intro k
         induction k with
         | zero => intro e hk he; exact ⟨e,he,fun e2 ce2 h7 h8 => by omega⟩
         | succ k ih2 =>
          intro e hk he
          by_cases hmore : ∃ e2 ce2,X ≤ e2 ∧ e2 < e ∧ cs[e2]? = some ce2 ∧ readOp ce2.op = false
          ·obtain ⟨e2,ce2,h7,h8,h9,h10⟩ := hmore
           obtain ⟨ce,_,h4,_⟩ := he
           exact ih2 e2 (by omega) ⟨ce2,h7,by omega,h9,h10⟩
          ·refine ⟨e,he,fun e2 ce2 h7 h8 h9 => ?_⟩
           cases hrr : readOp ce2.op with
           | true => rfl
           | false => exact (hmore ⟨e2,ce2,h7,h8,h9,hrr⟩).elim
        exact key e e (Nat.le_refl _) ⟨ce,h3,h4,h5,h6⟩
       obtain ⟨⟨ce,h3,h4,h5,h6⟩,hfirst⟩ := he0
       have hXe := hmem e0 X h3 (by omega) (fun e2 c2 h7 h8 h9 => hfirst e2 c2 h7 h8 h9) (S j).f
       rw [← hXe]
       rcases hpast e0 j ce c v h5 h6 h4 hc hro hv with h7 | h7 | h7
       ·have hl := hrl e0 h7
        rw [hLX e0 ce h5 h6] at hl
        simp at hl; omega
       ·rw [evH_calm h7 (S e0) (S j) (S j).f]; exact hv
       ·rw [← h7]; exact evH_at (fun _ _ => rfl) rfl rfl
      ·rw [← hmem j X hXj (by omega) (fun e2 c2 h7 h8 h9 => by
        cases hrr : readOp c2.op with
        | true => rfl
        | false => exact (hex ⟨e2,c2,h7,h8,h9,hrr⟩).elim)]
       exact hv
    have hbl : bslOk c = true := by
     have := List.all_eq_true.1 hbs c (List.mem_of_getElem? hc)
     simpa [hro] using this
    unfold wpOpIn
    simp only [ho]
    refine copH_ok hK hok hck hbl hi hval fun a' w' hi' => ?_
    refine ih _ a' w' (by omega) (by simpa using hsz) hcl' ⟨X,hX,fun e ce hce hre => ?_,?_⟩
    ·rw [hset,hLX e ce hce hre]
     have : ¬ e = j := by rintro rfl; rw [hc] at hce; cases hce; rw [hro] at hre; cases hre
     simp [this]
    ·rw [put_pushL] at hi'
     refine hi'.congr fun t => ?_
     rw [← (hA j c hc).2.2.1 hro v hv]
     exact hframe t
   | false =>
    have hXj : X ≤ j := by
     rcases Nat.lt_or_ge j X with hlt | hge
     ·have := hLX j c hc hro; rw [hb] at this; simp at this; omega
     ·exact hge
    have hSX := hmem j X hXj (by omega) (fun e2 c2 h7 h8 h9 => by
     cases hrr : readOp c2.op with
     | true => rfl
     | false =>
      have hl := hrl e2 (hbitE h8 hc h9 hro hrr)
      rw [hLX e2 c2 h9 hrr] at hl
      simp at hl; omega) (GL A st.f (LB listed) cs.length)
    rw [← hSX] at hi
    have hev := (hA j c hc).2.2.2 hro _ hslots
    unfold wpOpIn
    simp only [ho]
    refine cop_ok hK hok hck hi hev fun a' w' hi' => ?_
    refine ih _ a' w' (by omega) (by simpa using hsz) hcl' ⟨j + 1,by omega,fun e ce hce hre => ?_,hi'.congr hframe⟩
    rw [hset]
    by_cases hej : e = j
    ·subst hej; simp
    ·rcases Nat.lt_or_ge e j with hlt | hge
     ·rw [hrl e (hbitE hlt hc hce hro hre)]; simp; omega
     ·have : LB listed e = false := by
       cases hbe : LB listed e with
       | false => rfl
       | true =>
        have := hcl e hbe j (hbitE (by omega) hce hc hre hro)
        rw [hb] at this; cases this
      rw [this]; simp; omega
 refine main ops.size _ a _ ?_ (by simp) ?_ ⟨0,Nat.zero_le _,fun e c _ _ => ?_,?_⟩
 ·unfold missing
  refine Nat.le_trans (List.length_filter_le _ _) ?_
  simp
 ·intro j hj
  exfalso
  simp only [LB,Array.getD_eq_getD_getElem?,Array.getElem?_replicate] at hj
  split at hj <;> simp at hj
 ·simp only [LB,Array.getD_eq_getD_getElem?,Array.getElem?_replicate]
  split <;> simp
 ·rw [hS0]
  refine h.drawn.congr fun t => ?_
  have : ∀ (n : Nat),get (GL A st.f (LB (Array.replicate ops.size false)) n) t = get st.f t := by
   intro n
   induction n with
   | zero => rfl
   | succ n ih =>
    have : LB (Array.replicate ops.size false) n = false := by
     simp only [LB,Array.getD_eq_getD_getElem?,Array.getElem?_replicate]
     split <;> simp
    simp only [GL,this,Bool.false_eq_true,if_false,List.nil_append]
    exact ih
  exact this cs.length
end
end Go.Proofs.Ytmffcpiffkclgaa.ZJM
